/- Contracts from elsewhere: library functions whose walk is another's. -/
import Derived.Test.YtommgpkeicpokaaGreatDoorAbsFn
namespace Go.Proofs.YtommgpkeicpokaaGreatDoor.Abs
open Go Go.RowKit
set_option linter.unusedVariables false
set_option linter.unusedSectionVars false
set_option linter.unusedSimpArgs false

section
variable {P : Program} {f : FuncId} {X : Type} {args : List RC} {pat : Nat → List AV → List HE → Option (Option X)}

theorem hrel_nil {MX D : Nat → Prop} {w w' : World} {ρ ρ' : Nat → Value} {hp : Heap} (H : HRel MX w ρ hp) (off : Off D w w') (hD : ∀ b, b < w.heap.size → D b → Lv hp ρ b) : HRel MX w' ρ' (hpOf []) :=
  ⟨fun i => by simp [hpOf, HEok], fun i j b h => by simp [hpOf, live] at h, fun i b h => by simp [hpOf, live] at h, fun b hb => Nat.lt_of_lt_of_le (H.mx b hb) off.size, H.tb.next off hD (fun b _ ⟨i, hl, _⟩ => by simp [hpOf, live] at hl)⟩

/-- A function that tells a plain value. -/
theorem sound_plain {emb : X → AV} (h : ∀ k avs H o x, pat k avs H = some o → o = some x → H = [] ∧ ∀ M w ρ hp vals, Rs M w ρ hp avs vals →
      Calls P f vals.toArray w fun e w' => ∃ v, e = .returned v ∧ Below w.heap.size w w' ∧ ∀ M w ρ hp, R M w ρ hp (emb x) v) : Sound P f (mkS args pat fun x => (emb x, [])) := by
  intro k avs H c x hc hx MX w ρ vals hst
  unfold mkS at hc
  simp only at hc
  split at hc
  case h_2 => cases hc
  rename_i o ho
  injection hc with hc
  subst hc
  obtain ⟨rfl, hcall⟩ := h k avs H o x ho hx
  refine (hcall _ w ρ _ vals hst.args).mono ?_
  rintro e w' ⟨v, rfl, hb, hr⟩
  exact ⟨v, ρ, rfl, hrel_nil (D := fun _ => False) hst.rel (Off.below hb _) (fun _ _ h => h.elim), hr _ _ _ _, fun i hi => Old.refl _, Off.below hb _, fun b _ ⟨i, hl, _⟩ => by simp [hpOf, live] at hl, fun i cs hi => by simp [hpOf] at hi⟩

/-- A function that tells a plain value out of the tables. -/
theorem sound_tab {emb : X → AV} (h : ∀ k avs H o x, pat k avs H = some o → o = some x → H = [] ∧ ∀ M L w ρ hp vals, Tb w L → Rs M w ρ hp avs vals →
      Calls P f vals.toArray w fun e w' => ∃ v, e = .returned v ∧ Below w.heap.size w w' ∧ ∀ M w ρ hp, R M w ρ hp (emb x) v) : Sound P f (mkS args pat fun x => (emb x, [])) := by
  intro k avs H c x hc hx MX w ρ vals hst
  unfold mkS at hc
  simp only at hc
  split at hc
  case h_2 => cases hc
  rename_i o ho
  injection hc with hc
  subst hc
  obtain ⟨rfl, hcall⟩ := h k avs H o x ho hx
  refine (hcall _ _ w ρ _ vals hst.rel.tb hst.args).mono ?_
  rintro e w' ⟨v, rfl, hb, hr⟩
  exact ⟨v, ρ, rfl, hrel_nil (D := fun _ => False) hst.rel (Off.below hb _) (fun _ _ h => h.elim), hr _ _ _ _, fun i hi => Old.refl _, Off.below hb _, fun b _ ⟨i, hl, _⟩ => by simp [hpOf, live] at hl, fun i cs hi => by simp [hpOf] at hi⟩

/-- A function that tells a row of its own, out of the tables. -/
theorem sound_rowtab {e : TypeId} {t : Ty} {emb : X → List t.den} (h : ∀ k avs H o x, pat k avs H = some o → o = some x → H = [] ∧ ∀ M L w ρ hp vals, Tb w L → Rs M w ρ hp avs vals →
      Calls P f vals.toArray w fun en w' => ∃ v xs, en = .returned v ∧ Below w.heap.size w w' ∧ w'.ownsRow w.heap.size e t.sz v (emb x).length xs ∧ Els (t.KR M w) (emb x) xs) : Sound P f (mkS args pat fun x => (.own 0, [.row e t (emb x)])) := by
  intro k avs H c x hc hx MX w ρ vals hst
  unfold mkS at hc
  simp only at hc
  split at hc
  case h_2 => cases hc
  rename_i o ho
  injection hc with hc
  subst hc
  obtain ⟨rfl, hcall⟩ := h k avs H o x ho hx
  refine (hcall _ _ w ρ _ vals hst.rel.tb hst.args).mono ?_
  rintro en w' ⟨v, xs, rfl, hb, hown, hels⟩
  have hv : ∃ a n c, v = .slice a n c := by
    rcases hown.2 with h | ⟨g, cap, cur, h, _⟩
    · exact ⟨_, _, _, h.1⟩
    · exact ⟨_, _, _, h⟩
  have hfar : ∀ b, At v b → w.heap.size ≤ b := by
    intro b hbv
    rcases hown.2 with h | ⟨g, cap, cur, h, hg, _⟩
    · rw [h.1] at hbv; cases hbv
    · have : g = b := by simpa [At, blk, h] using hbv
      omega
  have hlv : ∀ b, Lv (hpOf [.row e t (emb x)]) (upd ρ 0 v) b → w.heap.size ≤ b := by
    rintro b ⟨i, hl, hbi⟩
    cases i with
    | zero => rw [upd_same] at hbi; exact hfar b hbi
    | succ i => simp [hpOf, live] at hl
  have hM : ∀ b, b < w.heap.size → Mut MX (hpOf [.row e t (emb x)]) (upd ρ 0 v) b → Mut MX (hpOf []) ρ b := by
    rintro b hb (h | h)
    · exact .inl h
    · have := hlv b h; omega
  refine ⟨v, upd ρ 0 v, rfl, Left.of hst (fun i => ?_) (fun i j b hl hl' _ _ => ?_) (fun i b hl hbi hmx => ?_) ⟨by simp [hpOf], by rw [upd_same]; exact (hd_v hv).symm, hv⟩ (fun i hi => (by simp at hi)) (Off.below hb _) (fun b hlt hl => (by have := hlv b hl; omega)) (fun i cs hi => by simp [hpOf] at hi)⟩
  · cases i with
    | zero => exact ⟨xs, by rw [upd_same]; exact ⟨hown.1, hown.2.imp id fun ⟨g, cap, cur, h1, _, h3⟩ => ⟨g, cap, cur, h1, Nat.zero_le _, h3⟩⟩, Els.imp (fun y cs h => KR_step (D := fun _ => False) (Off.below hb _) (fun _ _ h => h.elim) hM t h) hels⟩
    | succ i => simp [hpOf, HEok]
  · cases i with
    | zero => cases j with
      | zero => rfl
      | succ j => simp [hpOf, live] at hl'
    | succ i => simp [hpOf, live] at hl
  · have := hst.rel.mx b hmx
    have := hlv b ⟨i, hl, hbi⟩
    omega

/-- A function that tells a row of its own. -/
theorem sound_row {e : TypeId} {t : Ty} {emb : X → List t.den} (h : ∀ k avs H o x, pat k avs H = some o → o = some x → H = [] ∧ ∀ M w ρ hp vals, Rs M w ρ hp avs vals →
      Calls P f vals.toArray w fun en w' => ∃ v xs, en = .returned v ∧ Below w.heap.size w w' ∧ w'.ownsRow w.heap.size e t.sz v (emb x).length xs ∧ Els (t.KR M w) (emb x) xs) : Sound P f (mkS args pat fun x => (.own 0, [.row e t (emb x)])) :=
  sound_rowtab fun k avs H o x ho hx => ⟨(h k avs H o x ho hx).1, fun M L w ρ hp vals _ hr => (h k avs H o x ho hx).2 M w ρ hp vals hr⟩
end

theorem strs_els {M : Nat → Prop} {w : World} : (l : List ByteArray) → Els (Ty.KR M w .str) l (l.map Value.string)
  | [] => rfl
  | s :: l => ⟨[.string s], _, rfl, rfl, strs_els l⟩

/-! ### slices.Clone at whole numbers -/
theorem ints_els {M : Nat → Prop} {w : World} : (l : List Int) → Els (Ty.KR M w (.int .i64)) l (l.map (Value.int .i64))
  | [] => rfl
  | x :: l => ⟨[.int .i64 x], l.map (Value.int .i64), rfl, rfl, ints_els l⟩

theorem clone_int_calls {P : Program} {f : FuncId} {e : TypeId} {M : Nat → Prop} {w : World} (l : List Int) (A : Option Addr) (c : Nat) (_hle : l.length ≤ c) (hr : RowR M w (Ty.KR M w (.int .i64)) 1 A l) (hl : l.length ≤ 1099511627776)
    (hnil : ∀ n c w, Calls P f #[.slice none n c] w fun e w' => e = .returned (.slice none 0 0) ∧ w' = w)
    (hzero : ∀ a c w, Calls P f #[.slice (some a) 0 c] w fun en w' => ∃ v', en = .returned v' ∧ w'.ownsRow w.heap.size e 1 v' 0 [] ∧ v' ≠ .slice none 0 0 ∧ Below w.heap.size w w')
    (hsome : ∀ b off n c (zs : List Int) w, n ≤ zs.length → n * 8 ≤ 140737488355328 → (∀ j, j < zs.length → w.cell? ⟨b, off + j, none⟩ = some (.int .i64 (zs.getD j 0))) → Calls P f #[.slice (some ⟨b, off, none⟩) n c] w fun en w' => ∃ v', en = .returned v' ∧ w'.ownsRow w.heap.size e 1 v' n ((zs.take n).map (Value.int .i64)) ∧ v' ≠ .slice none 0 0 ∧ Below w.heap.size w w') :
    Calls P f (List.toArray [.slice A l.length c]) w fun en w' => ∃ v xs, en = .returned v ∧ Below w.heap.size w w' ∧ w'.ownsRow w.heap.size e 1 v l.length xs ∧ Els (Ty.KR M w (.int .i64)) l xs := by
  cases l with
  | nil =>
    cases A with
    | none =>
      refine (hnil 0 c w).mono ?_
      rintro en w' ⟨rfl, rfl⟩
      exact ⟨_, [], rfl, Below.refl _ _, World.ownsRow_nil _ _ _ _, rfl⟩
    | some a =>
      refine (hzero a c w).mono ?_
      rintro en w' ⟨v', rfl, h1, _, h2⟩
      exact ⟨_, [], rfl, h2, h1, rfl⟩
  | cons x l =>
    obtain ⟨b, o, cs, rfl, _⟩ := hr 0 x rfl
    refine (hsome b o (x :: l).length c (x :: l) w (Nat.le_refl _) (by omega) (fun j hj => ?_)).mono ?_
    · obtain ⟨b', o', cs', e1, _, _, e2, e3⟩ := hr j _ (List.getElem?_eq_getElem hj)
      injection e1 with e1
      injection e1 with e4 e5
      subst e4 e5
      have e2 : cs' = [.int .i64 (x :: l)[j]] := e2
      subst e2
      have := e3 0 _ rfl
      rw [Nat.mul_one, Nat.add_zero] at this
      rw [this, List.getD_eq_getElem?_getD, List.getElem?_eq_getElem hj]
      rfl
    · rintro en w' ⟨v', rfl, h1, _, h2⟩
      rw [List.take_length] at h1
      exact ⟨_, _, rfl, h2, h1, ints_els _⟩
end Go.Proofs.YtommgpkeicpokaaGreatDoor.Abs
