/- Operations that write memory. -/
import Derived.Test.YtommgpkeicpokaaGreatDoorAbsOps2
import Derived.Laws.MakeOwn
namespace Go.Proofs.YtommgpkeicpokaaGreatDoor.Abs
open Go Go.RowKit
set_option linter.unusedVariables false
set_option linter.unusedSectionVars false
set_option linter.unusedSimpArgs false

theorem Eff.bind_assoc {α β γ : Type} : (e : Eff α) → (f : α → Eff β) → (g : β → Eff γ) → (e.bind f).bind g = e.bind fun x => (f x).bind g
  | .ret _, _, _ => rfl
  | .fail, _, _ => rfl
  | .rd i k, f, g => by simp only [Eff.bind]; congr 1; funext h; exact Eff.bind_assoc (k h) f g
  | .wr i h k, f, g => by simp only [Eff.bind]; congr 1; exact Eff.bind_assoc k f g
  | .nw h k, f, g => by simp only [Eff.bind]; congr 1; funext i; exact Eff.bind_assoc (k i) f g
  | .br c d t e, f, g => by simp only [Eff.bind]; congr 1 <;> exact Eff.bind_assoc _ f g
  | .gd c d e, f, g => by simp only [Eff.bind]; congr 1; exact Eff.bind_assoc _ f g
  | .opt X o k, f, g => by simp only [Eff.bind]; congr 1; funext x; exact Eff.bind_assoc (k x) f g
  | .rdS i k, f, g => by simp only [Eff.bind]; congr 1; funext h; exact Eff.bind_assoc (k h) f g
  | .wrS i c k, f, g => by simp only [Eff.bind]; congr 1; exact Eff.bind_assoc k f g

section
variable {Rt : Type} {P : Program} {MX : Nat → Prop} {w : World} {ρ : Nat → Value} {hp : Heap} {b : Nat} {rs ws : List Nat} {K : AV → Nat → Heap → List Nat → List Nat → Option Rt} {r : Rt}

theorem isCell_one {M : Nat → Prop} {a : AV} {y : Value} (h : isCell a = true) (ha : R M w ρ hp a y) : y.oneCell' = true := by
  cases a with
  | v x =>
    rw [show y = x from ha]
    cases x <;> simp_all [isCell, Value.oneCell']
  | bs ng t => rw [show y = _ from ha]; rfl
  | bp ng p d => rw [show y = _ from ha]; rfl
  | ifc n => rcases ha with ⟨_, rfl⟩ | ⟨_, t, x, rfl⟩ <;> rfl
  | con t l => obtain ⟨A, c, rfl, _⟩ := ha; rfl
  | own i => obtain ⟨_, _, A, n, c, rfl⟩ := ha; rfl
  | box i off => obtain ⟨_, g, o, _, rfl⟩ := ha; rfl
  | elt t x off => obtain ⟨g, o, cs, rfl, _⟩ := ha; rfl
  | oel i sz j off => obtain ⟨_, g, n, c, _, _, rfl⟩ := ha; rfl
  | mp i => obtain ⟨_, _, b', rfl⟩ := ha; rfl
  | sub i lo => obtain ⟨_, g, n, c, c', A, _, _, rfl, _⟩ := ha; rfl
  | fn f n cs => obtain ⟨vs, rfl, _⟩ := ha; rfl
  | agg cs => cases h
  | tup cs => cases h
  | dead => cases h

theorem isCells_one {M : Nat → Prop} : {as : List AV} → {vs : List Value} → as.all isCell = true → Rs M w ρ hp as vs → ∀ u ∈ vs, u.oneCell' = true
  | [], _, _, h, u, hu => by cases h; cases hu
  | a :: as, _, hc, ⟨v, r, e, h0, h1⟩, u, hu => by
    simp only [List.all_cons, Bool.and_eq_true] at hc
    rw [e] at hu
    rcases List.mem_cons.1 hu with hu | hu
    · rw [hu]; exact isCell_one hc.1 h0
    · exact isCells_one hc.2 h1 u hu

/-- A new box. -/
theorem nw_box (H : HRel MX w ρ hp) {cs : List AV} {vs : List Value} {T : TypeId} (hr : Rs (Mut MX hp ρ) w ρ hp cs vs) (hk : (Eff.nw (.box cs) fun i => .ret (.box i 0)).go b hp rs ws K = some r) :
    ∃ x b' hp' rs' ws' ρ', K x b' hp' rs' ws' = some r ∧ Step MX w ρ hp (w.alloc (.cells vs.toArray T)) ρ' hp' ∧ R (Mut MX hp' ρ') (w.alloc (.cells vs.toArray T)) ρ' hp' x (.pointer (some ⟨w.heap.size, 0, none⟩)) := by
  simp only [Eff.go] at hk
  split at hk
  case h_2 => cases hk
  rename_i hu
  refine ⟨_, _, _, _, _, upd ρ b (.pointer (some ⟨w.heap.size, 0, none⟩)), hk, Step.alloc H hu rfl ?_, ?_⟩
  · intro M ρ' hp' old hv hM
    exact ⟨w.heap.size, 0, vs.toArray, T, vs, hv, heap_alloc_new w _, Rs_step (D := fun _ => False) (Off.alloc _ _ _) (fun _ _ h => h.elim) hM old cs hr, fun j v hj => by simpa using hj⟩
  · exact ⟨by rw [upd_same]; simp, w.heap.size, 0, by rw [upd_same], rfl⟩

/-- A new box whose first cell is a pointer to itself, or none. -/
theorem nw_bld (H : HRel MX w ρ hp) {c : AV} {vs : List Value} {T : TypeId} (hr : Rs (Mut MX hp ρ) w ρ hp [.v (.pointer none), c] vs) (hk : (Eff.nw (.bld T c) fun i => .ret (.box i 0)).go b hp rs ws K = some r) :
    ∃ x b' hp' rs' ws' ρ', K x b' hp' rs' ws' = some r ∧ Step MX w ρ hp (w.alloc (.cells vs.toArray T)) ρ' hp' ∧ R (Mut MX hp' ρ') (w.alloc (.cells vs.toArray T)) ρ' hp' x (.pointer (some ⟨w.heap.size, 0, none⟩)) := by
  simp only [Eff.go] at hk
  split at hk
  case h_2 => cases hk
  rename_i hu
  obtain ⟨v0, q0, rfl, h0, h1⟩ := hr
  obtain ⟨v1, q1, rfl, h1, h2⟩ := h1
  obtain rfl : q1 = [] := h2
  obtain rfl : v0 = .pointer none := h0
  refine ⟨_, _, _, _, _, upd ρ b (.pointer (some ⟨w.heap.size, 0, none⟩)), hk, Step.alloc H hu rfl ?_, ?_⟩
  · intro M ρ' hp' old hv hM
    exact ⟨w.heap.size, .pointer none, v1, hv, heap_alloc_new w _, .inl rfl, R_step (D := fun _ => False) (Off.alloc _ _ _) (fun _ _ h => h.elim) hM old c h1⟩
  · exact ⟨by rw [upd_same]; simp, w.heap.size, 0, by rw [upd_same], rfl⟩

theorem zeroCellsAt_some {T : TypeId} {cs : List AV} (h : zeroCellsAt P T = some cs) : ∃ i z, P.info? T = some i ∧ i.zero = some z ∧ ∀ (M : Nat → Prop) (w : World) (ρ : Nat → Value) (hp : Heap), Rs M w ρ hp cs z.cells.toList := by
  unfold zeroCellsAt at h
  cases hi : P.info? T with
  | none => rw [hi] at h; cases h
  | some i =>
    rw [hi] at h
    cases hz : i.zero with
    | none => simp [hz] at h
    | some z =>
      simp [hz] at h
      refine ⟨i, z, rfl, hz, fun M w ρ hp => ?_⟩
      obtain ⟨vs, e, hr⟩ := cellsOf_sound (M := M) (w := w) (ρ := ρ) (hp := hp) (a := .v z) (y := z) rfl h
      rw [e]; exact hr

theorem allocE_sound (H : HRel MX w ρ hp) {T : TypeId} (hk : (allocE P T).go b hp rs ws K = some r) :
    ∃ x b' hp' rs' ws' v w' ρ', K x b' hp' rs' ws' = some r ∧ (Instr.alloc T true (.tuple #[])).run P w = .ok v w' ∧ Step MX w ρ hp w' ρ' hp' ∧ R (Mut MX hp' ρ') w' ρ' hp' x v := by
  unfold allocE at hk
  split at hk
  case h_2 => cases hk
  rename_i cs hz0
  obtain ⟨i, z, hi, hz, hr⟩ := zeroCellsAt_some hz0
  split at hk
  case h_2 => cases hk
  case h_1 =>
    rename_i c _ _
    obtain ⟨x, b', hp', rs', ws', ρ', hK, hs, hR⟩ := nw_bld (T := T) H (hr _ _ _ _) hk
    refine ⟨x, b', hp', rs', ws', _, _, ρ', hK, ?_, hs, hR⟩
    simp [Instr.alloc, zeroValue, typeInfo, hi, hz, newVar, newRow]
  obtain ⟨x, b', hp', rs', ws', ρ', hK, hs, hR⟩ := nw_box (T := T) H (hr _ _ _ _) hk
  refine ⟨x, b', hp', rs', ws', _, _, ρ', hK, ?_, hs, hR⟩
  simp [Instr.alloc, zeroValue, typeInfo, hi, hz, newVar, newRow]

theorem boxE_sound (H : HRel MX w ρ hp) {T : TypeId} {x : AV} {y : Value} (hx : R (Mut MX hp ρ) w ρ hp x y) (hk : (boxE x).go b hp rs ws K = some r) :
    ∃ x b' hp' rs' ws' v w' ρ', K x b' hp' rs' ws' = some r ∧ (Instr.box T y).run P w = .ok v w' ∧ Step MX w ρ hp w' ρ' hp' ∧ R (Mut MX hp' ρ') w' ρ' hp' x v := by
  unfold boxE at hk
  split at hk
  case h_2 => cases hk
  rename_i cs hc
  split at hk
  case h_2 => cases hk
  obtain ⟨vs, e, hr⟩ := cellsOf_sound hx hc
  obtain ⟨x, b', hp', rs', ws', ρ', hK, hs, hR⟩ := nw_box (T := T) H hr hk
  refine ⟨x, b', hp', rs', ws', _, _, ρ', hK, ?_, hs, hR⟩
  rw [← e]
  simp [Instr.box, newVar, newRow]

theorem dec_sound {M : Nat → Prop} : (t : Ty) → {cs : List AV} → {x : t.den} → {vs : List Value} → t.dec cs = some x → Rs M w ρ hp cs vs → t.KR M w x vs
  | .int k, cs, x, vs, h, hr => by
    unfold Ty.dec at h
    split at h
    case h_2 => cases h
    rename_i k' n
    split at h
    case h_2 => cases h
    rename_i hkk _
    subst hkk
    injection h with h
    obtain ⟨v, r, rfl, hv, hr⟩ := hr
    cases hr
    rw [show v = _ from hv, h]
    rfl
  | .bool, cs, x, vs, h, hr => by
    unfold Ty.dec at h
    split at h
    case h_6 => cases h
    all_goals
      injection h with h
      obtain ⟨v, r, rfl, hv, hr⟩ := hr
      cases hr
      rw [show v = _ from hv, ← h]
      rfl
  | .str, cs, x, vs, h, hr => by
    unfold Ty.dec at h
    split at h
    case h_2 => cases h
    injection h with h
    obtain ⟨v, r, rfl, hv, hr⟩ := hr
    cases hr
    rw [show v = _ from hv, h]
    rfl
  | .sl t, cs, x, vs, h, hr => by
    unfold Ty.dec at h
    split at h
    · rename_i t' l
      split at h
      case h_2 => cases h
      rename_i hkk _
      subst hkk
      injection h with h
      subst h
      obtain ⟨v, r, rfl, hv, hr⟩ := hr
      cases hr
      obtain ⟨A, c, rfl, hl, hrow⟩ := hv
      exact ⟨A, c, rfl, hl, hrow⟩
    · injection h with h
      subst h
      obtain ⟨v, r, rfl, hv, hr⟩ := hr
      cases hr
      rw [show v = _ from hv]
      exact ⟨none, 0, rfl, Nat.le_refl _, fun i x hx => by simp at hx⟩
    · cases h
  | .pair a b, cs, x, vs, h, hr => by
    unfold Ty.dec at h
    split at h
    case h_2 => cases h
    rename_i x0 h0
    split at h
    case h_2 => cases h
    rename_i x1 h1
    injection h with h
    subst h
    exact ⟨vs.take a.sz, vs.drop a.sz, (List.take_append_drop _ _).symm, dec_sound a h0 (Rs_take hr _), dec_sound b h1 (Rs_drop hr _)⟩

/-- A part of a row that is read. -/
theorem sub_con {M : Nat → Prop} {t : Ty} {l : List t.den} {i lo : Nat} {y : Value} {A : Option Addr} {c : Nat} (h1 : t.sz = 1) (hρ : ρ i = .slice A l.length c) (hr : RowR M w (t.KR M w) t.sz A l) (h : R M w ρ hp (.sub i lo) y) : R M w ρ hp (.con t (l.drop lo)) y := by
  obtain ⟨_, g, n, c1, c', A', e, hlo, rfl, hA, hc⟩ := h
  rw [hρ] at e
  injection e with e1 e2 e3
  subst e1 e2 e3
  refine ⟨some A', c', by rw [List.length_drop], by rw [List.length_drop]; exact hc, fun j x hx => ?_⟩
  rw [List.getElem?_drop] at hx
  have hlt := (List.getElem?_eq_some_iff.1 hx).1
  obtain ⟨b, o, cs, hb, hm, hl, hk, hcell⟩ := hr _ x hx
  injection hb with hb
  injection hb with hb1 hb2
  subst hb1 hb2
  refine ⟨g, lo, cs, by rw [hA (by omega)], hm, hl, hk, fun q u hq => ?_⟩
  have := hcell q u hq
  rw [← this]
  congr 2
  rw [h1]
  omega

theorem settle_sound {γ : Type} {K : γ → Nat → Heap → List Nat → List Nat → Option Rt} : {cs : List AV} → {vs : List Value} → {f : List AV → Eff γ} → {hp : Heap} → {rs ws : List Nat} → (H : HRel MX w ρ hp) → (hr : Rs (Mut MX hp ρ) w ρ hp cs vs) →
    (hk : ((settle cs).bind f).go b hp rs ws K = some r) → ∃ cs' hp' rs' ws', (f cs').go b hp' rs' ws' K = some r ∧ Step MX w ρ hp w ρ hp' ∧ Rs (Mut MX hp' ρ) w ρ hp' cs' vs ∧ cs'.length = cs.length
  | [], vs, f, hp, rs, ws, H, hr, hk => ⟨[], hp, rs, ws, hk, Step.refl H, hr, rfl⟩
  | c :: cs, vs, f, hp, rs, ws, H, hr, hk => by
    obtain ⟨v, q, rfl, h0, h1⟩ := hr
    by_cases hc : ∃ i, c = .own i
    case pos =>
      obtain ⟨i, rfl⟩ := hc
      simp only [settle, Eff.bind, Eff.go] at hk
      have hok := H.ok i
      split at hk
      · rename_i e t l hi
        simp only [Eff.bind, Eff.go, Eff.bind_assoc] at hk
        have hs := Step.freeze H hi
        obtain ⟨cs', hp', rs', ws', hK, hst, hr', hl⟩ := settle_sound hs.rel (hs.Rs h1) hk
        have hst' := hs.trans hst
        refine ⟨.con t l :: cs', hp', rs', ws', hK, hst', ⟨v, q, rfl, ?_, hr'⟩, by simp [hl]⟩
        obtain ⟨_, rfl, _⟩ := h0
        have hok' := hs.rel.ok i
        rw [upd_same] at hok'
        obtain ⟨A, c, hv, hle, hrow⟩ := hok'
        exact hst.R (a := .con t l) ⟨A, c, (hd_slice hv).trans hv, hle, hrow⟩
      · rename_i t l hi
        simp only [Eff.bind, Eff.bind_assoc] at hk
        obtain ⟨cs', hp', rs', ws', hK, hst, hr', hl⟩ := settle_sound H h1 hk
        refine ⟨.con t l :: cs', hp', rs', ws', hK, hst, ⟨v, q, rfl, ?_, hr'⟩, by simp [hl]⟩
        obtain ⟨_, rfl, _⟩ := h0
        rw [hi] at hok
        obtain ⟨A, c, hv, hle, hrow⟩ := hok
        exact hst.R (a := .con t l) ⟨A, c, (hd_slice hv).trans hv, hle, hrow⟩
      · cases hk
    by_cases hc2 : ∃ i lo, c = .sub i lo
    · obtain ⟨i, lo, rfl⟩ := hc2
      simp only [settle, Eff.bind, Eff.go] at hk
      have hok := H.ok i
      split at hk
      · rename_i e t l hi
        split at hk
        case h_2 => cases hk
        rename_i hsz
        have hsz := Nat.eq_of_beq_eq_true hsz
        simp only [Eff.bind, Eff.go, Eff.bind_assoc] at hk
        have hs := Step.freeze H hi
        obtain ⟨cs', hp', rs', ws', hK, hst, hr', hl⟩ := settle_sound hs.rel (hs.Rs h1) hk
        have hst' := hs.trans hst
        refine ⟨.con t (l.drop lo) :: cs', hp', rs', ws', hK, hst', ⟨v, q, rfl, ?_, hr'⟩, by simp [hl]⟩
        have hok' := hs.rel.ok i
        rw [upd_same] at hok'
        obtain ⟨A, c, hv, hle, hrow⟩ := hok'
        exact hst.R (sub_con hsz hv hrow (hs.R h0))
      · rename_i t l hi
        split at hk
        case h_2 => cases hk
        rename_i hsz
        have hsz := Nat.eq_of_beq_eq_true hsz
        simp only [Eff.bind, Eff.bind_assoc] at hk
        obtain ⟨cs', hp', rs', ws', hK, hst, hr', hl⟩ := settle_sound H h1 hk
        refine ⟨.con t (l.drop lo) :: cs', hp', rs', ws', hK, hst, ⟨v, q, rfl, ?_, hr'⟩, by simp [hl]⟩
        rw [hi] at hok
        obtain ⟨A, c, hv, hle, hrow⟩ := hok
        exact hst.R (sub_con hsz hv hrow h0)
      · cases hk
    · have e : settle (c :: cs) = (settle cs).bind fun r => .ret (c :: r) := by
        cases c <;> first | rfl | exact absurd ⟨_, rfl⟩ hc | exact absurd ⟨_, _, rfl⟩ hc2
      rw [e] at hk
      simp only [Eff.bind_assoc, Eff.bind] at hk
      obtain ⟨cs', hp', rs', ws', hK, hst, hr', hl⟩ := settle_sound H h1 hk
      exact ⟨c :: cs', hp', rs', ws', hK, hst, ⟨v, q, rfl, hst.R h0, hr'⟩, by simp [hl]⟩

theorem Rs_splice {M : Nat → Prop} {cs vs : List AV} {us xs : List Value} (h : Rs M w ρ hp cs us) (g : Rs M w ρ hp vs xs) (off : Nat) : Rs M w ρ hp (splice cs off vs) (us.take off ++ xs ++ us.drop (off + xs.length)) := by
  unfold splice
  rw [Rs_len g]
  exact Rs_append (Rs_append (Rs_take h off) g) (Rs_drop h _)

theorem run_storeVar_at {T n : Nat} {y : Value} {us : List Value} (hy : y.cells.toList = us) (hn : sizeAt P T = some n) (hl : us.length = n) {g o : Nat} {C : Array Value} {e : TypeId} (hg : w.heap[g]? = some (.cells C e (0, 0)))
    (hfit : o + n ≤ C.size) (h1 : ∀ u ∈ us, u.oneCell' = true) :
    (Instr.storeAt T (.pointer (some ⟨g, o, none⟩)) y).run P w = .ok () (w.setRow g (C.toList.take o ++ us ++ C.toList.drop (o + n)).toArray) := by
  have hsz : y.cells.size = n := by rw [← hl, ← hy]; simp
  have := run_storeCells_at P g o e us 0 C w hg (by omega) h1
  rw [Nat.add_zero, hl] at this
  simp [Instr.storeAt, Instr.sureAddr, storeVar, run_sizeOf hn, hsz, hy, this]

theorem Off.setRow (w : World) (g : Nat) (cs : Array Value) : Off (fun b => b = g) w (w.setRow g cs) :=
  ⟨rfl, rfl, rfl, by simp, fun b _ hb => setRow_other w g b _ (fun e => hb e)⟩

theorem dec_len : (t : Ty) → {cs : List AV} → {x : t.den} → t.dec cs = some x → cs.length = t.sz
  | .int k, cs, x, h => by
    unfold Ty.dec at h
    split at h
    · rfl
    · cases h
  | .bool, cs, x, h => by
    unfold Ty.dec at h
    split at h <;> first | rfl | cases h
  | .str, cs, x, h => by
    unfold Ty.dec at h
    split at h
    · rfl
    · cases h
  | .sl t, cs, x, h => by
    unfold Ty.dec at h
    split at h <;> first | rfl | cases h
  | .pair a b, cs, x, h => by
    unfold Ty.dec at h
    split at h
    case h_2 => cases h
    rename_i y hy
    split at h
    case h_2 => cases h
    rename_i z hz
    have h1 := dec_len a hy
    have h2 := dec_len b hz
    have := a.sz_pos
    have := b.sz_pos
    rw [List.length_take] at h1
    rw [List.length_drop] at h2
    show cs.length = a.sz + b.sz
    omega

/-- The cells of an element whose last is a slice. -/
theorem decT_sound {M : Nat → Prop} {s : Value} : (t : Ty) → t.nest = true → {fl : List AV} → {m : List t.inn.den} → {y : t.den} → {us : List Value} → t.dec (fl ++ [.con t.inn m]) = some y → Rs M w ρ hp fl us → KT M w t y s (us ++ [s]) ∧ t.get y = m
  | .sl b, _, fl, m, y, us, h, hr => by
    have hl := dec_len (.sl b) h
    have hfl : fl = [] := by
      cases fl with
      | nil => rfl
      | cons a r => simp [Ty.sz] at hl
    subst hfl
    cases hr
    simp only [List.nil_append, Ty.dec, Ty.inn] at h
    split at h
    · injection h with h
      exact ⟨rfl, h.symm⟩
    · cases h
  | .pair a b, hn, fl, m, y, us, h, hr => by
    have hl := dec_len (.pair a b) h
    have hb := b.sz_pos
    have hl2 : fl.length + 1 = a.sz + b.sz := by
      rw [List.length_append] at hl
      exact hl
    have e1 : (fl ++ [AV.con (Ty.pair a b).inn m]).take a.sz = fl.take a.sz := List.take_append_of_le_length (by omega)
    have e2 : (fl ++ [AV.con (Ty.pair a b).inn m]).drop a.sz = fl.drop a.sz ++ [.con b.inn m] := List.drop_append_of_le_length (by omega)
    unfold Ty.dec at h
    rw [e1, e2] at h
    split at h
    case h_2 => cases h
    rename_i x1 hx1
    split at h
    case h_2 => cases h
    rename_i x2 hx2
    injection h with h
    subst h
    obtain ⟨g1, g2⟩ := decT_sound b hn hx2 (Rs_drop hr a.sz)
    refine ⟨⟨us.take a.sz, us.drop a.sz ++ [s], ?_, dec_sound a hx1 (Rs_take hr a.sz), g1⟩, g2⟩
    rw [← List.append_assoc, List.take_append_drop]

theorem put_get : (t : Ty) → (x : t.den) → t.nest = true → t.put x (t.get x) = x
  | .sl _, _, _ => rfl
  | .pair _ b, x, h => by
    show (x.1, b.put x.2 (b.get x.2)) = x
    rw [put_get b x.2 h]
    rfl

theorem lastRow_some : {vs : List AV} → {fs : List AV} → {q o : Nat} → lastRow vs = some (fs, q, o) → vs = fs ++ [lastCell o q]
  | [], fs, q, o, h => by cases h
  | c :: cs, fs, q, o, h => by
    unfold lastRow at h
    split at h
    · rename_i heq
      cases heq
    · rename_i q' heq
      cases heq
      injection h with h
      injection h with h1 h
      injection h with h2 h3
      subst h1 h2 h3
      rfl
    · rename_i q' o' heq
      cases heq
      injection h with h
      injection h with h1 h
      injection h with h2 h3
      subst h1 h2 h3
      rfl
    · rename_i c' cs' _ _ heq
      cases heq
      split at h
      · rename_i r q' o' hr
        injection h with h
        injection h with h1 h
        injection h with h2 h3
        subst h1 h2 h3
        have := lastRow_some hr
        rw [this]
        rfl
      · cases h

theorem lastOwn_some : {vs : List AV} → {fs : List AV} → {q : Nat} → lastOwn vs = some (fs, q) → vs = fs ++ [.own q]
  | [], fs, q, h => by cases h
  | [c], fs, q, h => by
    unfold lastOwn at h
    split at h
    · rename_i heq
      cases heq
    · rename_i heq
      injection heq with h1 _
      injection h with h
      injection h with h2 h3
      rw [h1, ← h2, ← h3]
      rfl
    · rename_i heq
      injection heq with h1 h2
      rw [← h2] at h
      cases h
  | c :: c' :: cs, fs, q, h => by
    have e : lastOwn (c :: c' :: cs) = (match lastOwn (c' :: cs) with
      | some (r, q) => some (c :: r, q)
      | none => none) := by
      cases c <;> rfl
    rw [e] at h
    split at h
    · rename_i r q' h'
      injection h with h
      injection h with h2 h3
      rw [lastOwn_some h', ← h2, ← h3]
      rfl
    · cases h

/-- Cells stored into an element of a row. -/
theorem own_store {e sz n g c : Nat} {xs us cs0 : List Value} (h1 : w.ownsRow 0 e sz (.slice (some ⟨g, 0, none⟩) n c) n xs) {j off : Nat} (hj : j < n) (hfit : off + us.length ≤ sz) (hl0 : cs0.length = sz) (hget : ∀ q, q < sz → xs[j * sz + q]? = cs0[q]?) :
    ∃ cur, w.heap[g]? = some (.cells cur e (0, 0)) ∧ j * sz + off + us.length ≤ cur.size ∧
      (w.setRow g (cur.toList.take (j * sz + off) ++ us ++ cur.toList.drop (j * sz + off + us.length)).toArray).ownsRow 0 e sz (.slice (some ⟨g, 0, none⟩) n c) n (xs.take (j * sz) ++ (cs0.take off ++ us ++ cs0.drop (off + us.length)) ++ xs.drop (j * sz + sz)) := by
  have hxl := h1.1
  rcases h1.2 with ⟨h3, _⟩ | ⟨g', cap, cur, h3, _, hh, hle, hcm, hcs, htake⟩
  · cases h3
  injection h3 with e1 e2 e3
  injection e1 with e1
  injection e1 with e1
  subst e1 e3
  have hbound : j * sz + sz ≤ n * sz := by
    have : (j + 1) * sz ≤ n * sz := Nat.mul_le_mul_right _ hj
    rwa [Nat.add_mul, Nat.one_mul] at this
  have hbound2 : n * sz ≤ cur.size := by rw [hcs]; exact Nat.mul_le_mul_right _ hle
  refine ⟨cur, hh, by omega, ?_, .inr ⟨g, c, _, rfl, Nat.zero_le _, setRow_heap w g cur _ e _ hh, hle, hcm, ?_, ?_⟩⟩
  · simp only [List.length_append, List.length_take, List.length_drop]
    omega
  · simp only [List.size_toArray, List.length_append, List.length_take, List.length_drop, Array.length_toList]
    omega
  · apply List.ext_getElem?
    intro q
    have hxq : ∀ q, q < n * sz → xs[q]? = cur.toList[q]? := by
      intro q hq
      rw [← htake, List.getElem?_take, if_pos hq]
    have hcq : ∀ q, q < sz → cs0[q]? = cur.toList[j * sz + q]? := by
      intro q hq
      rw [← hget q hq, hxq _ (by omega)]
    simp only [List.getElem?_take, List.append_assoc]
    by_cases hq : q < n * sz
    · rw [if_pos hq]
      by_cases q1 : q < j * sz
      · rw [List.getElem?_append_left (by simp; omega), List.getElem?_append_left (by simp; omega), List.getElem?_take, if_pos (by omega), List.getElem?_take, if_pos q1, hxq _ hq]
      · have l1 : (xs.take (j * sz)).length = j * sz := by simp; omega
        rw [List.getElem?_append_right (by omega) (l₁ := xs.take (j * sz)), l1]
        by_cases q2 : q < j * sz + off
        · rw [List.getElem?_append_left (by simp; omega), List.getElem?_take, if_pos q2, List.getElem?_append_left (by simp; omega), List.getElem?_take, if_pos (by omega), hcq _ (by omega)]
          congr 1; omega
        · have l2 : (cur.toList.take (j * sz + off)).length = j * sz + off := by simp; omega
          have l3 : (cs0.take off).length = off := by simp; omega
          rw [List.getElem?_append_right (by omega), l2, List.getElem?_append_right (by omega) (l₁ := cs0.take off), l3]
          by_cases q3 : q < j * sz + off + us.length
          · rw [List.getElem?_append_left (by omega), List.getElem?_append_left (by omega)]
            congr 1; omega
          · rw [List.getElem?_append_right (by omega), List.getElem?_append_right (by omega), List.getElem?_drop]
            by_cases q4 : q < j * sz + sz
            · rw [List.getElem?_append_left (by simp; omega), List.getElem?_drop, hcq _ (by omega)]
              congr 1; omega
            · have l4 : (cs0.drop (off + us.length)).length = sz - (off + us.length) := by simp; omega
              rw [List.getElem?_append_right (by omega), l4, List.getElem?_drop, hxq _ (by omega)]
              congr 1; omega
    · rw [if_neg hq, List.getElem?_eq_none]
      simp only [List.length_append, List.length_take, List.length_drop]
      omega

theorem Rs_split {M : Nat → Prop} : {as bs : List AV} → {vs : List Value} → Rs M w ρ hp (as ++ bs) vs → ∃ us xs, vs = us ++ xs ∧ Rs M w ρ hp as us ∧ Rs M w ρ hp bs xs
  | [], _, vs, h => ⟨[], vs, rfl, rfl, h⟩
  | a :: as, _, _, ⟨v, r, e, h0, h1⟩ => by
    obtain ⟨us, xs, e1, g1, g2⟩ := Rs_split h1
    exact ⟨v :: us, xs, by rw [e, e1]; rfl, ⟨v, us, rfl, h0, g1⟩, g2⟩

theorem storeE_sound (H : HRel MX w ρ hp) {T : TypeId} {a x : AV} {va vx : Value} (ha : R (Mut MX hp ρ) w ρ hp a va) (hx : R (Mut MX hp ρ) w ρ hp x vx) (hk : (storeE P T a x).go b hp rs ws K = some r) :
    ∃ b' hp' rs' ws' w' ρ', K (.v undef) b' hp' rs' ws' = some r ∧ (Instr.storeAt T va vx).run P w = .ok () w' ∧ Step MX w ρ hp w' ρ' hp' := by
  unfold storeE at hk
  split at hk
  · cases hk
  rename_i vs hvs
  split at hk
  case h_2 => cases hk
  rename_i n1 hall hn
  obtain ⟨n, hn1⟩ : ∃ n, n = n1 + 1 := ⟨_, rfl⟩
  have hn : sizeAt P T = some n := by rw [hn1]; exact hn
  split at hk
  case h_2 => cases hk
  rename_i hlen
  rw [← hn1] at hlen
  have hlen := Nat.eq_of_beq_eq_true hlen
  obtain ⟨us, hus, hr⟩ := cellsOf_sound hx hvs
  have hul := Rs_len hr
  have hone := isCells_one hall hr
  split at hk
  · rename_i i off
    obtain ⟨hu, g, o, he, rfl⟩ := ha
    simp only [Eff.go] at hk
    have hok := H.ok i
    split at hk
    case h_2 => cases hk
    rename_i cs hi
    split at hk
    case h_2 => cases hk
    rename_i hle
    have hle := Nat.le_of_ble_eq_true hle
    rw [← hn1] at hle
    simp only [Eff.go] at hk
    rw [hi] at hok
    obtain ⟨g', o', C, e, ys, h1, h2, h3, h4⟩ := hok
    rw [he] at h1
    injection h1 with h1
    injection h1 with h1
    injection h1 with e1 e2
    subst e1 e2
    have hyl := Rs_len h3
    have hfit : o + cs.length ≤ C.size := by
      by_cases h0 : cs.length = 0
      · omega
      · obtain ⟨v, hv⟩ : ∃ v, ys[cs.length - 1]? = some v := ⟨_, List.getElem?_eq_getElem (by omega)⟩
        have := (Array.getElem?_eq_some_iff.1 (h4 _ _ hv)).1
        omega
    have hrun := run_storeVar_at (P := P) (T := T) (o := o + off) hus hn (by omega) h2 (by omega) hone
    refine ⟨_, _, _, _, _, ρ, hk, hrun, Step.write H (fun _ => by rw [hi]; trivial) (by simp) ?_ ?_ ?_⟩
    · intro cs0 hcs0
      rw [hi] at hcs0
      injection hcs0 with hcs0
      subst hcs0
      refine ⟨_, rfl, by unfold splice; simp; omega, ?_⟩
      intro g1 o1 e1
      rw [he] at e1
      injection e1 with e1
      injection e1 with e1
      injection e1 with e2 e3
      subst e2 e3
      refine ⟨C, _, e, h2, setRow_heap w g C _ e _ h2, by simp; omega, fun j hj => ?_⟩
      have hsz : C.toList.length = C.size := by simp
      simp only [List.getElem?_toArray]
      rw [List.append_assoc]
      rcases hj with hj | hj
      · rw [List.getElem?_append_left (by simp; omega), List.getElem?_take, if_pos (by omega)]; simp
      · have ht2 : (C.toList.take (o + off)).length = o + off := by simp; omega
        rw [List.getElem?_append_right (by omega), ht2, List.getElem?_append_right (by omega), List.getElem?_drop]
        simp only [Array.getElem?_toList]
        congr 1
        omega
    · refine (Off.setRow _ _ _).mono fun b _ hb => ⟨by rw [hi]; trivial, by rw [he, hb]; rfl⟩
    · intro hp' hp'u M hM hMl _
      have hMe := hMl trivial
      subst hMe
      refine ⟨g, o, _, e, ys.take off ++ us ++ ys.drop (off + us.length), he, setRow_heap w g C _ e _ h2, ?_, ?_⟩
      · have hsp := Rs_splice h3 hr off
        refine Rs_step (D := fun b => b = g) (Off.setRow _ _ _) ?_ (fun _ _ h => h) hp'u _ hsp
        rintro b _ rfl
        exact .inr ⟨i, by rw [hi]; trivial, by rw [he]; rfl⟩
      · intro j v hj
        have hsz : C.toList.length = C.size := by simp
        simp only [List.getElem?_toArray]
        rw [List.append_assoc] at hj ⊢
        by_cases hj1 : j < off
        · rw [List.getElem?_append_left (by simp; omega), List.getElem?_take, if_pos hj1] at hj
          rw [List.getElem?_append_left (by simp; omega), List.getElem?_take, if_pos (by omega)]
          simpa using h4 j v hj
        · rw [List.getElem?_append_right (by simp; omega)] at hj
          rw [List.getElem?_append_right (by simp; omega)]
          have ht : (ys.take off).length = off := by simp; omega
          have ht2 : (C.toList.take (o + off)).length = o + off := by simp; omega
          rw [ht] at hj
          rw [ht2]
          by_cases hj2 : j - off < us.length
          · rw [List.getElem?_append_left hj2] at hj
            rw [List.getElem?_append_left (by omega), show o + j - (o + off) = j - off by omega]
            exact hj
          · rw [List.getElem?_append_right (by omega), List.getElem?_drop] at hj
            rw [List.getElem?_append_right (by omega), List.getElem?_drop]
            have := h4 _ v hj
            simp only [Array.getElem?_toList]
            rw [← this]
            congr 1
            omega
  · rename_i i sz j off
    obtain ⟨hu, g, m, c, he, hj, rfl⟩ := ha
    simp only [Eff.go] at hk
    split at hk
    · -- a row of one's own goes into an element
      rename_i p htre hlast
      obtain ⟨fs, q⟩ := p
      unfold absorbE at hk
      rw [hlast] at hk
      simp only [Eff.go] at hk
      split at hk
      case h_2 => cases hk
      rename_i be' b0 mq hq
      simp only [Eff.go] at hk
      split at hk
      case h_2 => cases hk
      rename_i e be t l cur hi
      split at hk
      case h_2 => cases hk
      rename_i hb0 hbe _ hnest hsz hfull hqi
      have hbe := Nat.eq_of_beq_eq_true hbe
      have hsz := Nat.eq_of_beq_eq_true hsz
      have hfull := Nat.eq_of_beq_eq_true hfull
      subst hbe hsz hb0
      have hqi' : q ≠ i := fun e' => by rw [e', Nat.beq_refl] at hqi; cases hqi
      split at hk
      case h_2 => cases hk
      rename_i y hdec
      have hcur : (∀ a q0, cur = some (a, q0) → a = j) ∧ K (.v undef) b (upd (upd hp q .gone) i (.tre 0 none e be' t (l.set j y) none)) (2 * i :: (2 * i + 1) :: 2 * q :: (2 * q + 1) :: 2 * i :: (2 * i + 1) :: rs) (2 * i :: (2 * i + 1) :: 2 * q :: (2 * q + 1) :: ws) = some r := by
        split at hk
        · simp only [Eff.go] at hk
          exact ⟨(fun a q0 h => by cases h), hk⟩
        · simp only [Eff.go] at hk
          split at hk
          case isFalse => cases hk
          rename_i hjj
          exact ⟨(fun a q0 h => by injection h with h; injection h with h1 _; rw [← h1]; exact hjj), hk⟩
      obtain ⟨hcur, hk⟩ := hcur
      have hok := H.ok i
      rw [hi] at hok
      obtain ⟨v0, ss, uu, xs, ht⟩ := hok
      have hqok := H.ok q
      rw [hq] at hqok
      obtain ⟨ys, y1, y2⟩ := hqok
      have hv0 : v0 = .slice (some ⟨g, 0, none⟩) m c := by rw [ht.hd_] at he; exact he
      subst hv0
      obtain ⟨hnl, _, s, vs0, _, hs, hkt, _⟩ := ht.elem rfl hj
      have hjl : j < l.length := by omega
      have hz : (l.zip uu)[j]? = some (l.getD j t.zero, s) := List.getElem?_zip_eq_some.2 ⟨by rw [List.getD_eq_getElem?_getD, List.getElem?_eq_getElem hjl]; rfl, hs⟩
      obtain ⟨cs0, hk0, hl0, hget⟩ := Els.get (fun _ _ hk => KT_len t hk) ht.els j _ hz
      obtain ⟨c0, rfl, hfl⟩ := KT_flat (ρ := ρ) (hp := hp) t hk0
      have hvs := lastOwn_some hlast
      rw [hvs] at hr
      obtain ⟨us0, u1, rfl, hr0, hr1⟩ := Rs_split hr
      obtain ⟨sq, _, rfl, ⟨_, hsq, hsl⟩, rfl⟩ := hr1
      have hsq : sq = ρ q := by rw [hsq, hd_own y1]
      subst hsq
      have hul0 := Rs_len hr0
      have hvl : vs.length = fs.length + 1 := by rw [hvs, List.length_append]; rfl
      have hc0 : c0.length + 1 = t.sz := by rw [← hl0, List.length_append]; rfl
      obtain ⟨cur', hh, hb1, hown⟩ := own_store (show w.ownsRow 0 e t.sz (.slice (some ⟨g, 0, none⟩) m c) m xs by have := ht.own; rw [← hnl] at this; exact this) hj (off := off) (us := us0 ++ [ρ q]) (by rw [List.length_append, List.length_singleton]; omega) hl0 hget
      have hrun := run_storeVar_at (P := P) (T := T) (o := j * t.sz + off) hus hn (by omega) hh (by rw [← hlen, ← hul]; exact hb1) hone
      have hcells : (c0 ++ [s]).take off ++ (us0 ++ [ρ q]) ++ (c0 ++ [s]).drop (off + (us0 ++ [ρ q]).length) = (c0.take off ++ us0 ++ c0.drop (off + us0.length)) ++ [ρ q] := by
        rw [List.drop_eq_nil_of_le (by simp only [List.length_append, List.length_singleton]; omega), List.take_append_of_le_length (by omega), List.drop_eq_nil_of_le (as := c0) (by omega)]
        simp
      obtain ⟨hkt', hgy⟩ := decT_sound (s := ρ q) t hnest hdec (Rs_splice hfl hr0 off)
      rw [hcells] at hown
      have hst1 := Step.storeHole H hi ht rfl hnl hj hcur (Off.setRow _ _ _) hq hsl hown hkt'
      have hi1 : upd hp i (.tre 0 none e be' t (l.set j y) (some (j, q))) i = .tre 0 none e be' t (l.set j y) (some (j, q)) := upd_same _ _ _
      have hok1 := hst1.rel.ok i
      rw [hi1] at hok1
      obtain ⟨v1, ss1, uu1, xs1, ht1⟩ := hok1
      have hst2 := Step.putBack hst1.rel hi1 ht1 (by rw [upd_ne _ _ hqi']; exact hq)
      have ehp : upd (upd (upd hp i (.tre 0 none e be' t (l.set j y) (some (j, q)))) q .gone) i (.tre 0 none e be' t ((l.set j y).set j (t.put ((l.set j y).getD j t.zero) mq)) none) = upd (upd hp q .gone) i (.tre 0 none e be' t (l.set j y) none) := by
        funext k
        by_cases hki : k = i
        · subst hki
          rw [upd_same, upd_same]
          have : t.put ((l.set j y).getD j t.zero) mq = y := by
            rw [List.getD_eq_getElem?_getD, List.getElem?_set_self hjl]
            show t.put y mq = y
            rw [← hgy, put_get t y hnest]
          rw [this, List.set_set]
        · rw [upd_ne _ _ hki, upd_ne _ _ hki]
          by_cases hkq : k = q
          · subst hkq; rw [upd_same, upd_same]
          · rw [upd_ne _ _ hkq, upd_ne _ _ hki, upd_ne _ _ hkq]
      rw [ehp] at hst2
      rw [← hlen, ← hul] at hrun
      exact ⟨_, _, _, _, _, _, hk, hrun, hst1.trans hst2⟩
    obtain ⟨vs', hp1, rs1, ws1, hK1, hs1, hr1, hl1⟩ := settle_sound H hr hk
    simp only [Eff.go] at hK1
    have hok := hs1.rel.ok i
    split at hK1
    case h_4 => cases hK1
    case h_3 =>
      rename_i o fr e be t l cur hi
      split at hK1
      case h_2 => cases hK1
      rename_i y hsz hfit hdec
      have hsz := Nat.eq_of_beq_eq_true hsz
      subst hsz
      have hfit := Nat.le_of_ble_eq_true hfit
      simp only [Eff.go] at hK1
      rw [hi] at hok
      obtain ⟨v0, ss, uu, xs, ht⟩ := hok
      have hv0 : v0 = .slice (some ⟨g, 0, none⟩) m c := by rw [ht.hd_] at he; exact he
      subst hv0
      obtain ⟨hnl, _, s, vs0, _, hs, hkt, _⟩ := ht.elem rfl hj
      have hjl : j < l.length := by omega
      have hz : (l.zip uu)[j]? = some (l.getD j t.zero, s) := List.getElem?_zip_eq_some.2 ⟨by rw [List.getD_eq_getElem?_getD, List.getElem?_eq_getElem hjl]; rfl, hs⟩
      obtain ⟨cs0, hk0, hl0, hget⟩ := Els.get (fun _ _ hk => KT_len t hk) ht.els j _ hz
      obtain ⟨c0, rfl, hfl⟩ := KT_flat (ρ := ρ) (hp := hp1) t hk0
      have hul1 : us.length = vs'.length := Rs_len hr1
      have hc0 : c0.length + 1 = t.sz := by rw [← hl0, List.length_append]; rfl
      obtain ⟨cur', hh, hb1, hown⟩ := own_store (show w.ownsRow 0 e t.sz (.slice (some ⟨g, 0, none⟩) m c) m xs by have := ht.own; rw [← hnl] at this; exact this) hj (off := off) (us := us) (by omega) hl0 hget
      have hrun := run_storeVar_at (P := P) (T := T) (o := j * t.sz + off) hus hn (by omega) hh (by omega) hone
      have hcells : (c0 ++ [s]).take off ++ us ++ (c0 ++ [s]).drop (off + us.length) = (c0.take off ++ us ++ c0.drop (off + us.length)) ++ [s] := by
        rw [List.drop_append_of_le_length (by omega), List.take_append_of_le_length (by omega)]
        simp
      obtain ⟨hkt', hgy⟩ := decT_sound (s := s) t ht.nest hdec (Rs_splice hfl hr1 off)
      rw [hcells] at hown
      have hst1 := Step.storeFlat hs1.rel hi ht rfl hnl hj (Off.setRow _ _ _) hs hown hkt' hgy
      rw [← hlen, ← hul] at hrun
      exact ⟨_, _, _, _, _, _, hK1, hrun, hs1.trans hst1⟩
    case h_2 =>
      rename_i l hi
      split at hK1
      case h_2 => cases hK1
      rename_i y hsz hoff
      have hsz := Nat.eq_of_beq_eq_true hsz
      have hoff := Nat.eq_of_beq_eq_true hoff
      subst hsz hoff
      simp only [Eff.go] at hK1
      rw [hi] at hok
      obtain ⟨g', c', h1, hle, h3⟩ := hok
      rw [hd_slice h1] at he
      rw [he] at h1
      injection h1 with e1 e2 e3
      injection e1 with e1
      injection e1 with e1
      subst e1 e2
      obtain ⟨v, q, rfl, hv, hq⟩ := hr1
      cases hq
      obtain rfl : v = .int .u8 y := hv
      have hn0 : n = 1 := by
        have : vs.length = 1 := by rw [← hl1]; rfl
        omega
      subst hn0
      have hrun : (Instr.storeAt T (.pointer (some ⟨g, j * 1 + 0, none⟩)) vx).run P w = .ok () (w.setCell ⟨g, j, none⟩ (.int .u8 y)) := by
        have hsz : vx.cells.size = 1 := by rw [← Array.length_toList, hus]; rfl
        have := run_store_byte (P := P) h3 hj y
        simp [Instr.storeAt, Instr.sureAddr, storeVar, run_sizeOf hn, hsz, hus, storeCells, add_at', this]
      have hoff' : Off (fun b => b = g) w (w.setCell ⟨g, j, none⟩ (.int .u8 y)) := ⟨rfl, rfl, rfl, Nat.le_of_eq (setCell_size _ _ _).symm, fun b _ hb => setCell_other _ _ _ _ hb⟩
      have hst : Step MX w ρ hp1 (w.setCell ⟨g, j, none⟩ (.int .u8 y)) ρ (upd hp1 i (.bts (l.set j y))) := by
        refine Step.write hs1.rel (fun _ => by rw [hi]; trivial) (by simp) (fun cs h => by rw [hi] at h; cases h) ?_ ?_
        · exact hoff'.mono fun b _ hb => ⟨by rw [hi]; trivial, by rw [he, hb]; rfl⟩
        · intro hp' hp'u M hM hMl _
          exact ⟨g, c, by rw [List.length_set]; exact he, by rw [List.length_set, e3]; exact hle, by rw [e3]; exact h3.set hj y⟩
      exact ⟨_, _, _, _, _, ρ, hK1, hrun, hs1.trans hst⟩
    rename_i e t l hi
    split at hK1
    case h_2 => cases hK1
    rename_i y hsz hfit hdec
    have hsz := Nat.eq_of_beq_eq_true hsz
    subst hsz
    have hfit := Nat.le_of_ble_eq_true hfit
    simp only [Eff.go] at hK1
    rw [hi] at hok
    obtain ⟨xs, h1, h2⟩ := hok
    rw [hd_own h1] at he
    rcases h1.2 with ⟨h3, _⟩ | ⟨g', cap, cur, h3, _, hh, hle, hcm, hcs, htake⟩
    · rw [he] at h3; cases h3
    rw [he] at h3
    injection h3 with e1 e2 e3
    injection e1 with e1
    injection e1 with e1
    subst e1 e2 e3
    obtain ⟨cs0, hk0, hl0, hget⟩ := Els.get (fun _ _ hk => KR_len t hk) h2 j l[j] (List.getElem?_eq_getElem hj)
    have hgd : l.getD j t.zero = l[j] := by rw [List.getD_eq_getElem?_getD, List.getElem?_eq_getElem hj]; rfl
    rw [hgd] at hdec
    have hsp := Rs_splice (R_cells' hk0) hr1 off
    have hkr := dec_sound t hdec hsp
    have hul1 : us.length = vs'.length := Rs_len hr1
    have hbound : j * t.sz + t.sz ≤ l.length * t.sz := by
      have : (j + 1) * t.sz ≤ l.length * t.sz := Nat.mul_le_mul_right _ hj
      rwa [Nat.add_mul, Nat.one_mul] at this
    have hbound2 : l.length * t.sz ≤ cur.size := by rw [hcs]; exact Nat.mul_le_mul_right _ hle
    have hrun := run_storeVar_at (P := P) (T := T) (o := j * t.sz + off) hus hn (by omega) hh (by omega) hone
    have hst : Step MX w ρ hp1 (w.setRow g (cur.toList.take (j * t.sz + off) ++ us ++ cur.toList.drop (j * t.sz + off + n)).toArray) ρ (upd hp1 i (.row e t (l.set j y))) := by
      refine Step.write hs1.rel (fun _ => by rw [hi]; trivial) (by simp) (fun cs h => by rw [hi] at h; cases h) ?_ ?_
      · refine (Off.setRow _ _ _).mono fun b _ hb => ⟨by rw [hi]; trivial, by rw [he, hb]; rfl⟩
      · intro hp' hp'u M hM hMl _
        have hMe := hMl trivial
        subst hMe
        have hoff : Off (fun b => b = g) w (w.setRow g (cur.toList.take (j * t.sz + off) ++ us ++ cur.toList.drop (j * t.sz + off + n)).toArray) := Off.setRow _ _ _
        have hD : ∀ b, b < w.heap.size → b = g → Mut MX hp1 ρ b := by
          rintro b _ rfl
          exact .inr ⟨i, by rw [hi]; trivial, by rw [he]; rfl⟩
        refine ⟨xs.take (j * t.sz) ++ (cs0.take off ++ us ++ cs0.drop (off + us.length)) ++ xs.drop (j * t.sz + t.sz), ?_, ?_⟩
        · rw [List.length_set]
          refine ⟨?_, .inr ⟨g, c, _, he, Nat.zero_le _, setRow_heap w g cur _ e _ hh, hle, hcm, ?_, ?_⟩⟩
          · have hxl := h1.1
            simp only [List.length_append, List.length_take, List.length_drop]
            omega
          · simp only [List.size_toArray, List.length_append, List.length_take, List.length_drop, Array.length_toList]
            omega
          · have hxl := h1.1
            apply List.ext_getElem?
            intro q
            have hxq : ∀ q, q < l.length * t.sz → xs[q]? = cur.toList[q]? := by
              intro q hq
              rw [← htake, List.getElem?_take, if_pos hq]
            have hcq : ∀ q, q < t.sz → cs0[q]? = cur.toList[j * t.sz + q]? := by
              intro q hq
              rw [← hget q hq, hxq _ (by omega)]
            simp only [List.getElem?_take, List.append_assoc]
            by_cases hq : q < l.length * t.sz
            · rw [if_pos hq]
              by_cases q1 : q < j * t.sz
              · rw [List.getElem?_append_left (by simp; omega), List.getElem?_append_left (by simp; omega), List.getElem?_take, if_pos (by omega), List.getElem?_take, if_pos q1, hxq _ hq]
              · have l1 : (xs.take (j * t.sz)).length = j * t.sz := by simp; omega
                rw [List.getElem?_append_right (by omega) (l₁ := xs.take (j * t.sz)), l1]
                by_cases q2 : q < j * t.sz + off
                · rw [List.getElem?_append_left (by simp; omega), List.getElem?_take, if_pos q2, List.getElem?_append_left (by simp; omega), List.getElem?_take, if_pos (by omega), hcq _ (by omega)]
                  congr 1; omega
                · have l2 : (cur.toList.take (j * t.sz + off)).length = j * t.sz + off := by simp; omega
                  have l3 : (cs0.take off).length = off := by simp; omega
                  rw [List.getElem?_append_right (by omega), l2, List.getElem?_append_right (by omega) (l₁ := cs0.take off), l3]
                  by_cases q3 : q < j * t.sz + off + us.length
                  · rw [List.getElem?_append_left (by omega), List.getElem?_append_left (by omega)]
                    congr 1; omega
                  · rw [List.getElem?_append_right (by omega), List.getElem?_append_right (by omega), List.getElem?_drop]
                    by_cases q4 : q < j * t.sz + t.sz
                    · rw [List.getElem?_append_left (by simp; omega), List.getElem?_drop, hcq _ (by omega)]
                      congr 1; omega
                    · have l4 : (cs0.drop (off + us.length)).length = t.sz - (off + us.length) := by simp; omega
                      rw [List.getElem?_append_right (by omega), l4, List.getElem?_drop, hxq _ (by omega)]
                      congr 1; omega
            · rw [if_neg hq, List.getElem?_eq_none]
              simp only [List.length_append, List.length_take, List.length_drop]
              omega
        · have h2' := Els.imp (fun _ _ h => KR_step hoff hD (fun _ _ h => h) t h) h2
          exact Els.set (fun _ _ hk => KR_len t hk) h2' j y _ hj (KR_step hoff hD (fun _ _ h => h) t hkr)
    exact ⟨_, _, _, _, _, ρ, hK1, hrun, hs1.trans hst⟩
  · cases hk
end
end Go.Proofs.YtommgpkeicpokaaGreatDoor.Abs
