/- Operations that write memory. (Merged out of this claim's own texts.) -/
import Derived.Test.YtbpeiilildchlaaGreatDoorBFnExactDurableOf1
import Derived.Laws.MakeOwn
import Derived.Maps.AppendAt
import Derived.Laws.AppendOwnNone
import Derived.Laws.BytesString
import Derived.Lib.FrozenHead
namespace Go.Proofs.YtbpeiilildchlaaGreatDoor.Abs
open Go Go.RowKit
set_option linter.unusedVariables false
set_option linter.unusedSectionVars false
set_option linter.unusedSimpArgs false

theorem Eff.bind_assoc {α β γ : Type} : (e : Eff α) → (f : α → Eff β) → (g : β → Eff γ) → (e.bind f).bind g = e.bind fun x => (f x).bind g
  | .ret _, _, _ => rfl
  | .fail, _, _ => rfl
  | .rd i k, f, g => by simp only [Eff.bind]; congr 1; funext h; exact Eff.bind_assoc (k h) f g
  | .wr i h k, f, g => by simp only [Eff.bind]; congr 1; exact Eff.bind_assoc k f g
  | .nw h k, f, g => by simp only [Eff.bind]; congr 1; funext i; exact Eff.bind_assoc (k i) f g
  | .br c d t e, f, g => by simp only [Eff.bind]; congr 1 <;> exact Eff.bind_assoc _ f g
  | .gd c d e, f, g => by simp only [Eff.bind]; congr 1; exact Eff.bind_assoc _ f g
  | .opt X o k, f, g => by simp only [Eff.bind]; congr 1; funext x; exact Eff.bind_assoc (k x) f g
  | .rdS i k, f, g => by simp only [Eff.bind]; congr 1; funext h; exact Eff.bind_assoc (k h) f g
  | .wrS i c k, f, g => by simp only [Eff.bind]; congr 1; exact Eff.bind_assoc k f g

section
variable {Rt : Type} {P : Program} {MX : Nat → Prop} {w : World} {ρ : Nat → Value} {hp : Heap} {b : Nat} {rs ws : List Nat} {K : AV → Nat → Heap → List Nat → List Nat → Option Rt} {r : Rt}

theorem isCell_one {M : Nat → Prop} {a : AV} {y : Value} (h : isCell a = true) (ha : R M w ρ hp a y) : y.oneCell' = true := by
  cases a with
  | v x =>
    rw [show y = x from ha]
    cases x <;> simp_all [isCell, Value.oneCell']
  | bs ng t => rw [show y = _ from ha]; rfl
  | bp ng p d => rw [show y = _ from ha]; rfl
  | ifc n => rcases ha with ⟨_, rfl⟩ | ⟨_, t, x, rfl⟩ <;> rfl
  | con t l => obtain ⟨A, c, rfl, _⟩ := ha; rfl
  | own i => obtain ⟨_, _, A, n, c, rfl⟩ := ha; rfl
  | box i off => obtain ⟨_, g, o, _, rfl⟩ := ha; rfl
  | elt t x off => obtain ⟨g, o, cs, rfl, _⟩ := ha; rfl
  | oel i sz j off => obtain ⟨_, g, n, c, _, _, rfl⟩ := ha; rfl
  | mp i => obtain ⟨_, _, b', rfl⟩ := ha; rfl
  | sub i lo => obtain ⟨_, g, n, c, c', A, _, _, rfl, _⟩ := ha; rfl
  | fn f n cs => obtain ⟨vs, rfl, _⟩ := ha; rfl
  | agg cs => cases h
  | tup cs => cases h
  | dead => cases h

theorem isCells_one {M : Nat → Prop} : {as : List AV} → {vs : List Value} → as.all isCell = true → Rs M w ρ hp as vs → ∀ u ∈ vs, u.oneCell' = true
  | [], _, _, h, u, hu => by cases h; cases hu
  | a :: as, _, hc, ⟨v, r, e, h0, h1⟩, u, hu => by
    simp only [List.all_cons, Bool.and_eq_true] at hc
    rw [e] at hu
    rcases List.mem_cons.1 hu with hu | hu
    · rw [hu]; exact isCell_one hc.1 h0
    · exact isCells_one hc.2 h1 u hu

/-- A new box. -/
theorem nw_box (H : HRel MX w ρ hp) {cs : List AV} {vs : List Value} {T : TypeId} (hr : Rs (Mut MX hp ρ) w ρ hp cs vs) (hk : (Eff.nw (.box cs) fun i => .ret (.box i 0)).go b hp rs ws K = some r) :
    ∃ x b' hp' rs' ws' ρ', K x b' hp' rs' ws' = some r ∧ Step MX w ρ hp (w.alloc (.cells vs.toArray T)) ρ' hp' ∧ R (Mut MX hp' ρ') (w.alloc (.cells vs.toArray T)) ρ' hp' x (.pointer (some ⟨w.heap.size, 0, none⟩)) := by
  simp only [Eff.go] at hk
  split at hk
  case h_2 => cases hk
  rename_i hu
  refine ⟨_, _, _, _, _, upd ρ b (.pointer (some ⟨w.heap.size, 0, none⟩)), hk, Step.alloc H hu rfl ?_, ?_⟩
  · intro M ρ' hp' old hv hM
    exact ⟨w.heap.size, 0, vs.toArray, T, vs, hv, heap_alloc_new w _, Rs_step (D := fun _ => False) (Off.alloc _ _ _) (fun _ _ h => h.elim) hM old cs hr, fun j v hj => by simpa using hj⟩
  · exact ⟨by rw [upd_same]; simp, w.heap.size, 0, by rw [upd_same], rfl⟩

/-- A new box whose first cell is a pointer to itself, or none. -/
theorem nw_bld (H : HRel MX w ρ hp) {c : AV} {vs : List Value} {T : TypeId} (hr : Rs (Mut MX hp ρ) w ρ hp [.v (.pointer none), c] vs) (hk : (Eff.nw (.bld T c) fun i => .ret (.box i 0)).go b hp rs ws K = some r) :
    ∃ x b' hp' rs' ws' ρ', K x b' hp' rs' ws' = some r ∧ Step MX w ρ hp (w.alloc (.cells vs.toArray T)) ρ' hp' ∧ R (Mut MX hp' ρ') (w.alloc (.cells vs.toArray T)) ρ' hp' x (.pointer (some ⟨w.heap.size, 0, none⟩)) := by
  simp only [Eff.go] at hk
  split at hk
  case h_2 => cases hk
  rename_i hu
  obtain ⟨v0, q0, rfl, h0, h1⟩ := hr
  obtain ⟨v1, q1, rfl, h1, h2⟩ := h1
  obtain rfl : q1 = [] := h2
  obtain rfl : v0 = .pointer none := h0
  refine ⟨_, _, _, _, _, upd ρ b (.pointer (some ⟨w.heap.size, 0, none⟩)), hk, Step.alloc H hu rfl ?_, ?_⟩
  · intro M ρ' hp' old hv hM
    exact ⟨w.heap.size, .pointer none, v1, hv, heap_alloc_new w _, .inl rfl, R_step (D := fun _ => False) (Off.alloc _ _ _) (fun _ _ h => h.elim) hM old c h1⟩
  · exact ⟨by rw [upd_same]; simp, w.heap.size, 0, by rw [upd_same], rfl⟩

theorem zeroCellsAt_some {T : TypeId} {cs : List AV} (h : zeroCellsAt P T = some cs) : ∃ i z, P.info? T = some i ∧ i.zero = some z ∧ ∀ (M : Nat → Prop) (w : World) (ρ : Nat → Value) (hp : Heap), Rs M w ρ hp cs z.cells.toList := by
  unfold zeroCellsAt at h
  cases hi : P.info? T with
  | none => rw [hi] at h; cases h
  | some i =>
    rw [hi] at h
    cases hz : i.zero with
    | none => simp [hz] at h
    | some z =>
      simp [hz] at h
      refine ⟨i, z, rfl, hz, fun M w ρ hp => ?_⟩
      obtain ⟨vs, e, hr⟩ := cellsOf_sound (M := M) (w := w) (ρ := ρ) (hp := hp) (a := .v z) (y := z) rfl h
      rw [e]; exact hr

theorem allocE_sound (H : HRel MX w ρ hp) {T : TypeId} (hk : (allocE P T).go b hp rs ws K = some r) :
    ∃ x b' hp' rs' ws' v w' ρ', K x b' hp' rs' ws' = some r ∧ (Instr.alloc T true (.tuple #[])).run P w = .ok v w' ∧ Step MX w ρ hp w' ρ' hp' ∧ R (Mut MX hp' ρ') w' ρ' hp' x v := by
  unfold allocE at hk
  split at hk
  case h_2 => cases hk
  rename_i cs hz0
  obtain ⟨i, z, hi, hz, hr⟩ := zeroCellsAt_some hz0
  split at hk
  case h_2 => cases hk
  case h_1 =>
    rename_i c _ _
    obtain ⟨x, b', hp', rs', ws', ρ', hK, hs, hR⟩ := nw_bld (T := T) H (hr _ _ _ _) hk
    refine ⟨x, b', hp', rs', ws', _, _, ρ', hK, ?_, hs, hR⟩
    simp [Instr.alloc, zeroValue, typeInfo, hi, hz, newVar, newRow]
  obtain ⟨x, b', hp', rs', ws', ρ', hK, hs, hR⟩ := nw_box (T := T) H (hr _ _ _ _) hk
  refine ⟨x, b', hp', rs', ws', _, _, ρ', hK, ?_, hs, hR⟩
  simp [Instr.alloc, zeroValue, typeInfo, hi, hz, newVar, newRow]

theorem boxE_sound (H : HRel MX w ρ hp) {T : TypeId} {x : AV} {y : Value} (hx : R (Mut MX hp ρ) w ρ hp x y) (hk : (boxE x).go b hp rs ws K = some r) :
    ∃ x b' hp' rs' ws' v w' ρ', K x b' hp' rs' ws' = some r ∧ (Instr.box T y).run P w = .ok v w' ∧ Step MX w ρ hp w' ρ' hp' ∧ R (Mut MX hp' ρ') w' ρ' hp' x v := by
  unfold boxE at hk
  split at hk
  case h_2 => cases hk
  rename_i cs hc
  split at hk
  case h_2 => cases hk
  obtain ⟨vs, e, hr⟩ := cellsOf_sound hx hc
  obtain ⟨x, b', hp', rs', ws', ρ', hK, hs, hR⟩ := nw_box (T := T) H hr hk
  refine ⟨x, b', hp', rs', ws', _, _, ρ', hK, ?_, hs, hR⟩
  rw [← e]
  simp [Instr.box, newVar, newRow]

theorem dec_sound {M : Nat → Prop} : (t : Ty) → {cs : List AV} → {x : t.den} → {vs : List Value} → t.dec cs = some x → Rs M w ρ hp cs vs → t.KR M w x vs
  | .int k, cs, x, vs, h, hr => by
    unfold Ty.dec at h
    split at h
    case h_2 => cases h
    rename_i k' n
    split at h
    case h_2 => cases h
    rename_i hkk _
    subst hkk
    injection h with h
    obtain ⟨v, r, rfl, hv, hr⟩ := hr
    cases hr
    rw [show v = _ from hv, h]
    rfl
  | .bool, cs, x, vs, h, hr => by
    unfold Ty.dec at h
    split at h
    case h_6 => cases h
    all_goals
      injection h with h
      obtain ⟨v, r, rfl, hv, hr⟩ := hr
      cases hr
      rw [show v = _ from hv, ← h]
      rfl
  | .str, cs, x, vs, h, hr => by
    unfold Ty.dec at h
    split at h
    case h_2 => cases h
    injection h with h
    obtain ⟨v, r, rfl, hv, hr⟩ := hr
    cases hr
    rw [show v = _ from hv, h]
    rfl
  | .sl t, cs, x, vs, h, hr => by
    unfold Ty.dec at h
    split at h
    · rename_i t' l
      split at h
      case h_2 => cases h
      rename_i hkk _
      subst hkk
      injection h with h
      subst h
      obtain ⟨v, r, rfl, hv, hr⟩ := hr
      cases hr
      obtain ⟨A, c, rfl, hl, hrow⟩ := hv
      exact ⟨A, c, rfl, hl, hrow⟩
    · injection h with h
      subst h
      obtain ⟨v, r, rfl, hv, hr⟩ := hr
      cases hr
      rw [show v = _ from hv]
      exact ⟨none, 0, rfl, Nat.le_refl _, fun i x hx => by simp at hx⟩
    · cases h
  | .pair a b, cs, x, vs, h, hr => by
    unfold Ty.dec at h
    split at h
    case h_2 => cases h
    rename_i x0 h0
    split at h
    case h_2 => cases h
    rename_i x1 h1
    injection h with h
    subst h
    exact ⟨vs.take a.sz, vs.drop a.sz, (List.take_append_drop _ _).symm, dec_sound a h0 (Rs_take hr _), dec_sound b h1 (Rs_drop hr _)⟩

/-- A part of a row that is read. -/
theorem sub_con {M : Nat → Prop} {t : Ty} {l : List t.den} {i lo : Nat} {y : Value} {A : Option Addr} {c : Nat} (h1 : t.sz = 1) (hρ : ρ i = .slice A l.length c) (hr : RowR M w (t.KR M w) t.sz A l) (h : R M w ρ hp (.sub i lo) y) : R M w ρ hp (.con t (l.drop lo)) y := by
  obtain ⟨_, g, n, c1, c', A', e, hlo, rfl, hA, hc⟩ := h
  rw [hρ] at e
  injection e with e1 e2 e3
  subst e1 e2 e3
  refine ⟨some A', c', by rw [List.length_drop], by rw [List.length_drop]; exact hc, fun j x hx => ?_⟩
  rw [List.getElem?_drop] at hx
  have hlt := (List.getElem?_eq_some_iff.1 hx).1
  obtain ⟨b, o, cs, hb, hm, hl, hk, hcell⟩ := hr _ x hx
  injection hb with hb
  injection hb with hb1 hb2
  subst hb1 hb2
  refine ⟨g, lo, cs, by rw [hA (by omega)], hm, hl, hk, fun q u hq => ?_⟩
  have := hcell q u hq
  rw [← this]
  congr 2
  rw [h1]
  omega

theorem settle_sound {γ : Type} {K : γ → Nat → Heap → List Nat → List Nat → Option Rt} : {cs : List AV} → {vs : List Value} → {f : List AV → Eff γ} → {hp : Heap} → {rs ws : List Nat} → (H : HRel MX w ρ hp) → (hr : Rs (Mut MX hp ρ) w ρ hp cs vs) →
    (hk : ((settle cs).bind f).go b hp rs ws K = some r) → ∃ cs' hp' rs' ws', (f cs').go b hp' rs' ws' K = some r ∧ Step MX w ρ hp w ρ hp' ∧ Rs (Mut MX hp' ρ) w ρ hp' cs' vs ∧ cs'.length = cs.length
  | [], vs, f, hp, rs, ws, H, hr, hk => ⟨[], hp, rs, ws, hk, Step.refl H, hr, rfl⟩
  | c :: cs, vs, f, hp, rs, ws, H, hr, hk => by
    obtain ⟨v, q, rfl, h0, h1⟩ := hr
    by_cases hc : ∃ i, c = .own i
    case pos =>
      obtain ⟨i, rfl⟩ := hc
      simp only [settle, Eff.bind, Eff.go] at hk
      have hok := H.ok i
      split at hk
      · rename_i e t l hi
        simp only [Eff.bind, Eff.go, Eff.bind_assoc] at hk
        have hs := Step.freeze H hi
        obtain ⟨cs', hp', rs', ws', hK, hst, hr', hl⟩ := settle_sound hs.rel (hs.Rs h1) hk
        have hst' := hs.trans hst
        refine ⟨.con t l :: cs', hp', rs', ws', hK, hst', ⟨v, q, rfl, ?_, hr'⟩, by simp [hl]⟩
        obtain ⟨_, rfl, _⟩ := h0
        have hok' := hs.rel.ok i
        rw [upd_same] at hok'
        obtain ⟨A, c, hv, hle, hrow⟩ := hok'
        exact hst.R (a := .con t l) ⟨A, c, (hd_slice hv).trans hv, hle, hrow⟩
      · rename_i t l hi
        simp only [Eff.bind, Eff.bind_assoc] at hk
        obtain ⟨cs', hp', rs', ws', hK, hst, hr', hl⟩ := settle_sound H h1 hk
        refine ⟨.con t l :: cs', hp', rs', ws', hK, hst, ⟨v, q, rfl, ?_, hr'⟩, by simp [hl]⟩
        obtain ⟨_, rfl, _⟩ := h0
        rw [hi] at hok
        obtain ⟨A, c, hv, hle, hrow⟩ := hok
        exact hst.R (a := .con t l) ⟨A, c, (hd_slice hv).trans hv, hle, hrow⟩
      · cases hk
    by_cases hc2 : ∃ i lo, c = .sub i lo
    · obtain ⟨i, lo, rfl⟩ := hc2
      simp only [settle, Eff.bind, Eff.go] at hk
      have hok := H.ok i
      split at hk
      · rename_i e t l hi
        split at hk
        case h_2 => cases hk
        rename_i hsz
        have hsz := Nat.eq_of_beq_eq_true hsz
        simp only [Eff.bind, Eff.go, Eff.bind_assoc] at hk
        have hs := Step.freeze H hi
        obtain ⟨cs', hp', rs', ws', hK, hst, hr', hl⟩ := settle_sound hs.rel (hs.Rs h1) hk
        have hst' := hs.trans hst
        refine ⟨.con t (l.drop lo) :: cs', hp', rs', ws', hK, hst', ⟨v, q, rfl, ?_, hr'⟩, by simp [hl]⟩
        have hok' := hs.rel.ok i
        rw [upd_same] at hok'
        obtain ⟨A, c, hv, hle, hrow⟩ := hok'
        exact hst.R (sub_con hsz hv hrow (hs.R h0))
      · rename_i t l hi
        split at hk
        case h_2 => cases hk
        rename_i hsz
        have hsz := Nat.eq_of_beq_eq_true hsz
        simp only [Eff.bind, Eff.bind_assoc] at hk
        obtain ⟨cs', hp', rs', ws', hK, hst, hr', hl⟩ := settle_sound H h1 hk
        refine ⟨.con t (l.drop lo) :: cs', hp', rs', ws', hK, hst, ⟨v, q, rfl, ?_, hr'⟩, by simp [hl]⟩
        rw [hi] at hok
        obtain ⟨A, c, hv, hle, hrow⟩ := hok
        exact hst.R (sub_con hsz hv hrow h0)
      · cases hk
    · have e : settle (c :: cs) = (settle cs).bind fun r => .ret (c :: r) := by
        cases c <;> first | rfl | exact absurd ⟨_, rfl⟩ hc | exact absurd ⟨_, _, rfl⟩ hc2
      rw [e] at hk
      simp only [Eff.bind_assoc, Eff.bind] at hk
      obtain ⟨cs', hp', rs', ws', hK, hst, hr', hl⟩ := settle_sound H h1 hk
      exact ⟨c :: cs', hp', rs', ws', hK, hst, ⟨v, q, rfl, hst.R h0, hr'⟩, by simp [hl]⟩

theorem Rs_splice {M : Nat → Prop} {cs vs : List AV} {us xs : List Value} (h : Rs M w ρ hp cs us) (g : Rs M w ρ hp vs xs) (off : Nat) : Rs M w ρ hp (splice cs off vs) (us.take off ++ xs ++ us.drop (off + xs.length)) := by
  unfold splice
  rw [Rs_len g]
  exact Rs_append (Rs_append (Rs_take h off) g) (Rs_drop h _)

theorem run_storeVar_at {T n : Nat} {y : Value} {us : List Value} (hy : y.cells.toList = us) (hn : sizeAt P T = some n) (hl : us.length = n) {g o : Nat} {C : Array Value} {e : TypeId} (hg : w.heap[g]? = some (.cells C e (0, 0)))
    (hfit : o + n ≤ C.size) (h1 : ∀ u ∈ us, u.oneCell' = true) :
    (Instr.storeAt T (.pointer (some ⟨g, o, none⟩)) y).run P w = .ok () (w.setRow g (C.toList.take o ++ us ++ C.toList.drop (o + n)).toArray) := by
  have hsz : y.cells.size = n := by rw [← hl, ← hy]; simp
  have := run_storeCells_at P g o e us 0 C w hg (by omega) h1
  rw [Nat.add_zero, hl] at this
  simp [Instr.storeAt, Instr.sureAddr, storeVar, run_sizeOf hn, hsz, hy, this]

theorem Off.setRow (w : World) (g : Nat) (cs : Array Value) : Off (fun b => b = g) w (w.setRow g cs) :=
  ⟨rfl, rfl, rfl, by simp, fun b _ hb => setRow_other w g b _ (fun e => hb e)⟩

theorem dec_len : (t : Ty) → {cs : List AV} → {x : t.den} → t.dec cs = some x → cs.length = t.sz
  | .int k, cs, x, h => by
    unfold Ty.dec at h
    split at h
    · rfl
    · cases h
  | .bool, cs, x, h => by
    unfold Ty.dec at h
    split at h <;> first | rfl | cases h
  | .str, cs, x, h => by
    unfold Ty.dec at h
    split at h
    · rfl
    · cases h
  | .sl t, cs, x, h => by
    unfold Ty.dec at h
    split at h <;> first | rfl | cases h
  | .pair a b, cs, x, h => by
    unfold Ty.dec at h
    split at h
    case h_2 => cases h
    rename_i y hy
    split at h
    case h_2 => cases h
    rename_i z hz
    have h1 := dec_len a hy
    have h2 := dec_len b hz
    have := a.sz_pos
    have := b.sz_pos
    rw [List.length_take] at h1
    rw [List.length_drop] at h2
    show cs.length = a.sz + b.sz
    omega

/-- The cells of an element whose last is a slice. -/
theorem decT_sound {M : Nat → Prop} {s : Value} : (t : Ty) → t.nest = true → {fl : List AV} → {m : List t.inn.den} → {y : t.den} → {us : List Value} → t.dec (fl ++ [.con t.inn m]) = some y → Rs M w ρ hp fl us → KT M w t y s (us ++ [s]) ∧ t.get y = m
  | .sl b, _, fl, m, y, us, h, hr => by
    have hl := dec_len (.sl b) h
    have hfl : fl = [] := by
      cases fl with
      | nil => rfl
      | cons a r => simp [Ty.sz] at hl
    subst hfl
    cases hr
    simp only [List.nil_append, Ty.dec, Ty.inn] at h
    split at h
    · injection h with h
      exact ⟨rfl, h.symm⟩
    · cases h
  | .pair a b, hn, fl, m, y, us, h, hr => by
    have hl := dec_len (.pair a b) h
    have hb := b.sz_pos
    have hl2 : fl.length + 1 = a.sz + b.sz := by
      rw [List.length_append] at hl
      exact hl
    have e1 : (fl ++ [AV.con (Ty.pair a b).inn m]).take a.sz = fl.take a.sz := List.take_append_of_le_length (by omega)
    have e2 : (fl ++ [AV.con (Ty.pair a b).inn m]).drop a.sz = fl.drop a.sz ++ [.con b.inn m] := List.drop_append_of_le_length (by omega)
    unfold Ty.dec at h
    rw [e1, e2] at h
    split at h
    case h_2 => cases h
    rename_i x1 hx1
    split at h
    case h_2 => cases h
    rename_i x2 hx2
    injection h with h
    subst h
    obtain ⟨g1, g2⟩ := decT_sound b hn hx2 (Rs_drop hr a.sz)
    refine ⟨⟨us.take a.sz, us.drop a.sz ++ [s], ?_, dec_sound a hx1 (Rs_take hr a.sz), g1⟩, g2⟩
    rw [← List.append_assoc, List.take_append_drop]

theorem put_get : (t : Ty) → (x : t.den) → t.nest = true → t.put x (t.get x) = x
  | .sl _, _, _ => rfl
  | .pair _ b, x, h => by
    show (x.1, b.put x.2 (b.get x.2)) = x
    rw [put_get b x.2 h]
    rfl

theorem lastRow_some : {vs : List AV} → {fs : List AV} → {q o : Nat} → lastRow vs = some (fs, q, o) → vs = fs ++ [lastCell o q]
  | [], fs, q, o, h => by cases h
  | c :: cs, fs, q, o, h => by
    unfold lastRow at h
    split at h
    · rename_i heq
      cases heq
    · rename_i q' heq
      cases heq
      injection h with h
      injection h with h1 h
      injection h with h2 h3
      subst h1 h2 h3
      rfl
    · rename_i q' o' heq
      cases heq
      injection h with h
      injection h with h1 h
      injection h with h2 h3
      subst h1 h2 h3
      rfl
    · rename_i c' cs' _ _ heq
      cases heq
      split at h
      · rename_i r q' o' hr
        injection h with h
        injection h with h1 h
        injection h with h2 h3
        subst h1 h2 h3
        have := lastRow_some hr
        rw [this]
        rfl
      · cases h

theorem lastOwn_some : {vs : List AV} → {fs : List AV} → {q : Nat} → lastOwn vs = some (fs, q) → vs = fs ++ [.own q]
  | [], fs, q, h => by cases h
  | [c], fs, q, h => by
    unfold lastOwn at h
    split at h
    · rename_i heq
      cases heq
    · rename_i heq
      injection heq with h1 _
      injection h with h
      injection h with h2 h3
      rw [h1, ← h2, ← h3]
      rfl
    · rename_i heq
      injection heq with h1 h2
      rw [← h2] at h
      cases h
  | c :: c' :: cs, fs, q, h => by
    have e : lastOwn (c :: c' :: cs) = (match lastOwn (c' :: cs) with
      | some (r, q) => some (c :: r, q)
      | none => none) := by
      cases c <;> rfl
    rw [e] at h
    split at h
    · rename_i r q' h'
      injection h with h
      injection h with h2 h3
      rw [lastOwn_some h', ← h2, ← h3]
      rfl
    · cases h

/-- Cells stored into an element of a row. -/
theorem own_store {e sz n g c : Nat} {xs us cs0 : List Value} (h1 : w.ownsRow 0 e sz (.slice (some ⟨g, 0, none⟩) n c) n xs) {j off : Nat} (hj : j < n) (hfit : off + us.length ≤ sz) (hl0 : cs0.length = sz) (hget : ∀ q, q < sz → xs[j * sz + q]? = cs0[q]?) :
    ∃ cur, w.heap[g]? = some (.cells cur e (0, 0)) ∧ j * sz + off + us.length ≤ cur.size ∧
      (w.setRow g (cur.toList.take (j * sz + off) ++ us ++ cur.toList.drop (j * sz + off + us.length)).toArray).ownsRow 0 e sz (.slice (some ⟨g, 0, none⟩) n c) n (xs.take (j * sz) ++ (cs0.take off ++ us ++ cs0.drop (off + us.length)) ++ xs.drop (j * sz + sz)) := by
  have hxl := h1.1
  rcases h1.2 with ⟨h3, _⟩ | ⟨g', cap, cur, h3, _, hh, hle, hcm, hcs, htake⟩
  · cases h3
  injection h3 with e1 e2 e3
  injection e1 with e1
  injection e1 with e1
  subst e1 e3
  have hbound : j * sz + sz ≤ n * sz := by
    have : (j + 1) * sz ≤ n * sz := Nat.mul_le_mul_right _ hj
    rwa [Nat.add_mul, Nat.one_mul] at this
  have hbound2 : n * sz ≤ cur.size := by rw [hcs]; exact Nat.mul_le_mul_right _ hle
  refine ⟨cur, hh, by omega, ?_, .inr ⟨g, c, _, rfl, Nat.zero_le _, setRow_heap w g cur _ e _ hh, hle, hcm, ?_, ?_⟩⟩
  · simp only [List.length_append, List.length_take, List.length_drop]
    omega
  · simp only [List.size_toArray, List.length_append, List.length_take, List.length_drop, Array.length_toList]
    omega
  · apply List.ext_getElem?
    intro q
    have hxq : ∀ q, q < n * sz → xs[q]? = cur.toList[q]? := by
      intro q hq
      rw [← htake, List.getElem?_take, if_pos hq]
    have hcq : ∀ q, q < sz → cs0[q]? = cur.toList[j * sz + q]? := by
      intro q hq
      rw [← hget q hq, hxq _ (by omega)]
    simp only [List.getElem?_take, List.append_assoc]
    by_cases hq : q < n * sz
    · rw [if_pos hq]
      by_cases q1 : q < j * sz
      · rw [List.getElem?_append_left (by simp; omega), List.getElem?_append_left (by simp; omega), List.getElem?_take, if_pos (by omega), List.getElem?_take, if_pos q1, hxq _ hq]
      · have l1 : (xs.take (j * sz)).length = j * sz := by simp; omega
        rw [List.getElem?_append_right (by omega) (l₁ := xs.take (j * sz)), l1]
        by_cases q2 : q < j * sz + off
        · rw [List.getElem?_append_left (by simp; omega), List.getElem?_take, if_pos q2, List.getElem?_append_left (by simp; omega), List.getElem?_take, if_pos (by omega), hcq _ (by omega)]
          congr 1; omega
        · have l2 : (cur.toList.take (j * sz + off)).length = j * sz + off := by simp; omega
          have l3 : (cs0.take off).length = off := by simp; omega
          rw [List.getElem?_append_right (by omega), l2, List.getElem?_append_right (by omega) (l₁ := cs0.take off), l3]
          by_cases q3 : q < j * sz + off + us.length
          · rw [List.getElem?_append_left (by omega), List.getElem?_append_left (by omega)]
            congr 1; omega
          · rw [List.getElem?_append_right (by omega), List.getElem?_append_right (by omega), List.getElem?_drop]
            by_cases q4 : q < j * sz + sz
            · rw [List.getElem?_append_left (by simp; omega), List.getElem?_drop, hcq _ (by omega)]
              congr 1; omega
            · have l4 : (cs0.drop (off + us.length)).length = sz - (off + us.length) := by simp; omega
              rw [List.getElem?_append_right (by omega), l4, List.getElem?_drop, hxq _ (by omega)]
              congr 1; omega
    · rw [if_neg hq, List.getElem?_eq_none]
      simp only [List.length_append, List.length_take, List.length_drop]
      omega

theorem Rs_split {M : Nat → Prop} : {as bs : List AV} → {vs : List Value} → Rs M w ρ hp (as ++ bs) vs → ∃ us xs, vs = us ++ xs ∧ Rs M w ρ hp as us ∧ Rs M w ρ hp bs xs
  | [], _, vs, h => ⟨[], vs, rfl, rfl, h⟩
  | a :: as, _, _, ⟨v, r, e, h0, h1⟩ => by
    obtain ⟨us, xs, e1, g1, g2⟩ := Rs_split h1
    exact ⟨v :: us, xs, by rw [e, e1]; rfl, ⟨v, us, rfl, h0, g1⟩, g2⟩

theorem storeE_sound (H : HRel MX w ρ hp) {T : TypeId} {a x : AV} {va vx : Value} (ha : R (Mut MX hp ρ) w ρ hp a va) (hx : R (Mut MX hp ρ) w ρ hp x vx) (hk : (storeE P T a x).go b hp rs ws K = some r) :
    ∃ b' hp' rs' ws' w' ρ', K (.v undef) b' hp' rs' ws' = some r ∧ (Instr.storeAt T va vx).run P w = .ok () w' ∧ Step MX w ρ hp w' ρ' hp' := by
  unfold storeE at hk
  split at hk
  · cases hk
  rename_i vs hvs
  split at hk
  case h_2 => cases hk
  rename_i n1 hall hn
  obtain ⟨n, hn1⟩ : ∃ n, n = n1 + 1 := ⟨_, rfl⟩
  have hn : sizeAt P T = some n := by rw [hn1]; exact hn
  split at hk
  case h_2 => cases hk
  rename_i hlen
  rw [← hn1] at hlen
  have hlen := Nat.eq_of_beq_eq_true hlen
  obtain ⟨us, hus, hr⟩ := cellsOf_sound hx hvs
  have hul := Rs_len hr
  have hone := isCells_one hall hr
  split at hk
  · rename_i i off
    obtain ⟨hu, g, o, he, rfl⟩ := ha
    simp only [Eff.go] at hk
    have hok := H.ok i
    split at hk
    case h_2 => cases hk
    rename_i cs hi
    split at hk
    case h_2 => cases hk
    rename_i hle
    have hle := Nat.le_of_ble_eq_true hle
    rw [← hn1] at hle
    simp only [Eff.go] at hk
    rw [hi] at hok
    obtain ⟨g', o', C, e, ys, h1, h2, h3, h4⟩ := hok
    rw [he] at h1
    injection h1 with h1
    injection h1 with h1
    injection h1 with e1 e2
    subst e1 e2
    have hyl := Rs_len h3
    have hfit : o + cs.length ≤ C.size := by
      by_cases h0 : cs.length = 0
      · omega
      · obtain ⟨v, hv⟩ : ∃ v, ys[cs.length - 1]? = some v := ⟨_, List.getElem?_eq_getElem (by omega)⟩
        have := (Array.getElem?_eq_some_iff.1 (h4 _ _ hv)).1
        omega
    have hrun := run_storeVar_at (P := P) (T := T) (o := o + off) hus hn (by omega) h2 (by omega) hone
    refine ⟨_, _, _, _, _, ρ, hk, hrun, Step.write H (fun _ => by rw [hi]; trivial) (by simp) ?_ ?_ ?_⟩
    · intro cs0 hcs0
      rw [hi] at hcs0
      injection hcs0 with hcs0
      subst hcs0
      refine ⟨_, rfl, by unfold splice; simp; omega, ?_⟩
      intro g1 o1 e1
      rw [he] at e1
      injection e1 with e1
      injection e1 with e1
      injection e1 with e2 e3
      subst e2 e3
      refine ⟨C, _, e, h2, setRow_heap w g C _ e _ h2, by simp; omega, fun j hj => ?_⟩
      have hsz : C.toList.length = C.size := by simp
      simp only [List.getElem?_toArray]
      rw [List.append_assoc]
      rcases hj with hj | hj
      · rw [List.getElem?_append_left (by simp; omega), List.getElem?_take, if_pos (by omega)]; simp
      · have ht2 : (C.toList.take (o + off)).length = o + off := by simp; omega
        rw [List.getElem?_append_right (by omega), ht2, List.getElem?_append_right (by omega), List.getElem?_drop]
        simp only [Array.getElem?_toList]
        congr 1
        omega
    · refine (Off.setRow _ _ _).mono fun b _ hb => ⟨by rw [hi]; trivial, by rw [he, hb]; rfl⟩
    · intro hp' hp'u M hM hMl _
      have hMe := hMl trivial
      subst hMe
      refine ⟨g, o, _, e, ys.take off ++ us ++ ys.drop (off + us.length), he, setRow_heap w g C _ e _ h2, ?_, ?_⟩
      · have hsp := Rs_splice h3 hr off
        refine Rs_step (D := fun b => b = g) (Off.setRow _ _ _) ?_ (fun _ _ h => h) hp'u _ hsp
        rintro b _ rfl
        exact .inr ⟨i, by rw [hi]; trivial, by rw [he]; rfl⟩
      · intro j v hj
        have hsz : C.toList.length = C.size := by simp
        simp only [List.getElem?_toArray]
        rw [List.append_assoc] at hj ⊢
        by_cases hj1 : j < off
        · rw [List.getElem?_append_left (by simp; omega), List.getElem?_take, if_pos hj1] at hj
          rw [List.getElem?_append_left (by simp; omega), List.getElem?_take, if_pos (by omega)]
          simpa using h4 j v hj
        · rw [List.getElem?_append_right (by simp; omega)] at hj
          rw [List.getElem?_append_right (by simp; omega)]
          have ht : (ys.take off).length = off := by simp; omega
          have ht2 : (C.toList.take (o + off)).length = o + off := by simp; omega
          rw [ht] at hj
          rw [ht2]
          by_cases hj2 : j - off < us.length
          · rw [List.getElem?_append_left hj2] at hj
            rw [List.getElem?_append_left (by omega), show o + j - (o + off) = j - off by omega]
            exact hj
          · rw [List.getElem?_append_right (by omega), List.getElem?_drop] at hj
            rw [List.getElem?_append_right (by omega), List.getElem?_drop]
            have := h4 _ v hj
            simp only [Array.getElem?_toList]
            rw [← this]
            congr 1
            omega
  · rename_i i sz j off
    obtain ⟨hu, g, m, c, he, hj, rfl⟩ := ha
    simp only [Eff.go] at hk
    split at hk
    · -- a row of one's own goes into an element
      rename_i p htre hlast
      obtain ⟨fs, q⟩ := p
      unfold absorbE at hk
      rw [hlast] at hk
      simp only [Eff.go] at hk
      split at hk
      case h_2 => cases hk
      rename_i be' b0 mq hq
      simp only [Eff.go] at hk
      split at hk
      case h_2 => cases hk
      rename_i e be t l cur hi
      split at hk
      case h_2 => cases hk
      rename_i hb0 hbe _ hnest hsz hfull hqi
      have hbe := Nat.eq_of_beq_eq_true hbe
      have hsz := Nat.eq_of_beq_eq_true hsz
      have hfull := Nat.eq_of_beq_eq_true hfull
      subst hbe hsz hb0
      have hqi' : q ≠ i := fun e' => by rw [e', Nat.beq_refl] at hqi; cases hqi
      split at hk
      case h_2 => cases hk
      rename_i y hdec
      have hcur : (∀ a q0, cur = some (a, q0) → a = j) ∧ (K (.v undef) b (upd (upd hp q .gone) i (.tre 0 none e be' t (l.set j y) none)) (2 * i :: (2 * i + 1) :: 2 * q :: (2 * q + 1) :: 2 * i :: (2 * i + 1) :: rs) (2 * i :: (2 * i + 1) :: 2 * q :: (2 * q + 1) :: ws) = some r ∨ K (.v undef) b (upd hp i (.tre 0 none e be' t (l.set j y) (some (j, q)))) (2 * i :: (2 * i + 1) :: 2 * q :: (2 * q + 1) :: 2 * i :: (2 * i + 1) :: rs) (2 * i :: (2 * i + 1) :: ws) = some r) := by
        split at hk
        · simp only [Eff.go] at hk
          exact ⟨(fun a q0 h => by cases h), .inr hk⟩
        · simp only [Eff.go] at hk
          split at hk
          case isFalse => cases hk
          rename_i hjj
          exact ⟨(fun a q0 h => by injection h with h; injection h with h1 _; rw [← h1]; exact hjj), .inr hk⟩
        · simp only [Eff.go] at hk
          exact ⟨(fun a q0 h => by cases h), .inl hk⟩
        · simp only [Eff.go] at hk
          split at hk
          case isFalse => cases hk
          rename_i hjj
          exact ⟨(fun a q0 h => by injection h with h; injection h with h1 _; rw [← h1]; exact hjj), .inl hk⟩
      obtain ⟨hcur, hk⟩ := hcur
      have hok := H.ok i
      rw [hi] at hok
      obtain ⟨v0, ss, uu, xs, ht⟩ := hok
      have hqok := H.ok q
      rw [hq] at hqok
      obtain ⟨ys, y1, y2⟩ := hqok
      have hv0 : v0 = .slice (some ⟨g, 0, none⟩) m c := by rw [ht.hd_] at he; exact he
      subst hv0
      obtain ⟨hnl, _, s, vs0, _, hs, hkt, _⟩ := ht.elem rfl hj
      have hjl : j < l.length := by omega
      have hz : (l.zip uu)[j]? = some (l.getD j t.zero, s) := List.getElem?_zip_eq_some.2 ⟨by rw [List.getD_eq_getElem?_getD, List.getElem?_eq_getElem hjl]; rfl, hs⟩
      obtain ⟨cs0, hk0, hl0, hget⟩ := Els.get (fun _ _ hk => KT_len t hk) ht.els j _ hz
      obtain ⟨c0, rfl, hfl⟩ := KT_flat (ρ := ρ) (hp := hp) t hk0
      have hvs := lastOwn_some hlast
      rw [hvs] at hr
      obtain ⟨us0, u1, rfl, hr0, hr1⟩ := Rs_split hr
      obtain ⟨sq, _, rfl, ⟨_, hsq, hsl⟩, rfl⟩ := hr1
      have hsq : sq = ρ q := by rw [hsq, hd_own y1]
      subst hsq
      have hul0 := Rs_len hr0
      have hvl : vs.length = fs.length + 1 := by rw [hvs, List.length_append]; rfl
      have hc0 : c0.length + 1 = t.sz := by rw [← hl0, List.length_append]; rfl
      obtain ⟨cur', hh, hb1, hown⟩ := own_store (show w.ownsRow 0 e t.sz (.slice (some ⟨g, 0, none⟩) m c) m xs by have := ht.own; rw [← hnl] at this; exact this) hj (off := off) (us := us0 ++ [ρ q]) (by rw [List.length_append, List.length_singleton]; omega) hl0 hget
      have hrun := run_storeVar_at (P := P) (T := T) (o := j * t.sz + off) hus hn (by omega) hh (by rw [← hlen, ← hul]; exact hb1) hone
      have hcells : (c0 ++ [s]).take off ++ (us0 ++ [ρ q]) ++ (c0 ++ [s]).drop (off + (us0 ++ [ρ q]).length) = (c0.take off ++ us0 ++ c0.drop (off + us0.length)) ++ [ρ q] := by
        rw [List.drop_eq_nil_of_le (by simp only [List.length_append, List.length_singleton]; omega), List.take_append_of_le_length (by omega), List.drop_eq_nil_of_le (as := c0) (by omega)]
        simp
      obtain ⟨hkt', hgy⟩ := decT_sound (s := ρ q) t hnest hdec (Rs_splice hfl hr0 off)
      rw [hcells] at hown
      have hst1 := Step.storeHole H hi ht rfl hnl hj hcur (Off.setRow _ _ _) hq hsl hown hkt'
      rcases hk with hk | hk
      case inr =>
        rw [← hlen, ← hul] at hrun
        exact ⟨_, _, _, _, _, _, hk, hrun, hst1⟩
      have hi1 : upd hp i (.tre 0 none e be' t (l.set j y) (some (j, q))) i = .tre 0 none e be' t (l.set j y) (some (j, q)) := upd_same _ _ _
      have hok1 := hst1.rel.ok i
      rw [hi1] at hok1
      obtain ⟨v1, ss1, uu1, xs1, ht1⟩ := hok1
      have hst2 := Step.putBack hst1.rel hi1 ht1 (by rw [upd_ne _ _ hqi']; exact hq)
      have ehp : upd (upd (upd hp i (.tre 0 none e be' t (l.set j y) (some (j, q)))) q .gone) i (.tre 0 none e be' t ((l.set j y).set j (t.put ((l.set j y).getD j t.zero) mq)) none) = upd (upd hp q .gone) i (.tre 0 none e be' t (l.set j y) none) := by
        funext k
        by_cases hki : k = i
        · subst hki
          rw [upd_same, upd_same]
          have : t.put ((l.set j y).getD j t.zero) mq = y := by
            rw [List.getD_eq_getElem?_getD, List.getElem?_set_self hjl]
            show t.put y mq = y
            rw [← hgy, put_get t y hnest]
          rw [this, List.set_set]
        · rw [upd_ne _ _ hki, upd_ne _ _ hki]
          by_cases hkq : k = q
          · subst hkq; rw [upd_same, upd_same]
          · rw [upd_ne _ _ hkq, upd_ne _ _ hki, upd_ne _ _ hkq]
      rw [ehp] at hst2
      rw [← hlen, ← hul] at hrun
      exact ⟨_, _, _, _, _, _, hk, hrun, hst1.trans hst2⟩
    obtain ⟨vs', hp1, rs1, ws1, hK1, hs1, hr1, hl1⟩ := settle_sound H hr hk
    simp only [Eff.go] at hK1
    have hok := hs1.rel.ok i
    split at hK1
    case h_4 => cases hK1
    case h_3 =>
      rename_i o fr e be t l cur hi
      split at hK1
      case h_2 => cases hK1
      rename_i y hsz hfit hdec
      have hsz := Nat.eq_of_beq_eq_true hsz
      subst hsz
      have hfit := Nat.le_of_ble_eq_true hfit
      simp only [Eff.go] at hK1
      rw [hi] at hok
      obtain ⟨v0, ss, uu, xs, ht⟩ := hok
      have hv0 : v0 = .slice (some ⟨g, 0, none⟩) m c := by rw [ht.hd_] at he; exact he
      subst hv0
      obtain ⟨hnl, _, s, vs0, _, hs, hkt, _⟩ := ht.elem rfl hj
      have hjl : j < l.length := by omega
      have hz : (l.zip uu)[j]? = some (l.getD j t.zero, s) := List.getElem?_zip_eq_some.2 ⟨by rw [List.getD_eq_getElem?_getD, List.getElem?_eq_getElem hjl]; rfl, hs⟩
      obtain ⟨cs0, hk0, hl0, hget⟩ := Els.get (fun _ _ hk => KT_len t hk) ht.els j _ hz
      obtain ⟨c0, rfl, hfl⟩ := KT_flat (ρ := ρ) (hp := hp1) t hk0
      have hul1 : us.length = vs'.length := Rs_len hr1
      have hc0 : c0.length + 1 = t.sz := by rw [← hl0, List.length_append]; rfl
      obtain ⟨cur', hh, hb1, hown⟩ := own_store (show w.ownsRow 0 e t.sz (.slice (some ⟨g, 0, none⟩) m c) m xs by have := ht.own; rw [← hnl] at this; exact this) hj (off := off) (us := us) (by omega) hl0 hget
      have hrun := run_storeVar_at (P := P) (T := T) (o := j * t.sz + off) hus hn (by omega) hh (by omega) hone
      have hcells : (c0 ++ [s]).take off ++ us ++ (c0 ++ [s]).drop (off + us.length) = (c0.take off ++ us ++ c0.drop (off + us.length)) ++ [s] := by
        rw [List.drop_append_of_le_length (by omega), List.take_append_of_le_length (by omega)]
        simp
      obtain ⟨hkt', hgy⟩ := decT_sound (s := s) t ht.nest hdec (Rs_splice hfl hr1 off)
      rw [hcells] at hown
      have hst1 := Step.storeFlat hs1.rel hi ht rfl hnl hj (Off.setRow _ _ _) hs hown hkt' hgy
      rw [← hlen, ← hul] at hrun
      exact ⟨_, _, _, _, _, _, hK1, hrun, hs1.trans hst1⟩
    case h_2 =>
      rename_i l hi
      split at hK1
      case h_2 => cases hK1
      rename_i y hsz hoff
      have hsz := Nat.eq_of_beq_eq_true hsz
      have hoff := Nat.eq_of_beq_eq_true hoff
      subst hsz hoff
      simp only [Eff.go] at hK1
      rw [hi] at hok
      obtain ⟨g', c', h1, hle, h3⟩ := hok
      rw [hd_slice h1] at he
      rw [he] at h1
      injection h1 with e1 e2 e3
      injection e1 with e1
      injection e1 with e1
      subst e1 e2
      obtain ⟨v, q, rfl, hv, hq⟩ := hr1
      cases hq
      obtain rfl : v = .int .u8 y := hv
      have hn0 : n = 1 := by
        have : vs.length = 1 := by rw [← hl1]; rfl
        omega
      subst hn0
      have hrun : (Instr.storeAt T (.pointer (some ⟨g, j * 1 + 0, none⟩)) vx).run P w = .ok () (w.setCell ⟨g, j, none⟩ (.int .u8 y)) := by
        have hsz : vx.cells.size = 1 := by rw [← Array.length_toList, hus]; rfl
        have := run_store_byte (P := P) h3 hj y
        simp [Instr.storeAt, Instr.sureAddr, storeVar, run_sizeOf hn, hsz, hus, storeCells, add_at', this]
      have hoff' : Off (fun b => b = g) w (w.setCell ⟨g, j, none⟩ (.int .u8 y)) := ⟨rfl, rfl, rfl, Nat.le_of_eq (setCell_size _ _ _).symm, fun b _ hb => setCell_other _ _ _ _ hb⟩
      have hst : Step MX w ρ hp1 (w.setCell ⟨g, j, none⟩ (.int .u8 y)) ρ (upd hp1 i (.bts (l.set j y))) := by
        refine Step.write hs1.rel (fun _ => by rw [hi]; trivial) (by simp) (fun cs h => by rw [hi] at h; cases h) ?_ ?_
        · exact hoff'.mono fun b _ hb => ⟨by rw [hi]; trivial, by rw [he, hb]; rfl⟩
        · intro hp' hp'u M hM hMl _
          exact ⟨g, c, by rw [List.length_set]; exact he, by rw [List.length_set, e3]; exact hle, by rw [e3]; exact h3.set hj y⟩
      exact ⟨_, _, _, _, _, ρ, hK1, hrun, hs1.trans hst⟩
    rename_i e t l hi
    split at hK1
    case h_2 => cases hK1
    rename_i y hsz hfit hdec
    have hsz := Nat.eq_of_beq_eq_true hsz
    subst hsz
    have hfit := Nat.le_of_ble_eq_true hfit
    simp only [Eff.go] at hK1
    rw [hi] at hok
    obtain ⟨xs, h1, h2⟩ := hok
    rw [hd_own h1] at he
    rcases h1.2 with ⟨h3, _⟩ | ⟨g', cap, cur, h3, _, hh, hle, hcm, hcs, htake⟩
    · rw [he] at h3; cases h3
    rw [he] at h3
    injection h3 with e1 e2 e3
    injection e1 with e1
    injection e1 with e1
    subst e1 e2 e3
    obtain ⟨cs0, hk0, hl0, hget⟩ := Els.get (fun _ _ hk => KR_len t hk) h2 j l[j] (List.getElem?_eq_getElem hj)
    have hgd : l.getD j t.zero = l[j] := by rw [List.getD_eq_getElem?_getD, List.getElem?_eq_getElem hj]; rfl
    rw [hgd] at hdec
    have hsp := Rs_splice (R_cells' hk0) hr1 off
    have hkr := dec_sound t hdec hsp
    have hul1 : us.length = vs'.length := Rs_len hr1
    have hbound : j * t.sz + t.sz ≤ l.length * t.sz := by
      have : (j + 1) * t.sz ≤ l.length * t.sz := Nat.mul_le_mul_right _ hj
      rwa [Nat.add_mul, Nat.one_mul] at this
    have hbound2 : l.length * t.sz ≤ cur.size := by rw [hcs]; exact Nat.mul_le_mul_right _ hle
    have hrun := run_storeVar_at (P := P) (T := T) (o := j * t.sz + off) hus hn (by omega) hh (by omega) hone
    have hst : Step MX w ρ hp1 (w.setRow g (cur.toList.take (j * t.sz + off) ++ us ++ cur.toList.drop (j * t.sz + off + n)).toArray) ρ (upd hp1 i (.row e t (l.set j y))) := by
      refine Step.write hs1.rel (fun _ => by rw [hi]; trivial) (by simp) (fun cs h => by rw [hi] at h; cases h) ?_ ?_
      · refine (Off.setRow _ _ _).mono fun b _ hb => ⟨by rw [hi]; trivial, by rw [he, hb]; rfl⟩
      · intro hp' hp'u M hM hMl _
        have hMe := hMl trivial
        subst hMe
        have hoff : Off (fun b => b = g) w (w.setRow g (cur.toList.take (j * t.sz + off) ++ us ++ cur.toList.drop (j * t.sz + off + n)).toArray) := Off.setRow _ _ _
        have hD : ∀ b, b < w.heap.size → b = g → Mut MX hp1 ρ b := by
          rintro b _ rfl
          exact .inr ⟨i, by rw [hi]; trivial, by rw [he]; rfl⟩
        refine ⟨xs.take (j * t.sz) ++ (cs0.take off ++ us ++ cs0.drop (off + us.length)) ++ xs.drop (j * t.sz + t.sz), ?_, ?_⟩
        · rw [List.length_set]
          refine ⟨?_, .inr ⟨g, c, _, he, Nat.zero_le _, setRow_heap w g cur _ e _ hh, hle, hcm, ?_, ?_⟩⟩
          · have hxl := h1.1
            simp only [List.length_append, List.length_take, List.length_drop]
            omega
          · simp only [List.size_toArray, List.length_append, List.length_take, List.length_drop, Array.length_toList]
            omega
          · have hxl := h1.1
            apply List.ext_getElem?
            intro q
            have hxq : ∀ q, q < l.length * t.sz → xs[q]? = cur.toList[q]? := by
              intro q hq
              rw [← htake, List.getElem?_take, if_pos hq]
            have hcq : ∀ q, q < t.sz → cs0[q]? = cur.toList[j * t.sz + q]? := by
              intro q hq
              rw [← hget q hq, hxq _ (by omega)]
            simp only [List.getElem?_take, List.append_assoc]
            by_cases hq : q < l.length * t.sz
            · rw [if_pos hq]
              by_cases q1 : q < j * t.sz
              · rw [List.getElem?_append_left (by simp; omega), List.getElem?_append_left (by simp; omega), List.getElem?_take, if_pos (by omega), List.getElem?_take, if_pos q1, hxq _ hq]
              · have l1 : (xs.take (j * t.sz)).length = j * t.sz := by simp; omega
                rw [List.getElem?_append_right (by omega) (l₁ := xs.take (j * t.sz)), l1]
                by_cases q2 : q < j * t.sz + off
                · rw [List.getElem?_append_left (by simp; omega), List.getElem?_take, if_pos q2, List.getElem?_append_left (by simp; omega), List.getElem?_take, if_pos (by omega), hcq _ (by omega)]
                  congr 1; omega
                · have l2 : (cur.toList.take (j * t.sz + off)).length = j * t.sz + off := by simp; omega
                  have l3 : (cs0.take off).length = off := by simp; omega
                  rw [List.getElem?_append_right (by omega), l2, List.getElem?_append_right (by omega) (l₁ := cs0.take off), l3]
                  by_cases q3 : q < j * t.sz + off + us.length
                  · rw [List.getElem?_append_left (by omega), List.getElem?_append_left (by omega)]
                    congr 1; omega
                  · rw [List.getElem?_append_right (by omega), List.getElem?_append_right (by omega), List.getElem?_drop]
                    by_cases q4 : q < j * t.sz + t.sz
                    · rw [List.getElem?_append_left (by simp; omega), List.getElem?_drop, hcq _ (by omega)]
                      congr 1; omega
                    · have l4 : (cs0.drop (off + us.length)).length = t.sz - (off + us.length) := by simp; omega
                      rw [List.getElem?_append_right (by omega), l4, List.getElem?_drop, hxq _ (by omega)]
                      congr 1; omega
            · rw [if_neg hq, List.getElem?_eq_none]
              simp only [List.length_append, List.length_take, List.length_drop]
              omega
        · have h2' := Els.imp (fun _ _ h => KR_step hoff hD (fun _ _ h => h) t h) h2
          exact Els.set (fun _ _ hk => KR_len t hk) h2' j y _ hj (KR_step hoff hD (fun _ _ h => h) t hkr)
    exact ⟨_, _, _, _, _, ρ, hK1, hrun, hs1.trans hst⟩
  · cases hk
end
end Go.Proofs.YtbpeiilildchlaaGreatDoor.Abs
namespace Go.Proofs.YtbpeiilildchlaaGreatDoor.Abs
open Go Go.RowKit
set_option linter.unusedVariables false
set_option linter.unusedSectionVars false
set_option linter.unusedSimpArgs false

/-- Parts and their values. -/
def PartsR (M : Nat → Prop) (w : World) (ρ : Nat → Value) (hp : Heap) : List (Nat × AV) → List (Nat × Value) → Prop
  | [], vs => vs = []
  | (i, x) :: ps, vs => ∃ v r, vs = (i, v) :: r ∧ R M w ρ hp x v ∧ PartsR M w ρ hp ps r

theorem foldl_splice (off : Nat) : ∀ (l : List Value) (k : Nat) (cs : Array Value), off + k + l.length ≤ cs.size →
    ((l.zipIdx k).foldl (fun cs (p : Value × Nat) => cs.setIfInBounds (off + p.2) p.1) cs) = (cs.toList.take (off + k) ++ l ++ cs.toList.drop (off + k + l.length)).toArray
  | [], k, cs, _ => by simp
  | x :: l, k, cs, h => by
    simp only [List.length_cons] at h
    rw [List.zipIdx_cons, List.foldl_cons, foldl_splice off l (k + 1) _ (by simp; omega)]
    congr 1
    apply List.ext_getElem?
    intro j
    simp only [Array.toList_setIfInBounds, List.append_assoc, List.length_cons]
    have hl : (cs.toList.set (off + k) x).length = cs.size := by simp
    by_cases h1 : j < off + k
    · rw [List.getElem?_append_left (by simp; omega), List.getElem?_append_left (by simp; omega), List.getElem?_take, List.getElem?_take, if_pos (by omega), if_pos h1, List.getElem?_set_ne (by omega)]
    · have ht2 : (cs.toList.take (off + k)).length = off + k := by simp; omega
      have ht1 : ((cs.toList.set (off + k) x).take (off + (k + 1))).length = off + k + 1 := by simp; omega
      by_cases h2 : j = off + k
      · subst h2
        rw [List.getElem?_append_left (by omega), List.getElem?_take, if_pos (by omega), List.getElem?_set_self (by simp; omega), List.getElem?_append_right (by omega), ht2]
        simp
      · rw [List.getElem?_append_right (by omega), ht1, List.getElem?_append_right (l₁ := cs.toList.take (off + k)) (by omega), ht2]
        rw [show j - (off + k) = (j - (off + k + 1)) + 1 by omega]
        simp only [List.cons_append, List.getElem?_cons_succ]
        by_cases h3 : j - (off + k + 1) < l.length
        · rw [List.getElem?_append_left h3, List.getElem?_append_left h3]
        · rw [List.getElem?_append_right (by omega), List.getElem?_append_right (by omega), List.getElem?_drop, List.getElem?_drop, List.getElem?_set_ne (by omega)]
          congr 1
          omega

theorem fill_sound {M : Nat → Prop} {w : World} {ρ : Nat → Value} {hp : Heap} {place placeC : Nat → Option (Nat × Nat)} (hpl : ∀ i p, place i = some p → placeC i = some p) : {ps : List (Nat × AV)} → {vs : List (Nat × Value)} → {cs cs' : List AV} → {us : List Value} →
    PartsR M w ρ hp ps vs → Rs M w ρ hp cs us → fillA place cs ps = some cs' → ∃ us' : List Value, Instr.fill placeC us.toArray vs = some us'.toArray ∧ Rs M w ρ hp cs' us' ∧ cs'.length = cs.length
  | [], _, cs, cs', us, hp, hr, h => by
    cases hp
    injection h with h
    subst h
    exact ⟨us, rfl, hr, rfl⟩
  | (i, x) :: ps, _, cs, cs', us, ⟨v, q, e, hx, hps⟩, hr, h => by
    subst e
    unfold fillA at h
    split at h
    case h_2 => cases h
    rename_i off n vs hi hc
    split at h
    case h_2 => cases h
    rename_i h1 h2
    have h1 := Nat.eq_of_beq_eq_true h1
    have h2 := Nat.le_of_ble_eq_true h2
    obtain ⟨ys, hys, hry⟩ := cellsOf_sound hx hc
    have hyl : ys.length = vs.length := Rs_len hry
    have hul : us.length = cs.length := Rs_len hr
    obtain ⟨us', h3, h4, h5⟩ := fill_sound hpl hps (Rs_splice hr hry off) h
    refine ⟨us', ?_, h4, ?_⟩
    · have hsz : v.cells.size = n := by rw [← h1, ← hyl, ← hys]; simp
      have hf := foldl_splice off ys 0 us.toArray (by simp; omega)
      unfold Instr.fill
      rw [hpl _ _ hi]
      simp only
      rw [if_neg (by simp [hsz]; omega)]
      rw [← h3]
      congr 1
      rw [← Array.foldl_toList, Array.toList_zipIdx, hys]
      rw [show (fun (cs : Array Value) (x : Value × Nat) => match x with | (c, j) => cs.setIfInBounds (off + j) c) = fun cs p => cs.setIfInBounds (off + p.2) p.1 from rfl, hf]
      simp
    · rw [h5]
      unfold splice
      simp only [List.length_append, List.length_take, List.length_drop]
      omega

section
variable {Rt : Type} {P : Program} {MX : Nat → Prop} {w : World} {ρ : Nat → Value} {hp : Heap} {b : Nat} {rs ws : List Nat} {K : AV → Nat → Heap → List Nat → List Nat → Option Rt} {r : Rt}

theorem buildE_sound {M : Nat → Prop} {T : TypeId} {ps : List (Nat × AV)} {vs : List (Nat × Value)} (hps : PartsR M w ρ hp ps vs) (hk : (buildE P T ps).go b hp rs ws K = some r) :
    ∃ x v, K x b hp rs ws = some r ∧ (Instr.build T vs.toArray).run P w = .ok v w ∧ R M w ρ hp x v := by
  unfold buildE at hk
  split at hk
  case h_2 => cases hk
  rename_i fs z hu hz
  split at hk
  case h_2 => cases hk
  rename_i pl hpl
  split at hk
  case h_2 => cases hk
  rename_i cs hf
  obtain ⟨i, z', hi, hz', hr⟩ := zeroCellsAt_some hz
  obtain ⟨us, h1, h2, _⟩ := fill_sound (placeC := (pl.toArray[·]?)) (fun i p h => by simpa using h) hps (hr M w ρ hp) hf
  refine ⟨_, .agg us.toArray, hk, run_build w T _ _ ?_, us, rfl, h2⟩
  unfold Program.built
  rw [hi, hu]
  simp only
  unfold placesOf at hpl
  rw [hz', hpl]
  simpa using h1

/-- A new row. -/
theorem nw_row (H : HRel MX w ρ hp) {e : TypeId} {t : Ty} {l : List t.den} {us : List Value} {cap : Nat} {cur : Array Value} (hels : Els (t.KR (Mut MX hp ρ) w) l us) (hle : l.length ≤ cap) (hmax : cap ≤ maxLen) (hcur : cur.size = cap * t.sz) (htk : cur.toList.take (l.length * t.sz) = us)
    (hk : (Eff.nw (.row e t l) fun i => .ret (.own i)).go b hp rs ws K = some r) :
    ∃ x b' hp' rs' ws' ρ', K x b' hp' rs' ws' = some r ∧ Step MX w ρ hp (w.alloc (.cells cur e)) ρ' hp' ∧ R (Mut MX hp' ρ') (w.alloc (.cells cur e)) ρ' hp' x (.slice (some ⟨w.heap.size, 0, none⟩) l.length cap) := by
  simp only [Eff.go] at hk
  split at hk
  case h_2 => cases hk
  rename_i hu
  refine ⟨_, _, _, _, _, upd ρ b (.slice (some ⟨w.heap.size, 0, none⟩) l.length cap), hk, Step.alloc H hu rfl ?_, ?_⟩
  · intro M ρ' hp' old hv hM
    refine ⟨us, ?_, Els.imp (fun _ _ h => KR_step (D := fun _ => False) (Off.alloc _ _ _) (fun _ _ h => h.elim) hM t h) hels⟩
    rw [hv]
    exact ⟨Els.len (fun _ _ h => KR_len t h) hels, .inr ⟨w.heap.size, cap, cur, rfl, Nat.zero_le _, heap_alloc_new w _, hle, hmax, hcur, htk⟩⟩
  · exact ⟨by rw [upd_same]; simp, by rw [upd_same]; rfl, _, _, _, rfl⟩

theorem nilLast_some : {zs : List AV} → nilLast zs = true → ∃ fs, zs = fs ++ [.v (.slice none 0 0)]
  | [], h => by cases h
  | [c], h => by
    unfold nilLast at h
    split at h
    · rename_i heq; cases heq
    · rename_i heq; exact ⟨[], heq⟩
    · rename_i heq
      injection heq with h1 h2
      rw [← h2] at h
      cases h
  | c :: c' :: cs, h => by
    have e : nilLast (c :: c' :: cs) = nilLast (c' :: cs) := by
      rw [nilLast]
      intro h h'
      cases h'
    rw [e] at h
    obtain ⟨fs, hfs⟩ := nilLast_some h
    exact ⟨c :: fs, by rw [hfs]; rfl⟩

/-- The cells of an element whose last is no slice. -/
theorem decN_sound {M : Nat → Prop} : (t : Ty) → t.nest = true → {fl : List AV} → {y : t.den} → {us : List Value} → t.dec (fl ++ [.v (.slice none 0 0)]) = some y → Rs M w ρ hp fl us → KT M w t y (.slice none 0 0) (us ++ [.slice none 0 0]) ∧ t.get y = []
  | .sl b, _, fl, y, us, h, hr => by
    have hl := dec_len (.sl b) h
    have hfl : fl = [] := by
      cases fl with
      | nil => rfl
      | cons a r => simp [Ty.sz] at hl
    subst hfl
    cases hr
    simp only [List.nil_append, Ty.dec] at h
    injection h with h
    exact ⟨rfl, h.symm⟩
  | .pair a b, hn, fl, y, us, h, hr => by
    have hl := dec_len (.pair a b) h
    have hb := b.sz_pos
    have hl2 : fl.length + 1 = a.sz + b.sz := by
      rw [List.length_append] at hl
      exact hl
    have e1 : (fl ++ [AV.v (.slice none 0 0)]).take a.sz = fl.take a.sz := List.take_append_of_le_length (by omega)
    have e2 : (fl ++ [AV.v (.slice none 0 0)]).drop a.sz = fl.drop a.sz ++ [.v (.slice none 0 0)] := List.drop_append_of_le_length (by omega)
    unfold Ty.dec at h
    rw [e1, e2] at h
    split at h
    case h_2 => cases h
    rename_i x1 hx1
    split at h
    case h_2 => cases h
    rename_i x2 hx2
    injection h with h
    subst h
    obtain ⟨g1, g2⟩ := decN_sound b hn hx2 (Rs_drop hr a.sz)
    refine ⟨⟨us.take a.sz, us.drop a.sz ++ [.slice none 0 0], ?_, dec_sound a hx1 (Rs_take hr a.sz), g1⟩, g2⟩
    rw [← List.append_assoc, List.take_append_drop]

theorem decL_sound {M : Nat → Prop} {t : Ty} : {n : Nat} → {cs : List AV} → {l : List t.den} → {vs : List Value} → decL t n cs = some l → Rs M w ρ hp cs vs → Els (t.KR M w) l vs ∧ l.length = n
  | 0, cs, l, vs, h, hr => by
    unfold decL at h
    split at h
    · injection h with h; subst h; cases hr; exact ⟨rfl, rfl⟩
    · cases h
  | n + 1, cs, l, vs, h, hr => by
    unfold decL at h
    split at h
    case h_2 => cases h
    rename_i x q hx hq
    injection h with h
    subst h
    obtain ⟨h1, h2⟩ := decL_sound hq (Rs_drop hr t.sz)
    exact ⟨⟨vs.take t.sz, vs.drop t.sz, (List.take_append_drop _ _).symm, dec_sound t hx (Rs_take hr _), h1⟩, by simp [h2]⟩

def replV : Nat → List Value → List Value
  | 0, _ => []
  | n + 1, z => replV n z ++ z

theorem Rs_repl {M : Nat → Prop} {z : List AV} {zs : List Value} (h : Rs M w ρ hp z zs) : (n : Nat) → Rs M w ρ hp (repl n z) (replV n zs)
  | 0 => rfl
  | n + 1 => Rs_append (Rs_repl h n) h

theorem madeCells_repl (z : Array Value) (hz : 0 < z.size) : (n : Nat) → (madeCells z (n * z.size)).toList = replV n z.toList
  | 0 => by simp [madeCells, replV]
  | n + 1 => by
    rw [replV, ← madeCells_repl z hz n]
    simp only [madeCells, Array.toList_map, Array.toList_range, Nat.add_mul, Nat.one_mul, List.range_add, List.map_append, List.map_map]
    congr 1
    apply List.ext_getElem?
    intro j
    by_cases hj : j < z.size
    · simp [hj, Nat.mul_add_mod_self_right, Nat.mod_eq_of_lt hj]
    · simp [hj]

theorem buildSliceE_sound (H : HRel MX w ρ hp) {T n : Nat} {ps : List (Nat × AV)} {vs : List (Nat × Value)} (hps : PartsR (Mut MX hp ρ) w ρ hp ps vs) (hk : (buildSliceE P T n ps).go b hp rs ws K = some r) :
    ∃ x b' hp' rs' ws' v w' ρ', K x b' hp' rs' ws' = some r ∧ (Instr.buildSlice T n vs.toArray).run P w = .ok v w' ∧ Step MX w ρ hp w' ρ' hp' ∧ R (Mut MX hp' ρ') w' ρ' hp' x v := by
  unfold buildSliceE at hk
  split at hk
  case h_2 => cases hk
  rename_i e hu
  split at hk
  case h_2 => cases hk
  rename_i t s z ht hs hz
  split at hk
  case h_2 => cases hk
  rename_i h1 h2 h3 h4
  have h1 := Nat.eq_of_beq_eq_true h1
  have h2 := Nat.eq_of_beq_eq_true h2
  have h3 := Nat.le_of_ble_eq_true h3
  have h4 := Nat.le_of_ble_eq_true h4
  split at hk
  case h_2 => cases hk
  rename_i cs hf
  obtain ⟨i, z', hi, hz', hr⟩ := zeroCellsAt_some hz
  have hzl : z'.cells.size = s := by
    have := Rs_len (hr (fun _ => False) w ρ hp)
    simp at this; omega
  obtain ⟨us, hfill, hrs, hlen⟩ := fill_sound (placeC := fun i => some (i * s, s)) (fun i p h => h) hps (Rs_repl (hr (Mut MX hp ρ) w ρ hp) n) hf
  obtain ⟨cs', hp1, rs1, ws1, hK1, hs1, hr1, hl1⟩ := settle_sound H hrs hk
  split at hK1
  case h_2 => cases hK1
  rename_i l hl
  obtain ⟨hels, hln⟩ := decL_sound hl hr1
  subst h1
  have hul : us.length = n * t.sz := by
    have h5 := Els.len (fun _ _ h => KR_len t h) hels
    rw [h5, hln]
  have hn : n ≤ n * t.sz := Nat.le_mul_of_pos_right n h4
  obtain ⟨x, b', hp', rs', ws', ρ', hK, hst, hR⟩ := nw_row (cap := n) (cur := us.toArray) hs1.rel hels (by omega) (by unfold maxLen; omega) (by simpa using hul) (by simp only []; rw [hln, ← hul]; exact List.take_length) hK1
  rw [hln] at hR
  refine ⟨x, b', hp', rs', ws', _, _, ρ', hK, ?_, hs1.trans hst, hR⟩
  have hmade : (Array.range (n * t.sz)).map (z'.cells[· % z'.cells.size]!) = (replV n z'.cells.toList).toArray := by
    have := madeCells_repl z'.cells (by omega) n
    unfold madeCells at this
    rw [hzl] at this
    rw [hzl, ← this]
  have hbig : ¬ (2 ^ 24 < n * t.sz) := by omega
  by_cases h0 : n * t.sz = 0
  · have hn0 : n = 0 := by omega
    subst hn0
    simp only [replV, List.toArray] at hfill
    simp [Instr.buildSlice, run_underlying hu, run_sizeOf hs, newRow]
    have e0 : Array.map (fun (_ : Nat) => (default : Value)) (Array.range 0) = #[] := by rw [Array.range_zero', Array.map_empty]
    rw [e0, show Instr.fill (fun i => some (i * t.sz, t.sz)) #[] vs = some us.toArray from hfill]
    simp
  · simp [Instr.buildSlice, run_underlying hu, run_sizeOf hs, hbig, h0, zeroValue, typeInfo, hi, hz', newRow]
    rw [hmade, hfill]
    simp
end
end Go.Proofs.YtbpeiilildchlaaGreatDoor.Abs
namespace Go.Proofs.YtbpeiilildchlaaGreatDoor.Abs
open Go Go.RowKit
set_option linter.unusedVariables false
set_option linter.unusedSectionVars false
set_option linter.unusedSimpArgs false

section
variable {Rt : Type} {P : Program} {MX : Nat → Prop} {w : World} {ρ : Nat → Value} {hp : Heap} {b : Nat} {rs ws : List Nat} {K : AV → Nat → Heap → List Nat → List Nat → Option Rt} {r : Rt}

theorem Els_replicate {M : Nat → Prop} {t : Ty} {z : t.den} {zs : List Value} (h : t.KR M w z zs) : (n : Nat) → Els (t.KR M w) (List.replicate n z) (replV n zs)
  | 0 => rfl
  | n + 1 => by
    rw [List.replicate_succ', replV]
    exact Els.append (Els_replicate h n) ⟨zs, [], by simp, h, rfl⟩

theorem Els_repl {α : Type} {K : α → List Value → Prop} {z : α} {zs : List Value} (h : K z zs) : (n : Nat) → Els K (List.replicate n z) (replV n zs)
  | 0 => rfl
  | n + 1 => by
    rw [List.replicate_succ', replV]
    exact Els.append (Els_repl h n) ⟨zs, [], by simp, h, rfl⟩

/-- A new row whose elements end in rows. -/
theorem nw_tre (H : HRel MX w ρ hp) {e be : TypeId} {t : Ty} {d : t.den} {n : Nat} {zs : List Value} {cap : Nat} {cur : Array Value} (hn : t.nest = true) (hz : KT (Mut MX hp ρ) w t d (.slice none 0 0) zs) (hd : t.get d = []) (hle : n ≤ cap) (hmax : cap ≤ maxLen) (hcur : cur.size = cap * t.sz) (htk : cur.toList.take (n * t.sz) = replV n zs)
    (hk : (Eff.nw (.tre 0 none e be t (List.replicate n d) none) fun i => .ret (.own i)).go b hp rs ws K = some r) :
    ∃ x b' hp' rs' ws' ρ', K x b' hp' rs' ws' = some r ∧ Step MX w ρ hp (w.alloc (.cells cur e)) ρ' hp' ∧ R (Mut MX hp' ρ') (w.alloc (.cells cur e)) ρ' hp' x (.slice (some ⟨w.heap.size, 0, none⟩) n cap) := by
  simp only [Eff.go] at hk
  split at hk
  case h_2 => cases hk
  rename_i hu
  have hat : At (.tuple (.slice (some ⟨w.heap.size, 0, none⟩) n cap :: List.replicate n (.slice none 0 0)).toArray) = fun b => (some w.heap.size : Option Nat) = some b := by
    funext x
    apply propext
    rw [at_tuple]
    constructor
    · rintro ⟨j, s, hj, hs⟩
      cases j with
      | zero =>
        have : Value.slice (some ⟨w.heap.size, 0, none⟩) n cap = s := by simpa using hj
        subst this
        exact hs
      | succ j =>
        rw [List.getElem?_cons_succ, List.getElem?_replicate] at hj
        split at hj
        · injection hj with hj
          subst hj
          cases hs
        · cases hj
    · intro h
      exact ⟨0, _, rfl, h⟩
  refine ⟨_, _, _, _, _, upd ρ b (.tuple (.slice (some ⟨w.heap.size, 0, none⟩) n cap :: List.replicate n (.slice none 0 0)).toArray), hk, Step.alloc H hu hat ?_, ?_⟩
  · intro M ρ' hp' old hv hM
    have hz' : KT M (w.alloc (.cells cur e)) t d (.slice none 0 0) zs := KT_step (D := fun _ => False) (Off.alloc _ _ _) (fun _ _ h => h.elim) hM t hz
    have hzip : (List.replicate n d).zip (List.replicate n (Value.slice none 0 0)) = List.replicate n (d, .slice none 0 0) := by
      rw [List.zip_replicate, Nat.min_self]
    refine ⟨_, List.replicate n (.slice none 0 0), List.replicate n (.slice none 0 0), replV n zs, hn, .inl rfl, .inl hv, by simp, by simp, ?_, ?_, fun j x s _ hx hs _ => ?_, fun j s hf => absurd hf (Nat.not_lt_zero _), fun j s u _ hs hu => (by rw [hs] at hu; injection hu with hu; exact hu.symm), fun j k s s' x hj hk' hs hs' => ?_, fun s hs => ?_, fun j q hc => by cases hc⟩
    · rw [List.length_replicate]
      have hl : (replV n zs).length = n * t.sz := by
        have h1 := Els.len (fun _ _ hk => KT_len t hk) (Els_repl (K := fun (p : t.den × Value) cs => KT M (w.alloc (.cells cur e)) t p.1 p.2 cs) (z := (d, .slice none 0 0)) hz' n)
        rw [List.length_replicate] at h1
        exact h1
      exact ⟨hl, .inr ⟨w.heap.size, cap, cur, rfl, Nat.zero_le _, heap_alloc_new w _, hle, hmax, hcur, htk⟩⟩
    · rw [hzip]
      exact Els_repl (K := fun (p : t.den × Value) cs => KT M (w.alloc (.cells cur e)) t p.1 p.2 cs) (z := (d, .slice none 0 0)) hz' n
    · rw [List.getElem?_replicate] at hx hs
      split at hx
      case isFalse => cases hx
      rename_i hjn
      rw [if_pos hjn] at hs
      injection hx with hx
      injection hs with hs
      subst hx hs
      unfold Inn
      rw [hd]
      exact ⟨[], World.ownsRow_nil _ _ _ _, rfl⟩
    · have z : ∀ (j : Nat) (s : Value), (Value.slice (some ⟨w.heap.size, 0, none⟩) n cap :: hole none (List.replicate n (.slice none 0 0)))[j]? = some s → blk s = some x → j = 0 := by
        intro j s hj hs
        cases j with
        | zero => rfl
        | succ j =>
          rw [List.getElem?_cons_succ] at hj
          unfold hole at hj
          simp only [List.getElem?_replicate] at hj
          split at hj
          · injection hj with hj
            subst hj
            cases hs
          · cases hj
      rw [z j s hj hs, z k s' hk' hs']
    · rw [List.eq_of_mem_replicate hs]
      exact ⟨_, _, _, rfl⟩
  · exact ⟨by rw [upd_same]; simp, by rw [upd_same]; rfl, _, _, _, rfl⟩

/-- .. of no or one element. -/
theorem nw_treL (H : HRel MX w ρ hp) {e be : TypeId} {t : Ty} {l : List t.den} {cap : Nat} {cur : Array Value} (hn : t.nest = true) {xs : List Value} (hels : Els (fun (p : t.den × Value) cs => KT (Mut MX hp ρ) w t p.1 p.2 cs) (l.zip (List.replicate l.length (Value.slice none 0 0))) xs) (hget : ∀ x ∈ l, t.get x = []) (hle : l.length ≤ cap) (hmax : cap ≤ maxLen) (hcur : cur.size = cap * t.sz) (htk : cur.toList.take (l.length * t.sz) = xs)
    (hk : (Eff.nw (.tre 0 none e be t l none) fun i => .ret (.own i)).go b hp rs ws K = some r) :
    ∃ x b' hp' rs' ws' ρ', K x b' hp' rs' ws' = some r ∧ Step MX w ρ hp (w.alloc (.cells cur e)) ρ' hp' ∧ R (Mut MX hp' ρ') (w.alloc (.cells cur e)) ρ' hp' x (.slice (some ⟨w.heap.size, 0, none⟩) l.length cap) := by
  simp only [Eff.go] at hk
  split at hk
  case h_2 => cases hk
  rename_i hu
  have hat : At (.tuple (.slice (some ⟨w.heap.size, 0, none⟩) l.length cap :: List.replicate l.length (.slice none 0 0)).toArray) = fun b => (some w.heap.size : Option Nat) = some b := by
    funext x
    apply propext
    rw [at_tuple]
    constructor
    · rintro ⟨j, s, hj, hs⟩
      cases j with
      | zero =>
        have : Value.slice (some ⟨w.heap.size, 0, none⟩) l.length cap = s := by simpa using hj
        subst this
        exact hs
      | succ j =>
        rw [List.getElem?_cons_succ, List.getElem?_replicate] at hj
        split at hj
        · injection hj with hj
          subst hj
          cases hs
        · cases hj
    · intro h
      exact ⟨0, _, rfl, h⟩
  have hxl : xs.length = l.length * t.sz := by
    have h1 := Els.len (fun _ _ hk => KT_len t hk) hels
    rw [List.length_zip, List.length_replicate, Nat.min_self] at h1
    exact h1
  refine ⟨_, _, _, _, _, upd ρ b (.tuple (.slice (some ⟨w.heap.size, 0, none⟩) l.length cap :: List.replicate l.length (.slice none 0 0)).toArray), hk, Step.alloc H hu hat ?_, ?_⟩
  · intro M ρ' hp' old hv hM
    refine ⟨_, List.replicate l.length (.slice none 0 0), List.replicate l.length (.slice none 0 0), xs, hn, .inl rfl, .inl hv, by simp, by simp, ⟨hxl, .inr ⟨w.heap.size, cap, cur, rfl, Nat.zero_le _, heap_alloc_new w _, hle, hmax, hcur, htk⟩⟩, Els.imp (fun _ _ hk => KT_step (D := fun _ => False) (Off.alloc _ _ _) (fun _ _ h => h.elim) hM t hk) hels, fun j x s _ hx hs _ => ?_, fun j s hf => absurd hf (Nat.not_lt_zero _), fun j s u _ hs hu => (by rw [hs] at hu; injection hu with hu; exact hu.symm), fun j k s s' x hj hk' hs hs' => ?_, fun s hs => ?_, fun j q hc => by cases hc⟩
    · have hs := List.eq_of_mem_replicate (List.mem_of_getElem? hs)
      subst hs
      unfold Inn
      rw [hget x (List.mem_of_getElem? hx)]
      exact ⟨[], World.ownsRow_nil _ _ _ _, rfl⟩
    · have z : ∀ (j : Nat) (s : Value), (Value.slice (some ⟨w.heap.size, 0, none⟩) l.length cap :: hole none (List.replicate l.length (.slice none 0 0)))[j]? = some s → blk s = some x → j = 0 := by
        intro j s hj hs
        cases j with
        | zero => rfl
        | succ j =>
          rw [List.getElem?_cons_succ] at hj
          have := List.eq_of_mem_replicate (List.mem_of_getElem? (show (List.replicate l.length (Value.slice none 0 0))[j]? = some s from hj))
          subst this
          cases hs
      rw [z j s hj hs, z k s' hk' hs']
    · rw [List.eq_of_mem_replicate hs]
      exact ⟨_, _, _, rfl⟩
  · exact ⟨by rw [upd_same]; simp, by rw [upd_same]; rfl, _, _, _, rfl⟩

theorem makeSliceE_sound (H : HRel MX w ρ hp) {T : TypeId} {n : AV} {vn : Value} (hn : R (Mut MX hp ρ) w ρ hp n vn) (hk : (makeSliceE P T n).go b hp rs ws K = some r) :
    ∃ x b' hp' rs' ws' v w' ρ', K x b' hp' rs' ws' = some r ∧ (Instr.makeSlice T vn vn).run P w = .ok v w' ∧ Step MX w ρ hp w' ρ' hp' ∧ R (Mut MX hp' ρ') w' ρ' hp' x v := by
  unfold makeSliceE at hk
  split at hk
  case h_2 => cases hk
  rename_i e n hu
  rw [show vn = _ from hn]
  split at hk
  case h_2 => cases hk
  rename_i t s z by_ ht hs hz hby
  split at hk
  case h_2 => cases hk
  rename_i z0 h1 h2 h3 h4 h5
  have h1 := Nat.eq_of_beq_eq_true h1
  have h2 := Nat.le_of_ble_eq_true h2
  have h3 := Nat.le_of_ble_eq_true h3
  have h4 := Nat.eq_of_beq_eq_true h4
  simp only [Eff.go] at hk
  split at hk
  case isFalse => cases hk
  rename_i hn0
  split at hk
  case isFalse => cases hk
  rename_i hn1
  obtain ⟨i, z', hi, hz', hr⟩ := zeroCellsAt_some hz
  have hzl : z'.cells.size = s := by
    have := Rs_len (hr (fun _ => False) w ρ hp)
    simp at this; omega
  have hsi : i.size = s := by simpa [sizeAt, hi] using hs
  have hbi : i.bytes = by_ := by simpa [hi] using hby
  subst h1
  have hmul : by_ * n.toNat ≤ 281474976710656 := by
    have := Nat.mul_le_mul_left by_ hn1
    exact Nat.le_trans this (Nat.mul_div_le _ _)
  have hmul' : (i.bytes : Int) * n ≤ 281474976710656 := by
    rw [hbi]
    have e : n = (n.toNat : Int) := by omega
    rw [e, ← Int.natCast_mul]
    omega
  have hnn : n.toNat ≤ 281474976710656 := Nat.le_trans (Nat.le_mul_of_pos_left _ h3) hmul
  have hrun := run_make (P := P) w T e i z' hu hi hz' .i64 .i64 n n hn0 (Int.le_refl _) hmul' (by omega)
  have hkz := dec_sound (M := Mut MX hp ρ) (w := w) (ρ := ρ) (hp := hp) t h5 (hr _ _ _ _)
  have hmade := madeCells_repl z'.cells (by omega) n.toNat
  rw [hzl] at hmade
  rw [hsi] at hrun
  split at hk
  · rename_i be hnest hnil hinn
    obtain ⟨fs, hfs⟩ := nilLast_some hnil
    have hrz := hr (Mut MX hp ρ) w ρ hp
    rw [hfs] at hrz h5
    obtain ⟨us, us1, hus, hr0, hr1⟩ := Rs_split hrz
    obtain ⟨v1, _, rfl, hv1, rfl⟩ := hr1
    obtain rfl : v1 = .slice none 0 0 := hv1
    obtain ⟨hkt, hgd⟩ := decN_sound t hnest h5 hr0
    rw [← hus] at hkt
    obtain ⟨x, b', hp', rs', ws', ρ', hK, hst, hR⟩ := nw_tre (n := n.toNat) (cap := n.toNat) (cur := madeCells z'.cells (n.toNat * t.sz)) (zs := z'.cells.toList) H hnest hkt hgd (Nat.le_refl _) (by unfold maxLen; omega)
      (by rw [size_madeCells]) (by rw [hmade]; exact List.take_of_length_le (by rw [← hmade]; simp [size_madeCells])) hk
    exact ⟨x, b', hp', rs', ws', _, _, ρ', hK, hrun, hst, hR⟩
  obtain ⟨x, b', hp', rs', ws', ρ', hK, hst, hR⟩ := nw_row (cap := n.toNat) (cur := madeCells z'.cells (n.toNat * t.sz)) (us := replV n.toNat z'.cells.toList) H (Els_replicate hkz n.toNat) (by simp) (by unfold maxLen; omega)
    (by rw [size_madeCells]) (by rw [hmade, List.length_replicate]; exact List.take_of_length_le (by rw [← hmade]; simp [size_madeCells])) hk
  rw [List.length_replicate] at hR
  exact ⟨x, b', hp', rs', ws', _, _, ρ', hK, hrun, hst, hR⟩

/-- The bounds of a slice expression. -/
theorem cut_sound {M : Nat → Prop} {lo hi : Option AV} {vlo vhi : Option Value} {n : Nat} {k : Int → Int → Eff AV}
    (hlo : ∀ x, lo = some x → ∃ v, vlo = some v ∧ R M w ρ hp x v) (hlo' : lo = none → vlo = none) (hhi : ∀ x, hi = some x → ∃ v, vhi = some v ∧ R M w ρ hp x v) (hhi' : hi = none → vhi = none)
    (hk : (cutE lo hi (n : Int) k).go b hp rs ws K = some r) :
    ∃ l h : Int, (k l h).go b hp rs ws K = some r ∧ 0 ≤ l ∧ l ≤ h ∧ h ≤ n ∧ (hi = none → h = n) ∧ ∀ (isSlice : Bool) (cap : Nat), n ≤ cap → (Instr.sliceBounds isSlice n cap vlo vhi none).run P w = .ok (l.toNat, h.toNat, cap) w := by
  unfold cutE at hk
  split at hk
  case h_2 => cases hk
  rename_i h l hh hl
  have hi0 : (0 ≤ h ∧ h ≤ n ∧ (cutLo lo l h (k l h)).go b hp rs ws K = some r) ∧ (∀ (isSlice : Bool) (cap : Nat), n ≤ cap → (vhi = none ∧ h = n) ∨ ∃ k', vhi = some (.int k' h)) := by
    cases hi with
    | none =>
      simp only [boundOf] at hh
      injection hh with hh
      subst hh
      exact ⟨⟨by omega, by omega, hk⟩, fun _ _ _ => .inl ⟨hhi' rfl, rfl⟩⟩
    | some x =>
      obtain ⟨v, rfl, hv⟩ := hhi x rfl
      simp only [cutHi, Eff.go] at hk
      split at hk
      case isFalse => cases hk
      rename_i h0
      split at hk
      case isFalse => cases hk
      rename_i h1
      refine ⟨⟨h0, h1, hk⟩, fun isSlice cap hc => .inr ?_⟩
      unfold boundOf at hh
      split at hh
      · cases ‹some x = none›
      · rename_i k' m he
        injection hh with hh
        injection he with he
        subst hh he
        exact ⟨k', by rw [show v = _ from hv]⟩
      · cases hh
  obtain ⟨⟨h0, h1, hk⟩, hrun⟩ := hi0
  have hlo0 : 0 ≤ l ∧ l ≤ h ∧ (k l h).go b hp rs ws K = some r ∧ ((vlo = none ∧ l = 0) ∨ ∃ k', vlo = some (.int k' l)) := by
    cases lo with
    | none =>
      simp only [boundOf] at hl
      injection hl with hl
      subst hl
      exact ⟨by omega, h0, hk, .inl ⟨hlo' rfl, rfl⟩⟩
    | some x =>
      obtain ⟨v, rfl, hv⟩ := hlo x rfl
      simp only [cutLo, Eff.go] at hk
      split at hk
      case isFalse => cases hk
      rename_i l0
      split at hk
      case isFalse => cases hk
      rename_i l1
      refine ⟨l0, l1, hk, .inr ?_⟩
      unfold boundOf at hl
      split at hl
      · cases ‹some x = none›
      · rename_i k' m he
        injection hl with hl
        injection he with he
        subst hl he
        exact ⟨k', by rw [show v = _ from hv]⟩
      · cases hl
  obtain ⟨l0, l1, hk, hlr⟩ := hlo0
  refine ⟨l, h, hk, l0, l1, h1, fun he => ?_, fun isSlice cap hc => ?_⟩
  · rcases hrun true n (Nat.le_refl _) with ⟨_, e⟩ | ⟨k', e⟩
    · exact e
    · rw [hhi' he] at e; cases e
  rcases hrun isSlice cap hc with ⟨rfl, rfl⟩ | ⟨k1, rfl⟩ <;> rcases hlr with ⟨rfl, rfl⟩ | ⟨k2, rfl⟩
  · simp [Instr.sliceBounds]
  · have hb := run_sliceBound (P := P) w k2 l n .sliceB l0 l1
    simp [Instr.sliceBounds, hb]
  · have hb := run_sliceBound (P := P) w k1 h cap (if isSlice then .sliceAcap else .sliceAlen) h0 (by omega)
    simp [Instr.sliceBounds, hb]
  · have hb := run_sliceBound (P := P) w k1 h cap (if isSlice then .sliceAcap else .sliceAlen) h0 (by omega)
    have hb2 := run_sliceBound (P := P) w k2 l h.toNat .sliceB l0 (by omega)
    simp [Instr.sliceBounds, hb, hb2]

theorem run_sliceAt_sl {T e s : TypeId} (hu : P.underlying T = some (.slice e)) (hs : sizeAt P e = some s) {a : Option Addr} {n c l h m : Nat} {lo hi : Option Value} (hb : (Instr.sliceBounds true n c lo hi none).run P w = .ok (l, h, m) w) :
    (Instr.sliceAt T (.slice a n c) lo hi none).run P w = .ok (.slice (if m = l then a else a.map (·.add (l * s))) (h - l) (m - l)) w := by
  simp [Instr.sliceAt, run_underlying hu, Instr.slice, hb, run_sizeOf hs]
theorem run_sliceAt_str {T : TypeId} (hu : P.underlying T = some .string) {x : ByteArray} {l h m : Nat} {lo hi : Option Value} (hb : (Instr.sliceBounds false x.size x.size lo hi none).run P w = .ok (l, h, m) w) :
    (Instr.sliceAt T (.string x) lo hi none).run P w = .ok (.string (x.extract l h)) w := by
  simp [Instr.sliceAt, run_underlying hu, Instr.slice, hb]

/-- A part of a row that is read. -/
theorem con_part {M : Nat → Prop} {t : Ty} {c : List t.den} {A : Option Addr} {cap l h : Nat} (hr : RowR M w (t.KR M w) t.sz A c) (hl : l ≤ h) (hh : h ≤ c.length) (hc : c.length ≤ cap) :
    R M w ρ hp (.con t ((c.take h).drop l)) (.slice (if cap = l then A else A.map (·.add (l * t.sz))) (h - l) (cap - l)) := by
  have hlen : ((c.take h).drop l).length = h - l := by simp; omega
  refine ⟨_, _, by rw [hlen], by omega, fun i x hx => ?_⟩
  have hi : i < h - l := by
    have := (List.getElem?_eq_some_iff.1 hx).1
    omega
  rw [List.getElem?_drop, List.getElem?_take, if_pos (by omega)] at hx
  obtain ⟨g, o, cs, hA, hg, hcl, hkr, hcc⟩ := hr (l + i) x hx
  refine ⟨g, o + l * t.sz, cs, ?_, hg, hcl, hkr, fun j u hu => ?_⟩
  · rw [if_neg (by omega), hA, Option.map_some, add_at']
  · have := hcc j u hu
    rw [Nat.add_mul] at this
    rw [← this]
    congr 2
    omega

theorem sliceE_sound (H : HRel MX w ρ hp) {T : TypeId} {x : AV} {vx : Value} {lo hi : Option AV} {vlo vhi : Option Value} (hx : R (Mut MX hp ρ) w ρ hp x vx)
    (hlo : ∀ x, lo = some x → ∃ v, vlo = some v ∧ R (Mut MX hp ρ) w ρ hp x v) (hlo' : lo = none → vlo = none) (hhi : ∀ x, hi = some x → ∃ v, vhi = some v ∧ R (Mut MX hp ρ) w ρ hp x v) (hhi' : hi = none → vhi = none)
    (hk : (sliceE P T x lo hi).go b hp rs ws K = some r) :
    ∃ x b' hp' rs' ws' v w' ρ', K x b' hp' rs' ws' = some r ∧ (Instr.sliceAt T vx vlo vhi none).run P w = .ok v w' ∧ Step MX w ρ hp w' ρ' hp' ∧ R (Mut MX hp' ρ') w' ρ' hp' x v := by
  unfold sliceE at hk
  split at hk
  · rename_i s hu
    rw [show vx = _ from hx]
    obtain ⟨l, h, hK, h0, h1, h2, hn, hb⟩ := cut_sound (P := P) hlo hlo' hhi hhi' hk
    exact ⟨_, _, _, _, _, _, w, ρ, hK, run_sliceAt_str hu (hb false s.size (Nat.le_refl _)), Step.refl H, rfl⟩
  · rename_i e t c hu
    split at hk
    case h_2 => cases hk
    rename_i s hs
    split at hk
    case h_2 => cases hk
    rename_i hsz
    have hsz := Nat.eq_of_beq_eq_true hsz
    subst hsz
    obtain ⟨A, cap, rfl, hle, hr⟩ := hx
    obtain ⟨l, h, hK, h0, h1, h2, hn, hb⟩ := cut_sound (P := P) hlo hlo' hhi hhi' hk
    exact ⟨_, _, _, _, _, _, w, ρ, hK, run_sliceAt_sl hu hs (hb true cap hle), Step.refl H, con_part hr (by omega) (by omega) hle⟩
  · rename_i e i hu
    split at hk
    case h_2 => cases hk
    rename_i s hs
    obtain ⟨hne, rfl, A0, n0, c0, hv⟩ := hx
    simp only [Eff.go] at hk
    have hok := H.ok i
    split at hk
    · rename_i e' t c hi'
      split at hk
      case h_2 => cases hk
      rename_i hsz
      have hsz := Nat.eq_of_beq_eq_true hsz
      subst hsz
      split at hk
      · rename_i htail
        obtain ⟨rfl, ht1, rfl⟩ : lo = some (.v (.int .i64 1)) ∧ t.sz = 1 ∧ hi = none := by
          unfold tailOf at htail
          split at htail
          · exact ⟨rfl, rfl, rfl⟩
          · cases htail
        have h1c : 1 ≤ c.length := by
          have h2 := hk
          simp only [cutE, boundOf, cutHi, cutLo, Eff.go] at h2
          split at h2
          case isFalse => cases h2
          split at h2
          case isFalse => cases h2
          omega
        obtain rfl := hhi' rfl
        obtain ⟨l, h, hK, h0, h1, h2, hn, hb⟩ := cut_sound (P := P) (hi := none) (vhi := none) hlo hlo' (fun y hy => by cases hy) (fun _ => rfl) hk
        rw [hi'] at hok
        obtain ⟨xs, g1, g2⟩ := hok
        rcases g1.2 with ⟨g3, g4⟩ | ⟨g, cap, cur, g3, _, _, hle, _⟩
        · omega
        rw [g3]
        have hrun := run_sliceAt_sl hu hs (a := some ⟨g, 0, none⟩) (hb true cap hle)
        have hcl : h = (c.length : Int) := hn rfl
        subst hcl
        refine ⟨_, _, _, _, _, _, w, ρ, hK, hrun, Step.refl H, hne, g, c.length, cap, cap - l.toNat, (if cap = l.toNat then ⟨g, 0, none⟩ else ⟨g, l.toNat, none⟩), g3, by omega, ?_, fun hlt => by rw [if_neg (by omega)], by omega⟩
        rw [ht1]
        show Value.slice _ _ _ = _
        congr 1
        split
        · rfl
        · simp only [Option.map_some, Nat.mul_one]
          rw [add_at', Nat.zero_add]
      obtain ⟨l, h, hK, h0, h1, h2, hn, hb⟩ := cut_sound (P := P) hlo hlo' hhi hhi' hk
      simp only [Eff.go] at hK
      have hst := Step.freeze H hi'
      have hok' := hst.rel.ok i
      rw [upd_same] at hok'
      obtain ⟨A, cap, hv', hle, hr⟩ := hok'
      rw [hv']
      exact ⟨_, _, _, _, _, _, w, ρ, hK, run_sliceAt_sl hu hs (hb true cap hle), hst, con_part hr (by omega) (by omega) hle⟩
    · rename_i t c hi'
      split at hk
      case h_2 => cases hk
      rename_i hsz
      have hsz := Nat.eq_of_beq_eq_true hsz
      subst hsz
      rw [hi'] at hok
      obtain ⟨A, cap, hv', hle, hr⟩ := hok
      rw [hv']
      obtain ⟨l, h, hK, h0, h1, h2, hn, hb⟩ := cut_sound (P := P) hlo hlo' hhi hhi' hk
      exact ⟨_, _, _, _, _, _, w, ρ, hK, run_sliceAt_sl hu hs (hb true cap hle), Step.refl H, con_part hr (by omega) (by omega) hle⟩
    · rename_i c hi'
      split at hk
      case h_2 => cases hk
      rename_i hsz
      have hsz := Nat.eq_of_beq_eq_true hsz
      subst hsz
      rw [hi'] at hok
      obtain ⟨g, cap, hv', hle, hr⟩ := hok
      rw [hv']
      obtain rfl := hhi' rfl
      obtain ⟨l, h, hK, h0, h1, h2, hn, hb⟩ := cut_sound (P := P) (hi := none) (vhi := none) hlo hlo' (fun y hy => by cases hy) (fun _ => rfl) hk
      have hrun := run_sliceAt_sl hu hs (a := some ⟨g, 0, none⟩) (hb true cap hle)
      have hcl : h = (c.length : Int) := hn rfl
      subst hcl
      refine ⟨_, _, _, _, _, _, w, ρ, hK, hrun, Step.refl H, hne, g, c.length, cap, cap - l.toNat, (if cap = l.toNat then ⟨g, 0, none⟩ else ⟨g, l.toNat, none⟩), hv', by omega, ?_, ?_⟩
      · congr 1
        split
        · rfl
        · simp only [Option.map_some, Nat.mul_one]
          rw [add_at', Nat.zero_add]
      · refine ⟨fun hlt => ?_, by omega⟩
        rw [if_neg (by omega)]
    · cases hk
  · cases hk

/-- The cells of a row that is read, one behind the other. -/
theorem row_cells {M : Nat → Prop} {t : Ty} {g : Nat} : {l : List t.den} → {o : Nat} → (∀ (i : Nat) (x : t.den), l[i]? = some x → ∃ cs, cs.length = t.sz ∧ t.KR M w x cs ∧ ∀ (j : Nat) (u : Value), cs[j]? = some u → w.cell? ⟨g, o + (i * t.sz + j), none⟩ = some u) →
    ∃ xs, Els (t.KR M w) l xs ∧ ∀ (q : Nat) (u : Value), xs[q]? = some u → w.cell? ⟨g, o + q, none⟩ = some u
  | [], _, _ => ⟨[], rfl, fun q u h => by simp at h⟩
  | x :: l, o, h => by
    obtain ⟨cs, h1, h2, h3⟩ := h 0 x rfl
    obtain ⟨xs, h4, h5⟩ := row_cells (l := l) (o := o + t.sz) (fun i y hy => by
      obtain ⟨cs, g1, g2, g3⟩ := h (i + 1) y (by simpa using hy)
      refine ⟨cs, g1, g2, fun j u hu => ?_⟩
      have := g3 j u hu
      rw [← this]
      congr 2
      rw [Nat.add_mul, Nat.one_mul]; omega)
    refine ⟨cs ++ xs, ⟨cs, xs, rfl, h2, h4⟩, fun q u hq => ?_⟩
    by_cases hlt : q < cs.length
    · rw [List.getElem?_append_left hlt] at hq
      have := h3 q u hq
      rw [← this]
      congr 2
      omega
    · rw [List.getElem?_append_right (by omega)] at hq
      have := h5 _ u hq
      rw [← this]
      congr 2
      omega

theorem con_cells {M : Nat → Prop} {t : Ty} {l : List t.den} {A : Option Addr} (hr : RowR M w (t.KR M w) t.sz A l) :
    (A = none ∧ l = []) ∨ ∃ a xs, A = some a ∧ Els (t.KR M w) l xs ∧ ∀ (q : Nat) (u : Value), xs[q]? = some u → w.cell? (a.add q) = some u := by
  cases A with
  | none =>
    refine .inl ⟨rfl, ?_⟩
    cases l with
    | nil => rfl
    | cons x l => obtain ⟨b, o, cs, hA, _⟩ := hr 0 x rfl; cases hA
  | some a =>
    right
    cases l with
    | nil => exact ⟨a, [], rfl, rfl, fun q u h => by simp at h⟩
    | cons x l =>
      obtain ⟨g, o, cs, hA, _⟩ := hr 0 x rfl
      injection hA with hA
      subst hA
      obtain ⟨xs, h1, h2⟩ := row_cells (g := g) (o := o) (fun i y hy => by
        obtain ⟨g', o', cs, hA, _, h1, h2, h3⟩ := hr i y hy
        injection hA with hA
        injection hA with e1 e2
        subst e1 e2
        exact ⟨cs, h1, h2, h3⟩)
      exact ⟨_, xs, rfl, h1, fun q u hq => by rw [add_at']; exact h2 q u hq⟩

/-- A slice as it is read (out of a heap from which some entries have gone). -/
theorem Els_drop {α : Type} {K : α → List Value → Prop} (hK : ∀ x cs, K x cs → cs.length = 1) : {l : List α} → {xs : List Value} → Els K l xs → ∀ n, Els K (l.drop n) (xs.drop n)
  | [], _, h, n => by
    have h : _ = [] := h
    subst h
    simp [Els]
  | x :: l, _, h, 0 => h
  | x :: l, _, ⟨c, r, e, hc, hr⟩, n + 1 => by
    have hl := hK _ _ hc
    have : (c ++ r).drop (n + 1) = r.drop n := by
      rw [List.drop_append, hl, List.drop_eq_nil_of_le (by omega), List.nil_append]
      congr 1
    rw [e, this]
    exact Els_drop hK hr n
theorem readSl_sound (H : HRel MX w ρ hp) {hp1 : Heap} (hq : ∀ q, hp1 q = hp q ∨ hp1 q = .gone) {x : AV} {vx : Value} {k : (t : Ty) → List t.den → Eff AV} (hx : R (Mut MX hp ρ) w ρ hp x vx) (hk : (readSl x k).go b hp1 rs ws K = some r) :
    ∃ t l rs' A c, (k t l).go b hp1 rs' ws K = some r ∧ vx = .slice A l.length c ∧ l.length ≤ c ∧ ((A = none ∧ l = []) ∨ ∃ a xs, A = some a ∧ Els (t.KR (Mut MX hp ρ) w) l xs ∧ ∀ (q : Nat) (u : Value), xs[q]? = some u → w.cell? (a.add q) = some u) := by
  unfold readSl at hk
  split at hk
  · rename_i t l
    obtain ⟨A, c, rfl, hle, hr⟩ := hx
    exact ⟨t, l, rs, A, c, hk, rfl, hle, con_cells hr⟩
  · rename_i i
    obtain ⟨hne, rfl, A0, n0, c0, hv⟩ := hx
    simp only [Eff.go] at hk
    have hok := H.ok i
    split at hk
    · rename_i e t l hi
      rcases hq i with h | h
      case inr => rw [h] at hi; cases hi
      rw [h] at hi
      rw [hi] at hok
      obtain ⟨xs, h1, h2⟩ := hok
      rw [hd_own h1] at hv ⊢
      have hc := fun g hg => World.ownsRow.cells h1 (g := g) hg
      rcases h1.2 with ⟨h3, h4⟩ | ⟨g, cap, cur, h3, _, hh, hle, _⟩
      · exact ⟨t, l, _, none, 0, hk, by rw [h3, h4], by omega, .inl ⟨rfl, List.eq_nil_of_length_eq_zero h4⟩⟩
      · exact ⟨t, l, _, _, cap, hk, h3, hle, .inr ⟨_, xs, rfl, h2, fun q u hq => hc g (by rw [h3]; rfl) q u hq⟩⟩
    · rename_i t l hi
      rcases hq i with h | h
      case inr => rw [h] at hi; cases hi
      rw [h] at hi
      rw [hi] at hok
      obtain ⟨A, c, h1, hle, hr⟩ := hok
      exact ⟨t, l, _, A, c, hk, (hd_slice h1).trans h1, hle, con_cells hr⟩
    · cases hk
  · rename_i i lo
    simp only [Eff.go] at hk
    have hok := H.ok i
    split at hk
    · rename_i e t l hi
      rcases hq i with h | h
      case inr => rw [h] at hi; cases hi
      rw [h] at hi
      rw [hi] at hok
      split at hk
      case h_2 => cases hk
      rename_i hsz
      have hsz := Nat.eq_of_beq_eq_true hsz
      obtain ⟨xs, h1, h2⟩ := hok
      obtain ⟨_, g, n, c1, c', A', e1, hlo, rfl, hA, hc⟩ := hx
      rcases h1.2 with ⟨k1, k2⟩ | ⟨g2, cap, cur, k1, _, hh, _⟩
      · rw [k1] at e1; cases e1
      rw [k1] at e1
      injection e1 with e1 e2 e3
      injection e1 with e1
      injection e1 with e1
      subst e1 e2 e3
      refine ⟨t, l.drop lo, _, some A', c', hk, by rw [List.length_drop], by rw [List.length_drop]; exact hc, .inr ⟨A', xs.drop lo, rfl, Els_drop (fun _ _ hk => by rw [KR_len t hk, hsz]) h2 lo, fun q u hq => ?_⟩⟩
      rw [List.getElem?_drop] at hq
      have hl := World.ownsRow.cells h1 (g := g2) (by rw [k1]; rfl) _ u hq
      have hxl := Els.len (sz := 1) (fun _ _ hk => by rw [KR_len t hk, hsz]) h2
      have hlt := (List.getElem?_eq_some_iff.1 hq).1
      rw [hA (by omega), add_at', ← hl, add_at', Nat.zero_add]
    · rename_i t l hi
      rcases hq i with h | h
      case inr => rw [h] at hi; cases hi
      rw [h] at hi
      rw [hi] at hok
      split at hk
      case h_2 => cases hk
      rename_i hsz
      have hsz := Nat.eq_of_beq_eq_true hsz
      obtain ⟨A, c, h1, hle, hr⟩ := hok
      obtain ⟨A2, c2, q1, q2, q3⟩ := sub_con hsz h1 hr hx
      exact ⟨t, l.drop lo, _, A2, c2, hk, q1, q2, con_cells q3⟩
    · cases hk
  · cases hk

theorem moreE_sound (H : HRel MX w ρ hp) {hp1 : Heap} (hq : ∀ q, hp1 q = hp q ∨ hp1 q = .gone) {t : Ty} {x : AV} {vx : Value} {k : List t.den → Eff AV} (hx : R (Mut MX hp ρ) w ρ hp x vx) (hk : (moreE t x k).go b hp1 rs ws K = some r) :
    ∃ l rs' A c, (k l).go b hp1 rs' ws K = some r ∧ vx = .slice A l.length c ∧ l.length ≤ c ∧ ((A = none ∧ l = []) ∨ ∃ a xs, A = some a ∧ Els (t.KR (Mut MX hp ρ) w) l xs ∧ ∀ (q : Nat) (u : Value), xs[q]? = some u → w.cell? (a.add q) = some u) := by
  unfold moreE at hk
  split at hk
  · exact ⟨[], rs, none, 0, hk, hx, Nat.le_refl _, .inl ⟨rfl, rfl⟩⟩
  · obtain ⟨t', l, rs', A, c, hk, h1, h2, h3⟩ := readSl_sound H hq hx hk
    split at hk
    case h_2 => cases hk
    rename_i h _
    subst h
    exact ⟨l, rs', A, c, hk, h1, h2, h3⟩

theorem run_append_none' {T ty e : TypeId} {i : TypeInfo} {sz n c : Nat} {v : Value} {xs : List Value} (hu : P.underlying T = some (.slice e)) (hi : P.info? e = some i) (hown : w.ownsRow 0 e sz v n xs) :
    (Builtin.append_ #[T, T] ty #[v, .slice none 0 c]).run P w = .ok v w := by
  rcases hown.2 with ⟨rfl, rfl⟩ | ⟨g, cap, cur, rfl, _, _, hnc, _⟩
  · simp [Builtin.append_, run_underlying hu, sizeOf, typeInfo, hi, Builtin.lenOf, Builtin.firstCells]
  · simp [Builtin.append_, run_underlying hu, sizeOf, typeInfo, hi, Builtin.lenOf, Builtin.firstCells, hnc, storeCells]

/-! Words of the kit's print, for what is written in one go. -/
namespace Z
theorem add_plain (g j : Nat) : (⟨g, 0, none⟩ : Addr).add j = ⟨g, j, none⟩ := by unfold Addr.add; split <;> simp_all
theorem blk_frozen {w : World} {g : Nat} {t : TypeId} {cs : Array Value} (h : w.heap[g]? = some (.cells cs t (0, 0))) (i : Nat) : w.frozen? ⟨g, i, none⟩ = false := by simp [World.frozen?, h]
theorem blk_set {w : World} {g : Nat} {t : TypeId} {cs : Array Value} (h : w.heap[g]? = some (.cells cs t (0, 0))) (i : Nat) (u : Value) : (w.setCell ⟨g, i, none⟩ u).heap[g]? = some (.cells (cs.setIfInBounds i u) t (0, 0)) := by
  simp [World.setCell, Array.getElem?_modify, h]
theorem setCells_far {g : Nat} : ∀ (vs : List Value) (o : Nat) {w : World} (k : Nat), k ≠ g → (w.setCells g o vs).heap[k]? = w.heap[k]?
  | [], _, _, _, _ => rfl
  | v :: r, o, w, k, hk => by
    rw [World.setCells, setCells_far r (o + 1) k hk]
    exact Below.heap_setCell w ⟨g, o, none⟩ v k hk
theorem setCells_same (g : Nat) : ∀ (vs : List Value) (o : Nat) (w : World), (w.setCells g o vs).os = w.os ∧ (w.setCells g o vs).tape = w.tape ∧ (w.setCells g o vs).output = w.output ∧ (w.setCells g o vs).heap.size = w.heap.size
  | [], _, _ => ⟨rfl, rfl, rfl, rfl⟩
  | v :: r, o, w => by
    obtain ⟨h1, h2, h3, h4⟩ := setCells_same g r (o + 1) (w.setCell ⟨g, o, none⟩ v)
    rw [World.setCells]
    exact ⟨h1, h2, h3, by rw [h4]; simp [World.setCell]⟩
theorem setCells_row {g : Nat} {e : TypeId} : ∀ (vs : List Value) (o : Nat) (w : World) (cur : Array Value), w.heap[g]? = some (.cells cur e (0, 0)) → o + vs.length ≤ cur.size →
    ∃ cur', (w.setCells g o vs).heap[g]? = some (.cells cur' e (0, 0)) ∧ cur'.size = cur.size ∧ cur'.toList = cur.toList.take o ++ vs ++ cur.toList.drop (o + vs.length)
  | [], o, w, cur, h, _ => ⟨cur, h, rfl, by simp⟩
  | v :: r, o, w, cur, h, hl => by
    have h2 := blk_set h o v
    simp only [List.length_cons] at hl
    obtain ⟨cur', h3, h4, h5⟩ := setCells_row r (o + 1) (w.setCell ⟨g, o, none⟩ v) _ h2 (by simp; omega)
    refine ⟨cur', h3, by rw [h4]; simp, ?_⟩
    rw [h5, Array.toList_setIfInBounds]
    have ho : o < cur.toList.length := by rw [Array.length_toList]; omega
    rw [List.take_set, List.drop_set_of_lt (by omega)]
    simp only [List.length_cons]
    rw [show o + 1 + r.length = o + (r.length + 1) by omega]
    congr 1
    rw [List.take_succ_eq_append_getElem ho, List.set_append_right _ _ (by rw [List.length_take]; omega)]
    have ho' : o < cur.size := by omega
    simp [Nat.min_eq_left (Nat.le_of_lt ho')]
end Z
open Z in
theorem run_append_zeros (w : World) (base : Nat) (t ti ty e : TypeId) (i : TypeInfo) (z : Value) (size bytes : Nat) (ht : P.underlying t = some (.slice e)) {k : IntKind} (hti : P.underlying ti = some (.int k)) (hi : P.info? e = some i) (hz : i.zero = some z)
    (hsize : i.size = size) (hby : i.bytes = bytes) (hzs : z.cells.size = size) (hsz : 0 < size) (hb0 : 0 < bytes)
    (v : Value) (n : Nat) (xs : List Value) (hown : w.ownsRow base e size v n xs) (kx : IntKind) (m : Nat) (h1 : ∀ u ∈ (Builtin.zeroCells z.cells m).toList, u.oneCell' = true)
    (hbytes : (n + m) * bytes ≤ 140737488355328) (hbase : base ≤ w.heap.size) :
    ∃ v' w', (Builtin.append_ #[t, ti] ty #[v, .int kx m]).run P w = .ok v' w' ∧ w'.ownsRow base e size v' (n + m) (xs ++ (Builtin.zeroCells z.cells m).toList) ∧ w.grownBy w' v.ownBlock ∧
      (v'.ownBlock = v.ownBlock ∨ v'.ownBlock = some w.heap.size) := by
  subst hsize
  subst hby
  have hle : n + m ≤ 140737488355328 := Nat.le_trans (Nat.le_mul_of_pos_right _ hb0) hbytes
  have h63 : n + m ≤ maxLen := by simp only [maxLen]; omega
  have hw : IntKind.i64.wrap (m : Int) = m := by rw [IntKind.wrap_i64]; omega
  have hw0 : IntKind.i64.wrap 0 = 0 := by rw [IntKind.wrap_i64]; rfl
  have hneg : ¬ ((m : Int) < 0) := by omega
  have hmb : m * i.bytes ≤ 140737488355328 := Nat.le_trans (Nat.mul_le_mul_right _ (Nat.le_add_left m n)) hbytes
  have hbig : ¬ (281474976710656 < (m : Int) * (i.bytes : Int)) := by
    rw [← Int.natCast_mul]
    omega
  have hsn : i.size ≠ 0 := by omega
  obtain ⟨news, hnews⟩ : ∃ news, news = (Builtin.zeroCells z.cells m).toList := ⟨_, rfl⟩
  rw [← hnews] at h1 ⊢
  have hl : news.length = m * i.size := by rw [hnews, Array.length_toList, size_zeroCells, hzs]
  have hna : Builtin.zeroCells z.cells m = news.toArray := by rw [hnews]
  have hlen : (xs ++ news).length = (n + m) * i.size := by rw [List.length_append, hown.1, hl, Nat.add_mul]
  have hnil : m = 0 → news = [] := fun h => List.eq_nil_of_length_eq_zero (by rw [hl, h, Nat.zero_mul])
  have grown : ∀ (old : Nat), old < n + m → ∀ (row : Option Nat),
      (w.drew.alloc (.cells (xs.toArray ++ news.toArray ++ Builtin.zeroCells z.cells (grownCap w (n + m) old e - (n + m))) e)).ownsRow base e i.size
        (.slice (some ⟨w.heap.size, 0, none⟩) (n + m) (grownCap w (n + m) old e)) (n + m) (xs ++ news) ∧
      w.grownBy (w.drew.alloc (.cells (xs.toArray ++ news.toArray ++ Builtin.zeroCells z.cells (grownCap w (n + m) old e - (n + m))) e)) row := by
    intro old ho row
    have hge := grownCap_ge w (n + m) old e
    have hcm : grownCap w (n + m) old e ≤ maxLen := grownCap_le_maxLen w (n + m) old e h63
    refine ⟨⟨hlen, .inr ⟨w.heap.size, _, _, rfl, hbase, heap_alloc_new w.drew _, hge, hcm, ?_, ?_⟩⟩, ⟨rfl, rfl, rfl, by simp, fun k hk _ => heap_alloc_old w.drew _ hk⟩⟩
    · simp only [Array.size_append, List.size_toArray, size_zeroCells, hzs, hown.1, hl, ← Nat.add_mul]
      congr 1
      omega
    · simp only [Array.toList_append, List.append_assoc]
      rw [← List.append_assoc, ← hlen]
      exact List.take_left
  have runs : ∀ (A : Option Addr) (cap : Nat), cap < n + m → (Builtin.firstCells i.size n (.slice A n cap)).run P w.drew = .ok xs.toArray w.drew → (Builtin.append_ #[t, ti] ty #[.slice A n cap, .int kx m]).run P w =
      .ok (.slice (some ⟨w.heap.size, 0, none⟩) (n + m) (grownCap w (n + m) cap e)) (w.drew.alloc (.cells (xs.toArray ++ news.toArray ++ Builtin.zeroCells z.cells (grownCap w (n + m) cap e - (n + m))) e)) := by
    intro A cap hcap hfo
    have hn : ¬ (n + m ≤ cap) := by omega
    have h63' : ¬ (9223372036854775807 < ((n : Int) + (m : Int))) := by omega
    have hfit := growslice_fits hcap hbytes
    have h48' : ¬ (281474976710656 < Builtin.nextslicecap (n + m) cap * i.bytes) := by omega
    by_cases hm : m = 0
    · have hnl := hnil hm
      subst hm
      rw [hnl]
      simp only [Nat.add_zero] at hn h63' h48' ⊢
      have h63'' : ¬ (9223372036854775807 < (n : Int)) := by omega
      simp [Builtin.append_, run_underlying ht, run_underlying hti, sizeOf, typeInfo, zeroValue, hi, hz, asInt, asIntOf, hw0, hn, h63'', h48', Question.forced, hfo, newRow, grownCap]
    · have hmz : ¬ (m * i.size = 0) := Nat.mul_ne_zero hm hsn
      simp [Builtin.append_, run_underlying ht, run_underlying hti, sizeOf, typeInfo, zeroValue, hi, hz, asInt, asIntOf, hw, hneg, hbig, hn, h63', h48', Question.forced, hfo, newRow, grownCap, hmz, hna]
      congr 2
      apply Array.ext'
      simp [List.append_assoc]
  rcases hown.2 with ⟨rfl, rfl⟩ | ⟨g, cap, cur, rfl, hbg, hg, hnc, hcm, hcs, htake⟩
  · have hx : xs = [] := List.eq_nil_of_length_eq_zero (by simpa using hown.1)
    subst hx
    by_cases hm : m = 0
    · have hnl := hnil hm
      subst hm
      rw [hnl]
      refine ⟨.slice none 0 0, w, ?_, World.ownsRow_nil w base e i.size, ⟨rfl, rfl, rfl, Nat.le_refl _, fun _ _ _ => rfl⟩, Or.inl rfl⟩
      simp [Builtin.append_, run_underlying ht, run_underlying hti, sizeOf, typeInfo, hi, asInt, asIntOf, hw0]
    · have hgr := grown 0 (by omega) (Value.ownBlock (.slice none 0 0))
      exact ⟨_, _, runs none 0 (by omega) (by simp [Builtin.firstCells]), hgr.1, hgr.2, Or.inr rfl⟩
  · by_cases hroom : n + m ≤ cap
    · have hfit : n * i.size + news.length ≤ cur.size := by rw [hl, hcs, ← Nat.add_mul]; exact Nat.mul_le_mul_right _ hroom
      obtain ⟨cur', h3, h4, h5⟩ := setCells_row news (n * i.size) w cur hg hfit
      obtain ⟨s1, s2, s3, s4⟩ := setCells_same g news (n * i.size) w
      have hst := run_storeCells_cells (P := P) g (n * i.size) news 0 w (fun j hj => by rw [cell_of_row w g _ cur e (0, 0) hg]; simp; omega) (fun j _ => blk_frozen hg _) h1
      simp only [Nat.add_zero] at hst
      refine ⟨.slice (some ⟨g, 0, none⟩) (n + m) cap, w.setCells g (n * i.size) news, ?_, ⟨hlen, .inr ⟨g, cap, cur', rfl, hbg, h3, hroom, hcm, by rw [h4, hcs], ?_⟩⟩, ⟨s1, s2, s3, by rw [s4]; exact Nat.le_refl _, fun k _ hk => setCells_far news _ k (fun e => hk (by simp [Value.ownBlock, e]))⟩, Or.inl rfl⟩
      · by_cases hm : m = 0
        · have hnl := hnil hm
          subst hm
          rw [hnl] at hst ⊢
          simp [Builtin.append_, run_underlying ht, run_underlying hti, sizeOf, typeInfo, hi, asInt, asIntOf, hw0, hnc, add_plain, hst]
        · have hmz : ¬ (m * i.size = 0) := Nat.mul_ne_zero hm hsn
          simp [Builtin.append_, run_underlying ht, run_underlying hti, sizeOf, typeInfo, zeroValue, hi, hz, asInt, asIntOf, hw, hneg, hbig, hroom, hmz, hna, add_plain, hst]
      · rw [h5]
        have h6 : cur.toList.take (n * i.size) = xs := htake
        rw [h6, ← hlen]
        exact List.take_left
    · have holds : ∀ j u, xs[j]? = some u → w.cell? ((⟨g, 0, none⟩ : Addr).add j) = some u := hown.cells (g := g) rfl
      have hgr := grown cap (by omega) (Value.ownBlock (.slice (some ⟨g, 0, none⟩) n cap))
      exact ⟨_, _, runs (some ⟨g, 0, none⟩) cap (by omega) (run_firstCells_some (P := P) w.drew i.size n _ n cap xs hown.1 (by simpa using holds)), hgr.1, hgr.2, Or.inr rfl⟩

/-- What an append leaves. -/
theorem putRow_core (H : HRel MX w ρ hp) {hp1 : Heap} (hq : ∀ q, hp1 q = hp q ∨ (hp1 q = .gone ∧ hp q ≠ .unused)) (hqb : ∀ q, hp1 q = .gone → ∀ cs, hp q ≠ .box cs) {T ty e : TypeId} {t : Ty} {by_ : Nat} {l m : List t.den} {v : Value} {xs : List Value}
    (hels : Els (t.KR (Mut MX hp ρ) w) l xs) (hlv : ∀ g, v.ownBlock = some g → Lv hp ρ g ∧ ∀ j, live (hp1 j) → ¬ At (ρ j) g)
    {T2 : TypeId} {vx : Value} (main : l.length + m.length ≤ 140737488355328 / by_ → ∃ v' w' ys, (Builtin.append_ #[T, T2] ty #[v, vx]).run P w = .ok v' w' ∧ Els (t.KR (Mut MX hp ρ) w) m ys ∧ w'.ownsRow 0 e t.sz v' (l.length + m.length) (xs ++ ys) ∧ w.grownBy w' v.ownBlock ∧ (v'.ownBlock = v.ownBlock ∨ ∀ g, v'.ownBlock = some g → w.heap.size ≤ g))
    (hk : (putRow e t by_ l m).go b hp1 rs ws K = some r) :
    ∃ x b' hp' rs' ws' v' w' ρ', K x b' hp' rs' ws' = some r ∧ (Builtin.append_ #[T, T2] ty #[v, vx]).run P w = .ok v' w' ∧ Step MX w ρ hp w' ρ' hp' ∧ R (Mut MX hp' ρ') w' ρ' hp' x v' := by
  unfold putRow at hk
  simp only [Eff.go] at hk
  split at hk
  case isFalse => cases hk
  rename_i hle
  split at hk
  case h_2 => cases hk
  rename_i hu'
  obtain ⟨v', w', ys, hrun, hy, hown', hg, hat_⟩ := main hle
  have hbs : hp b = .unused := by
    rcases hq b with h | ⟨h, _⟩
    · rw [← h]; exact hu'
    · rw [hu'] at h; cases h
  have hsl : ∀ {x : Value} {n : Nat} {zs : List Value} {ww : World}, ww.ownsRow 0 e t.sz x n zs → (∃ A n c, x = .slice A n c) ∧ At x = fun b => x.ownBlock = some b := by
    intro x n zs ww h
    have : ∃ A n c, x = .slice A n c := by
      rcases h.2 with ⟨h2, _⟩ | ⟨g, cap, cur, h2, _⟩
      · exact ⟨_, _, _, h2⟩
      · exact ⟨_, _, _, h2⟩
    exact ⟨this, blk_own this⟩
  have hoff : Off (fun g => v.ownBlock = some g) w w' := Off.grown hg
  have hnew : ∀ g, At v' g → g < w.heap.size → Lv hp ρ g ∧ ∀ j, live (hp1 j) → ¬ At (ρ j) g := by
    intro g hg1 hg2
    rw [(hsl hown').2] at hg1
    rcases hat_ with h | h
    · exact hlv g (by rw [← h]; exact hg1)
    · have := h g hg1; omega
  have hl1 : ∀ j, live (hp1 j) → live (hp j) := by
    intro j hj
    rcases hq j with h | ⟨h, _⟩
    · rwa [h] at hj
    · rw [h] at hj; exact hj.elim
  have lvi : ∀ j g, live (upd hp1 b (.row e t (l ++ m)) j) → At (upd ρ b v' j) g → (j = b ∧ At v' g) ∨ (j ≠ b ∧ live (hp1 j) ∧ At (ρ j) g) := by
    intro j g hl hb'
    by_cases hjb : j = b
    · subst hjb; rw [upd_same] at hb'; exact .inl ⟨rfl, hb'⟩
    · rw [upd_ne _ _ hjb] at hl hb'; exact .inr ⟨hjb, hl, hb'⟩
  have old : ∀ j, hp j ≠ .unused → Old (ρ j) (upd ρ b v' j) ∧ upd hp1 b (.row e t (l ++ m)) j ≠ .unused := by
    intro j hj
    have hne : j ≠ b := fun e => hj (e ▸ hbs)
    rw [upd_ne _ _ hne, upd_ne _ _ hne]
    refine ⟨Old.refl _, ?_⟩
    rcases hq j with h | ⟨h, _⟩
    · rw [h]; exact hj
    · rw [h]; simp
  have nwl : ∀ g, g < w.heap.size → Lv (upd hp1 b (.row e t (l ++ m))) (upd ρ b v') g → Lv hp ρ g := by
    rintro g hlt ⟨j, hl, hbj⟩
    rcases lvi j g hl hbj with ⟨_, h⟩ | ⟨_, h1, h2⟩
    · exact (hnew g h hlt).1
    · exact ⟨j, hl1 j h1, h2⟩
  refine ⟨_, _, _, _, _, v', w', upd ρ b v', hk, hrun, ?_, by rw [upd_same]; simp, by rw [upd_same]; exact (hd_own hown').symm, (hsl hown').1⟩
  refine Step.mk' (D := fun g => v.ownBlock = some g) H hoff (fun g _ h => (hlv g h).1) old nwl ?_ ?_ ?_ (fun j cs hj => ?_)
  case refine_4 =>
    left
    have hjb : j ≠ b := fun e => by rw [e, hbs] at hj; cases hj
    rcases hq j with h | ⟨h, _⟩
    · exact ⟨by rw [upd_ne _ _ hjb, h], fun g hbg hD => (hlv g hD).2 j (by rw [h, hj]; trivial) hbg⟩
    · exact absurd hj (hqb j h cs)
  · intro j
    by_cases hjb : j = b
    · subst hjb
      right
      rw [upd_same]
      refine ⟨xs ++ ys, ?_, ?_⟩
      · rw [upd_same, List.length_append]; exact hown'
      · refine Els.append ?_ ?_
        · exact Els.imp (fun _ _ h => KR_step hoff (fun g _ h => .inr (hlv g h).1) (fun g hg hm => hm.imp id (nwl g hg)) t h) hels
        · exact Els.imp (fun _ _ h => KR_step hoff (fun g _ h => .inr (hlv g h).1) (fun g hg hm => hm.imp id (nwl g hg)) t h) hy
    · rcases hq j with h | ⟨h, _⟩
      · refine .inl ⟨by rw [upd_ne _ _ hjb, h], upd_ne _ _ hjb, fun hl g hbg hD => ?_⟩
        exact (hlv g hD).2 j (by rw [h]; exact hl) hbg
      · right
        rw [upd_ne _ _ hjb, h]
        trivial
  · intro j j' g hl hl' hbj hbj'
    rcases lvi j g hl hbj with ⟨rfl, e1⟩ | ⟨_, hl1', hb1⟩ <;> rcases lvi j' g hl' hbj' with ⟨rfl, e2⟩ | ⟨_, hl2', hb2⟩
    · rfl
    · by_cases hlt : g < w.heap.size
      · exact absurd hb2 ((hnew g e1 hlt).2 j' hl2')
      · exact absurd (H.lt (hl1 j' hl2') hb2) hlt
    · by_cases hlt : g < w.heap.size
      · exact absurd hb1 ((hnew g e2 hlt).2 j hl1')
      · exact absurd (H.lt (hl1 j hl1') hb1) hlt
    · exact H.sep j j' g (hl1 j hl1') (hl1 j' hl2') hb1 hb2
  · intro j g hl hbj hmx
    rcases lvi j g hl hbj with ⟨rfl, e1⟩ | ⟨_, hl1', hb1⟩
    · obtain ⟨j', h1, h2⟩ := (hnew g e1 (H.mx g hmx)).1
      exact H.ext j' g h1 h2 hmx
    · exact H.ext j g (hl1 j hl1') hb1 hmx


theorem putRow_sound (H : HRel MX w ρ hp) {hp1 : Heap} (hq : ∀ q, hp1 q = hp q ∨ (hp1 q = .gone ∧ hp q ≠ .unused)) (hqb : ∀ q, hp1 q = .gone → ∀ cs, hp q ≠ .box cs) {T ty e : TypeId} {t : Ty} {i : TypeInfo} {z : Value} {by_ : Nat} {l m : List t.den} {v : Value} {xs : List Value} {A : Option Addr} {c : Nat}
    (hu : P.underlying T = some (.slice e)) (hi : P.info? e = some i) (hz : i.zero = some z) (hsz : i.size = t.sz) (hby : i.bytes = by_) (hzs : z.cells.size = t.sz) (hby1 : 1 ≤ by_)
    (hown : w.ownsRow 0 e t.sz v l.length xs) (hels : Els (t.KR (Mut MX hp ρ) w) l xs) (hlv : ∀ g, v.ownBlock = some g → Lv hp ρ g ∧ ∀ j, live (hp1 j) → ¬ At (ρ j) g)
    (hm : (A = none ∧ m = []) ∨ ∃ a ys, A = some a ∧ Els (t.KR (Mut MX hp ρ) w) m ys ∧ ∀ (q : Nat) (u : Value), ys[q]? = some u → w.cell? (a.add q) = some u)
    (hk : (putRow e t by_ l m).go b hp1 rs ws K = some r) :
    ∃ x b' hp' rs' ws' v' w' ρ', K x b' hp' rs' ws' = some r ∧ (Builtin.append_ #[T, T] ty #[v, .slice A m.length c]).run P w = .ok v' w' ∧ Step MX w ρ hp w' ρ' hp' ∧ R (Mut MX hp' ρ') w' ρ' hp' x v' := by
  refine putRow_core (T := T) (T2 := T) (vx := .slice A m.length c) H hq hqb hels hlv (fun hle => ?_) hk
  have hbytes : (l.length + m.length) * by_ ≤ 140737488355328 := by
    have := Nat.mul_le_mul_right by_ hle
    exact Nat.le_trans this (Nat.div_mul_le_self _ _)
  have hmax : l.length + m.length ≤ maxLen := by
    have := Nat.le_trans (Nat.le_mul_of_pos_right (l.length + m.length) hby1) hbytes
    unfold maxLen
    omega
  rcases hm with ⟨rfl, rfl⟩ | ⟨a, ys, rfl, hy, hcell⟩
  · exact ⟨v, w, [], run_append_none' hu hi hown, rfl, by simpa using hown, ⟨rfl, rfl, rfl, Nat.le_refl _, fun _ _ _ => rfl⟩, .inl rfl⟩
  · have hyl := Els.len (fun _ _ h => KR_len t h) hy
    obtain ⟨v', w', h1, h2, h3, _, h5⟩ := run_append_own_at (P := P) (w := w) 0 T ty e i z t.sz by_ hu hi hz hsz hby hzs t.sz_pos v l.length xs hown a m.length c ys hyl hcell (Els.one (sz := t.sz) (fun _ _ h => KR_one t h) hy) hmax hbytes (Nat.zero_le _)
    exact ⟨v', w', ys, h1, hy, h2, h3, h5.imp id (fun h g hg => by rw [h] at hg; injection hg with hg; omega)⟩

theorem putZeros_sound (H : HRel MX w ρ hp) {hp1 : Heap} (hq : ∀ q, hp1 q = hp q ∨ (hp1 q = .gone ∧ hp q ≠ .unused)) (hqb : ∀ q, hp1 q = .gone → ∀ cs, hp q ≠ .box cs) {T T2 ty e : TypeId} {t : Ty} {i : TypeInfo} {z : Value} {d : t.den} {by_ : Nat} {l : List t.den} {v : Value} {xs : List Value}
    (hu : P.underlying T = some (.slice e)) {k : IntKind} (hu2 : P.underlying T2 = some (.int k)) (hi : P.info? e = some i) (hz : i.zero = some z) (hsz : i.size = t.sz) (hby : i.bytes = by_) (hzs : z.cells.size = t.sz) (hby1 : 1 ≤ by_) (hd : t.KR (Mut MX hp ρ) w d z.cells.toList)
    (hown : w.ownsRow 0 e t.sz v l.length xs) (hels : Els (t.KR (Mut MX hp ρ) w) l xs) (hlv : ∀ g, v.ownBlock = some g → Lv hp ρ g ∧ ∀ j, live (hp1 j) → ¬ At (ρ j) g)
    {kx : IntKind} {n : Int} (hn : 0 ≤ n)
    (hk : (putRow e t by_ l (List.replicate n.toNat d)).go b hp1 rs ws K = some r) :
    ∃ x b' hp' rs' ws' v' w' ρ', K x b' hp' rs' ws' = some r ∧ (Builtin.append_ #[T, T2] ty #[v, .int kx n]).run P w = .ok v' w' ∧ Step MX w ρ hp w' ρ' hp' ∧ R (Mut MX hp' ρ') w' ρ' hp' x v' := by
  refine putRow_core (T := T) (T2 := T2) (vx := .int kx n) H hq hqb hels hlv (fun hle => ?_) hk
  rw [List.length_replicate] at hle
  have hbytes : (l.length + n.toNat) * by_ ≤ 140737488355328 := by
    have := Nat.mul_le_mul_right by_ hle
    exact Nat.le_trans this (Nat.div_mul_le_self _ _)
  have hels2 : Els (t.KR (Mut MX hp ρ) w) (List.replicate n.toNat d) (Builtin.zeroCells z.cells n.toNat).toList := by
    have h := madeCells_repl z.cells (by rw [hzs]; exact t.sz_pos) n.toNat
    rw [show Builtin.zeroCells z.cells n.toNat = madeCells z.cells (n.toNat * z.cells.size) by unfold Builtin.zeroCells madeCells; rfl, h]
    exact Els_replicate hd n.toNat
  have hnn : (n.toNat : Int) = n := by omega
  obtain ⟨v', w', h1, h2, h3, h4⟩ := run_append_zeros (P := P) w 0 T T2 ty e i z t.sz by_ hu hu2 hi hz hsz hby hzs t.sz_pos hby1 v l.length xs hown kx n.toNat (Els.one (sz := t.sz) (fun _ _ h => KR_one t h) hels2) hbytes (Nat.zero_le _)
  rw [hnn] at h1
  rw [List.length_replicate]
  exact ⟨v', w', _, h1, hels2, h2, h3, h4.imp id (fun h g hg => by rw [h] at hg; injection hg with hg; omega)⟩

/-- A string appended to bytes of one's own. -/
theorem run_append_str (t u ty e : TypeId) (i : TypeInfo) (ht : P.underlying t = some (.slice e)) (hu : P.underlying u = some .string) (hi : P.info? e = some i) (hz : i.zero = some (.int .u8 0)) (hsize : i.size = 1) (hby : i.bytes = 1)
    (v : Value) (n : Nat) (xs : List Value) (hown : w.ownsRow 0 e 1 v n xs) (s : ByteArray) (hbytes : n + s.size ≤ 140737488355328) :
    ∃ v' w', (Builtin.append_ #[t, u] ty #[v, .string s]).run P w = .ok v' w' ∧ w'.ownsRow 0 e 1 v' (n + s.size) (xs ++ Lib.strCells s) ∧ w.grownBy w' v.ownBlock ∧ (v'.ownBlock = v.ownBlock ∨ ∀ g, v'.ownBlock = some g → w.heap.size ≤ g) := by
  have h63 : n + s.size ≤ maxLen := by simp only [maxLen]; omega
  rcases hown.2 with ⟨rfl, rfl⟩ | ⟨g, cap, cur, rfl, hbg, hg, hnc, hcm, hcs, htake⟩
  · obtain ⟨v', w', h1, h2, h3, h4⟩ := Lib.run_append_own_string (P := P) w w.heap.size t u ty e i ht hu hi hz hsize hby (.slice none 0 0) 0 xs ⟨hown.1, .inl ⟨rfl, rfl⟩⟩ s h63 hbytes (Nat.le_refl _)
    refine ⟨v', w', h1, ⟨h2.1, h2.2.imp id fun ⟨g, cap, cur, a, _, c⟩ => ⟨g, cap, cur, a, Nat.zero_le _, c⟩⟩, h3, .inr fun g hg => (h2.lt g hg).1⟩
  · have hxl : xs.length = n := by simpa using hown.1
    have hlen : (xs ++ Lib.strCells s).length = (n + s.size) * 1 := by rw [List.length_append, hxl, Lib.strCells_length, Nat.mul_one]
    by_cases hroom : n + s.size ≤ cap
    · have hcs' : cur.size = cap := by simpa using hcs
      have hr := Lib.run_append_room_stringF (P := P) w t u ty e i ht hu hi hsize g n cap cur (0, 0) hg (Nat.zero_le _) s hroom (by omega)
      refine ⟨_, _, hr, ⟨hlen, .inr ⟨g, cap, _, rfl, hbg, setRow_heap w g cur _ e _ hg, hroom, hcm, ?_, ?_⟩⟩, ⟨rfl, rfl, rfl, by simp, fun k _ hk => setRow_other w g k _ (fun e => hk (by simp [Value.ownBlock, e]))⟩, .inl rfl⟩
      · simp only [List.size_toArray, List.length_append, List.length_take, List.length_drop, Array.length_toList, Lib.strCells_length]
        omega
      · have ht' : cur.toList.take n = xs := by simpa using htake
        rw [ht', ← hlen]
        exact List.take_left
    · have holds : ∀ j u, xs[j]? = some u → w.cell? ((⟨g, 0, none⟩ : Addr).add j) = some u := hown.cells (g := g) rfl
      have hr := Lib.run_append_grow_string (P := P) w t u ty e i (.int .u8 0) ht hu hi hz ⟨g, 0, none⟩ n cap xs (by rw [hsize]; simpa using hxl) holds s (by omega) (by omega) (by rw [hby]; exact growslice_fits (by omega) (by omega))
      have hge := grownCap_ge w (n + s.size) cap e
      have hcm2 : grownCap w (n + s.size) cap e ≤ maxLen := grownCap_le_maxLen w (n + s.size) cap e h63
      refine ⟨_, _, hr, ⟨hlen, .inr ⟨w.heap.size, _, _, rfl, Nat.zero_le _, heap_alloc_new w.drew _, hge, hcm2, ?_, ?_⟩⟩, ⟨rfl, rfl, rfl, by simp, fun k hk _ => by first | exact heap_alloc_old w.drew _ k hk | exact heap_alloc_old w.drew _ hk⟩, .inr fun g hg => ?_⟩
      · have hz1 : (Value.int IntKind.u8 0).cells.size = 1 := rfl
        simp only [Array.size_append, List.size_toArray, size_zeroCells, hz1, hxl, Lib.strCells_length]
        omega
      · simp only [Array.toList_append, List.append_assoc]
        rw [← List.append_assoc, ← hlen]
        exact List.take_left
      · simp only [Value.ownBlock] at hg
        injection hg with hg
        omega

theorem strCells_els {M : Nat → Prop} (s : ByteArray) : Els (Ty.KR M w (.int .u8)) (numsOf s) (Lib.strCells s) := by
  have key : ∀ l : List UInt8, Els (Ty.KR M w (.int .u8)) (l.map fun b => (b.toNat : Int)) (l.map fun b => Value.int .u8 (b.toNat : Int)) := by
    intro l
    induction l with
    | nil => rfl
    | cons x l ih => exact ⟨[.int .u8 (x.toNat : Int)], _, rfl, rfl, ih⟩
  have h := key s.data.toList
  unfold numsOf
  have e : Lib.strCells s = s.data.toList.map fun b => Value.int .u8 (b.toNat : Int) := by
    simp [Lib.strCells]
  rw [e]
  exact h

theorem putStr_sound (H : HRel MX w ρ hp) {hp1 : Heap} (hq : ∀ q, hp1 q = hp q ∨ (hp1 q = .gone ∧ hp q ≠ .unused)) (hqb : ∀ q, hp1 q = .gone → ∀ cs, hp q ≠ .box cs) {T T2 ty e : TypeId} {i : TypeInfo} {l : List Int} {v : Value} {xs : List Value} {s : ByteArray}
    (hu : P.underlying T = some (.slice e)) (hu2 : P.underlying T2 = some .string) (hi : P.info? e = some i) (hz : i.zero = some (.int .u8 0)) (hsz : i.size = 1) (hby : i.bytes = 1)
    (hown : w.ownsRow 0 e 1 v l.length xs) (hels : Els (Ty.KR (Mut MX hp ρ) w (.int .u8)) l xs) (hlv : ∀ g, v.ownBlock = some g → Lv hp ρ g ∧ ∀ j, live (hp1 j) → ¬ At (ρ j) g)
    (hk : (putRow e (.int .u8) 1 l (numsOf s)).go b hp1 rs ws K = some r) :
    ∃ x b' hp' rs' ws' v' w' ρ', K x b' hp' rs' ws' = some r ∧ (Builtin.append_ #[T, T2] ty #[v, .string s]).run P w = .ok v' w' ∧ Step MX w ρ hp w' ρ' hp' ∧ R (Mut MX hp' ρ') w' ρ' hp' x v' := by
  refine putRow_core (t := .int .u8) (T := T) (T2 := T2) (vx := .string s) H hq hqb hels hlv (fun hle => ?_) hk
  have hl := numsOf_length s
  rw [Nat.div_one] at hle
  have hle : l.length + (numsOf s).length ≤ 140737488355328 := hle
  obtain ⟨v', w', h1, h2, h3, h4⟩ := run_append_str (P := P) (w := w) T T2 ty e i hu hu2 hi hz hsz hby v l.length xs hown s (by omega)
  refine ⟨v', w', _, h1, strCells_els s, ?_, h3, h4⟩
  have e1 : l.length + (numsOf s).length = l.length + s.size := by omega
  show w'.ownsRow 0 e 1 v' (l.length + (numsOf s).length) _
  rw [e1]
  exact h2

end
theorem els_byte {M : Nat → Prop} {w : World} : {l : List Int} → {xs : List Value} → Els (Ty.KR M w (.int .u8)) l xs → xs = l.map (Value.int .u8)
  | [], _, h => h
  | x :: l, _, ⟨c, r, e, hc, hr⟩ => by
    have hc : c = [.int .u8 x] := hc
    rw [e, hc, els_byte hr]
    rfl
theorem BRow.put {w : World} {g c : Nat} {l : List Int} (h : BRow w g l c) (m : List Int) (hm : l.length + m.length ≤ c) : BRow (w.setCells g l.length (m.map (Value.int .u8))) g (l ++ m) c := by
  obtain ⟨extra, e, fr, hc, hf, hh⟩ := h
  have key : ∀ (ys : List Value) (o : Nat) (W : World) (cur : Array Value), W.heap[g]? = some (.cells cur e fr) → o + ys.length ≤ cur.size → (W.setCells g o ys).heap[g]? = some (.cells (cur.toList.take o ++ ys ++ cur.toList.drop (o + ys.length)).toArray e fr) := by
    intro ys
    induction ys with
    | nil =>
      intro o W cur h _
      show W.heap[g]? = _
      rw [h]
      simp
    | cons y r ih =>
      intro o W cur h hl
      simp only [List.length_cons] at hl
      have h2 : (W.setCell ⟨g, o, none⟩ y).heap[g]? = some (.cells (cur.setIfInBounds o y) e fr) := by
        have hlt : g < W.heap.size := (Array.getElem?_eq_some_iff.1 h).1
        have hv : W.heap[g] = _ := (Array.getElem?_eq_some_iff.1 h).2
        simp only [World.setCell]
        rw [Array.getElem?_eq_getElem (by simpa using hlt), Array.getElem_modify]
        simp [hv]
      rw [World.setCells, ih (o + 1) _ _ h2 (by simp; omega)]
      congr 2
      apply Array.ext'
      have ho : o < cur.toList.length := by rw [Array.length_toList]; omega
      simp only [Array.toList_setIfInBounds, List.length_cons]
      rw [List.take_set, List.drop_set_of_lt (by omega), List.take_succ_eq_append_getElem ho, List.set_append_right _ _ (by rw [List.length_take]; omega), show o + 1 + r.length = o + (r.length + 1) by omega]
      have ho' : o < cur.size := by omega
      simp [Nat.min_eq_left (Nat.le_of_lt ho')]
  have hsz : (l.map (Value.int .u8) ++ extra).toArray.size = c := by simp; omega
  refine ⟨extra.drop m.length, e, fr, by simp; omega, hf, ?_⟩
  rw [key (m.map (Value.int .u8)) l.length w _ hh (by rw [hsz]; simpa using hm)]
  congr 2
  simp only [List.map_append, List.length_map, List.append_assoc]
  have e1 : (l.map (Value.int .u8) ++ extra).take l.length = l.map (Value.int .u8) := List.take_left' (by simp)
  have e2 : (l.map (Value.int .u8) ++ extra).drop (l.length + m.length) = extra.drop m.length := by
    rw [List.drop_append, List.drop_eq_nil_of_le (by simp), List.nil_append]
    congr 1
    simp
  rw [e1, e2]
section
variable {P : Program} {w : World}
set_option maxHeartbeats 1000000 in
/-- append of cells that are read once. -/
theorem run_append_bts (t u ty e : TypeId) (i : TypeInfo) (d : TypeDesc) (ht : P.underlying t = some (.slice e)) (hu : P.underlying u = some d) (hd : d = .string ∨ ∃ q, d = .slice q) (hi : P.info? e = some i) (hz : i.zero = some (.int .u8 0)) (hsize : i.size = 1) (hby : i.bytes = 1)
    {g c : Nat} {l m : List Int} (h : BRow w g l c) (hlc : l.length ≤ c) (x : Value) (hx : (Builtin.lenOf x).run P w = .ok m.length w) (hf : ∀ W, (∀ a, W.cell? a = w.cell? a) → (Builtin.firstCells 1 m.length x).run P W = .ok (m.map (Value.int .u8)).toArray W) (hbytes : l.length + m.length ≤ 140737488355328) :
    ∃ g' c' w', (Builtin.append_ #[t, u] ty #[.slice (some ⟨g, 0, none⟩) l.length c, x]).run P w = .ok (.slice (some ⟨g', 0, none⟩) (l.length + m.length) c') w' ∧ l.length + m.length ≤ c' ∧ BRow w' g' (l ++ m) c' ∧ w.grownBy w' (some g) ∧ (g' = g ∨ g' = w.heap.size) := by
  have hl := run_loadCells_list (P := P)
  by_cases hroom : l.length + m.length ≤ c
  · have hst := run_storeCells_cells (P := P) g l.length (m.map (Value.int .u8)) 0 w (fun j hj => by
        obtain ⟨extra, e0, fr, hc, hfr, hh⟩ := h
        simp only [List.length_map] at hj
        simp only [World.cell?, hh]
        rw [Array.getElem?_eq_getElem (by simp; omega)]
        rfl) (fun j hj => h.frozen' (by simp only [List.length_map] at hj; omega)) (fun v hv => by
        obtain ⟨y, _, rfl⟩ := List.mem_map.1 hv
        rfl)
    obtain ⟨s1, s2, s3, s4⟩ := Z.setCells_same g (m.map (Value.int .u8)) l.length w
    refine ⟨g, c, w.setCells g l.length (m.map (Value.int .u8)), ?_, hroom, h.put m hroom, ⟨s1, s2, s3, by rw [s4]; exact Nat.le_refl _, fun k _ hk => Z.setCells_far _ _ k (fun e => hk (by rw [e]))⟩, .inl rfl⟩
    have ha : (⟨g, 0, none⟩ : Addr).add l.length = ⟨g, l.length, none⟩ := Z.add_plain g _
    simp only [Nat.add_zero] at hst
    rcases hd with rfl | ⟨q, rfl⟩
    all_goals simp [Builtin.append_, run_underlying ht, run_underlying hu, sizeOf, typeInfo, hi, hsize, hx, hroom, hf w (fun _ => rfl), ha, hst]
  · have hfit := growslice_fits (old := c) (need := l.length + m.length) (bytes := 1) (by omega) (by omega)
    have h48 : ¬ (281474976710656 < Builtin.nextslicecap (l.length + m.length) c) := by omega
    have hfo := run_firstCells_some (P := P) w.drew 1 l.length ⟨g, 0, none⟩ l.length c (l.map (Value.int .u8)) (by simp) (fun j v hj => by
      rw [Z.add_plain]
      rw [List.getElem?_map] at hj
      cases hq : l[j]? with
      | none => rw [hq] at hj; cases hj
      | some y =>
        rw [hq] at hj
        have hjl := (List.getElem?_eq_some_iff.1 hq).1
        have := h.cell hjl
        rw [List.getD_eq_getElem?_getD, hq] at this
        rw [← hj]
        exact this)
    have hfx := hf w.drew (fun _ => rfl)
    have hge := grownCap_ge w (l.length + m.length) c e
    refine ⟨w.heap.size, grownCap w (l.length + m.length) c e, w.drew.alloc (.cells ((l.map (Value.int .u8)).toArray ++ (m.map (Value.int .u8)).toArray ++ Builtin.zeroCells (Value.int .u8 0).cells (grownCap w (l.length + m.length) c e - (l.length + m.length))) e), ?_, hge, ⟨(Builtin.zeroCells (Value.int .u8 0).cells (grownCap w (l.length + m.length) c e - (l.length + m.length))).toList, e, (0, 0), ?_, .inl rfl, ?_⟩, ⟨rfl, rfl, rfl, by simp, fun k hk _ => heap_alloc_old w.drew _ hk⟩, .inr rfl⟩
    · rcases hd with rfl | ⟨q, rfl⟩
      all_goals
        simp [Builtin.append_, run_underlying ht, run_underlying hu, sizeOf, typeInfo, zeroValue, hi, hz, hsize, hby, hx, hroom, h48, Question.forced, hfo, hfx, newRow, grownCap]
        congr 2
        apply Array.ext'
        simp
    · have hz1 : (Value.int IntKind.u8 0).cells.size = 1 := rfl
      simp [size_zeroCells, hz1]
      omega
    · refine (heap_alloc_new w.drew _).trans ?_
      congr 2
      apply Array.ext'
      simp
end
section
variable {P : Program} {MX : Nat → Prop} {w : World} {ρ : Nat → Value} {hp : Heap} {X : Type} {b : Nat} {rs ws : List Nat} {K : AV → Nat → Heap → List Nat → List Nat → Option X} {r : X}
theorem putBts_core (H : HRel MX w ρ hp) {q : Nat} {l m : List Int} (hq0 : hp q = .bts l) {T T2 ty : TypeId} {vx : Value}
    (main : ∀ g c, ρ q = .slice (some ⟨g, 0, none⟩) l.length c → l.length ≤ c → BRow w g l c → l.length + m.length ≤ 140737488355328 → ∃ g' c' w', (Builtin.append_ #[T, T2] ty #[.slice (some ⟨g, 0, none⟩) l.length c, vx]).run P w = .ok (.slice (some ⟨g', 0, none⟩) (l.length + m.length) c') w' ∧ l.length + m.length ≤ c' ∧ BRow w' g' (l ++ m) c' ∧ w.grownBy w' (some g) ∧ (g' = g ∨ g' = w.heap.size))
    (hk : (putBts l m).go b (upd hp q .gone) rs ws K = some r) :
    ∃ x b' hp' rs' ws' v' w' ρ', K x b' hp' rs' ws' = some r ∧ (Builtin.append_ #[T, T2] ty #[ρ q, vx]).run P w = .ok v' w' ∧ Step MX w ρ hp w' ρ' hp' ∧ R (Mut MX hp' ρ') w' ρ' hp' x v' := by
  unfold putBts at hk
  simp only [Eff.go] at hk
  split at hk
  case isFalse => cases hk
  rename_i hle
  split at hk
  case h_2 => cases hk
  rename_i hu'
  have hok := H.ok q
  rw [hq0] at hok
  obtain ⟨g, c, h1, h2, h3⟩ := hok
  obtain ⟨g', c', w', hrun, hc', hrow, hg, hat_⟩ := main g c h1 h2 h3 hle
  have hqb : q ≠ b := by
    intro e
    subst e
    rw [upd_same] at hu'
    cases hu'
  have hbs : hp b = .unused := by rw [upd_ne _ _ (Ne.symm hqb)] at hu'; exact hu'
  have hoff : Off (fun x => some g = some x) w w' := Off.grown hg
  have blkq : At (ρ q) = fun b => (some g : Option Nat) = some b := by rw [h1]; rfl
  have hlq : live (hp q) := by rw [hq0]; trivial
  have hlv : Lv hp ρ g := ⟨q, hlq, by rw [blkq]⟩
  have hsep : ∀ j, live (upd hp q .gone j) → ¬ At (ρ j) g := by
    intro j hj hbj
    by_cases hjq : j = q
    · subst hjq; rw [upd_same] at hj; exact hj
    · rw [upd_ne _ _ hjq] at hj
      exact hjq (H.sep j q g hj hlq hbj (by rw [blkq]))
  have hl1 : ∀ j, live (upd hp q .gone j) → live (hp j) := by
    intro j hj
    by_cases hjq : j = q
    · subst hjq; exact hlq
    · rwa [upd_ne _ _ hjq] at hj
  have lvi : ∀ j x, live (upd (upd hp q .gone) b (.bts (l ++ m)) j) → At (upd ρ b (.slice (some ⟨g', 0, none⟩) (l.length + m.length) c') j) x → (j = b ∧ x = g') ∨ (j ≠ b ∧ live (upd hp q .gone j) ∧ At (ρ j) x) := by
    intro j x hl hb'
    by_cases hjb : j = b
    · subst hjb
      rw [upd_same] at hb'
      injection hb' with hb'
      exact .inl ⟨rfl, hb'.symm⟩
    · rw [upd_ne _ _ hjb] at hl hb'
      exact .inr ⟨hjb, hl, hb'⟩
  have old : ∀ j, hp j ≠ .unused → Old (ρ j) (upd ρ b (.slice (some ⟨g', 0, none⟩) (l.length + m.length) c') j) ∧ upd (upd hp q .gone) b (.bts (l ++ m)) j ≠ .unused := by
    intro j hj
    have hne : j ≠ b := fun e => hj (e ▸ hbs)
    rw [upd_ne _ _ hne, upd_ne _ _ hne]
    refine ⟨Old.refl _, ?_⟩
    by_cases hjq : j = q
    · subst hjq; rw [upd_same]; simp
    · rw [upd_ne _ _ hjq]; exact hj
  have nwl : ∀ x, x < w.heap.size → Lv (upd (upd hp q .gone) b (.bts (l ++ m))) (upd ρ b (.slice (some ⟨g', 0, none⟩) (l.length + m.length) c')) x → Lv hp ρ x := by
    rintro x hlt ⟨j, hl, hbj⟩
    rcases lvi j x hl hbj with ⟨_, rfl⟩ | ⟨_, k1, k2⟩
    · rcases hat_ with e | e
      · rw [e]; exact hlv
      · omega
    · exact ⟨j, hl1 j k1, k2⟩
  refine ⟨_, _, _, _, _, _, w', upd ρ b (.slice (some ⟨g', 0, none⟩) (l.length + m.length) c'), hk, by rw [h1]; exact hrun, ?_, by rw [upd_same]; simp, by rw [upd_same]; rfl, ⟨_, _, _, rfl⟩⟩
  refine Step.mk' (D := fun x => some g = some x) H hoff (fun x _ h => by injection h with h; rw [← h]; exact hlv) old nwl ?_ ?_ ?_ (fun j cs hj => ?_)
  case refine_4 =>
    left
    have hjb : j ≠ b := fun e => by rw [e, hbs] at hj; cases hj
    have hjq : j ≠ q := fun e => by rw [e, hq0] at hj; cases hj
    refine ⟨by rw [upd_ne _ _ hjb, upd_ne _ _ hjq], fun x hbx hD => ?_⟩
    injection hD with hD
    exact hsep j (by rw [upd_ne _ _ hjq, hj]; trivial) (by rw [hD]; exact hbx)
  · intro j
    by_cases hjb : j = b
    · subst hjb
      right
      rw [upd_same]
      refine ⟨g', c', ?_, ?_, hrow⟩
      · rw [upd_same, List.length_append]
      · rw [List.length_append]; exact hc'
    · by_cases hjq : j = q
      · right
        rw [upd_ne _ _ hjb, hjq, upd_same]
        trivial
      · refine .inl ⟨by rw [upd_ne _ _ hjb, upd_ne _ _ hjq], upd_ne _ _ hjb, fun hl x hbx hD => ?_⟩
        injection hD with hD
        exact hsep j (by rw [upd_ne _ _ hjq]; exact hl) (by rw [hD]; exact hbx)
  · intro j j' x hl hl' hbj hbj'
    rcases lvi j x hl hbj with ⟨rfl, e1⟩ | ⟨_, k1, k2⟩ <;> rcases lvi j' x hl' hbj' with ⟨rfl, e2⟩ | ⟨_, k3, k4⟩
    · rfl
    · exfalso
      rcases hat_ with e | e
      · exact hsep j' k3 (by rw [← e, ← e1]; exact k4)
      · have := H.lt (hl1 j' k3) k4; omega
    · exfalso
      rcases hat_ with e | e
      · exact hsep j k1 (by rw [← e, ← e2]; exact k2)
      · have := H.lt (hl1 j k1) k2; omega
    · exact H.sep j j' x (hl1 j k1) (hl1 j' k3) k2 k4
  · intro j x hl hbj hmx
    rcases lvi j x hl hbj with ⟨rfl, e1⟩ | ⟨_, k1, k2⟩
    · rcases hat_ with e | e
      · exact H.ext q x hlq (by rw [blkq, e1, e]) hmx
      · have := H.mx x hmx; omega
    · exact H.ext j x (hl1 j k1) k2 hmx
end
theorem first_str {P : Program} (s : ByteArray) (W : World) : (Builtin.firstCells 1 (numsOf s).length (.string s)).run P W = .ok ((numsOf s).map (Value.int .u8)).toArray W := by
  have hl : (List.map (fun b : UInt8 => Value.int .u8 b.toNat) s.data.toList).length = s.size := by simp
  have hm : (numsOf s).map (Value.int .u8) = List.map (fun b : UInt8 => Value.int .u8 b.toNat) s.data.toList := by
    rw [numsOf, List.map_map]
    rfl
  rw [hm, numsOf_length]
  simp [Builtin.firstCells]
  apply Array.ext'
  simp
section
variable {Rt : Type} {P : Program} {MX : Nat → Prop} {w : World} {ρ : Nat → Value} {hp : Heap} {b : Nat} {rs ws : List Nat} {K : AV → Nat → Heap → List Nat → List Nat → Option Rt} {r : Rt}
theorem appendZE_sound (H : HRel MX w ρ hp) {T T2 ty e : TypeId} (hu : P.underlying T = some (.slice e)) {s x : AV} {vs vx : Value} (hs : R (Mut MX hp ρ) w ρ hp s vs) (hx : R (Mut MX hp ρ) w ρ hp x vx) (hk : (appendZE P T2 e s x).go b hp rs ws K = some r) :
    ∃ x b' hp' rs' ws' v' w' ρ', K x b' hp' rs' ws' = some r ∧ (Builtin.append_ #[T, T2] ty #[vs, vx]).run P w = .ok v' w' ∧ Step MX w ρ hp w' ρ' hp' ∧ R (Mut MX hp' ρ') w' ρ' hp' x v' := by
  unfold appendZE at hk
  split at hk
  case h_3 => cases hk
  case h_2 =>
    rename_i x hu2
    rw [show vx = _ from hx]
    split at hk
    case h_2 => cases hk
    rename_i hsz hz hby
    obtain ⟨i, hi, hz'⟩ : ∃ i, P.info? e = some i ∧ i.zero = some (.int .u8 0) := by
      cases hi : P.info? e with
      | none => rw [hi] at hz; cases hz
      | some i => rw [hi] at hz; exact ⟨i, rfl, hz⟩
    have hsi : i.size = 1 := by simpa [sizeAt, hi] using hsz
    have hbi : i.bytes = 1 := by simpa [hi] using hby
    split at hk
    · rw [show vs = _ from hs]
      exact putStr_sound (l := []) H (fun q => .inl rfl) (fun q h cs => by rw [h]; simp) hu hu2 hi hz' hsi hbi (World.ownsRow_nil w 0 e 1) rfl (fun g hg => by simp [Value.ownBlock] at hg) hk
    · rename_i q
      obtain ⟨hne, rfl, A0, n0, c0, hv⟩ := hs
      simp only [Eff.go] at hk
      have hok := H.ok q
      split at hk
      case h_3 => cases hk
      case h_2 =>
        rename_i l hq
        simp only [Eff.go] at hk
        rw [hq] at hok
        obtain ⟨gq, cq, eq_, _⟩ := hok
        rw [hd_slice eq_] at hv ⊢
        refine putBts_core H hq (fun g c q1 q2 q3 q4 => run_append_bts T T2 ty e i .string hu hu2 (.inl rfl) hi hz' hsi hbi q3 q2 (.string x) ?_ (fun W _ => first_str x W) q4) hk
        rw [numsOf_length]
        simp [Builtin.lenOf]
      rename_i e' l hq
      split at hk
      case h_2 => cases hk
      rename_i he
      have he := Nat.eq_of_beq_eq_true he
      subst he
      rw [hq] at hok
      obtain ⟨xs, g1, g2⟩ := hok
      rw [hd_own g1] at hv ⊢
      simp only [Eff.go] at hk
      have hqq : ∀ j, upd hp q .gone j = hp j ∨ (upd hp q .gone j = .gone ∧ hp j ≠ .unused) := by
        intro j
        by_cases hj : j = q
        · subst hj; exact .inr ⟨upd_same _ _ _, by rw [hq]; simp⟩
        · exact .inl (upd_ne _ _ hj)
      have hqb : ∀ j, upd hp q .gone j = .gone → ∀ cs, hp j ≠ .box cs := by
        intro j h cs hj
        by_cases hjq : j = q
        · subst hjq; rw [hq] at hj; cases hj
        · rw [upd_ne _ _ hjq, hj] at h; cases h
      refine putStr_sound H hqq hqb hu hu2 hi hz' hsi hbi g1 g2 (fun g hg => ?_) hk
      have hbg : At (ρ q) g := by rw [blk_own ⟨A0, n0, c0, hv⟩]; exact hg
      refine ⟨⟨q, by rw [hq]; trivial, hbg⟩, fun j hj hbj => ?_⟩
      by_cases hjq : j = q
      · subst hjq; rw [upd_same] at hj; exact hj
      · rw [upd_ne _ _ hjq] at hj
        exact hjq (H.sep j q g hj (by rw [hq]; trivial) hbj hbg)
    · cases hk
  rename_i k kx n hu2
  rw [show vx = _ from hx]
  split at hk
  case h_2 => cases hk
  rename_i t sz z by_ ht hsz hz hby
  split at hk
  case h_2 => cases hk
  rename_i d h1 h2 h3 h4 h5
  have h1 := Nat.eq_of_beq_eq_true h1
  have h3 := Nat.le_of_ble_eq_true h3
  have h4 := Nat.eq_of_beq_eq_true h4
  subst h1
  obtain ⟨i, z', hi, hz', hr⟩ := zeroCellsAt_some hz
  have hzl : z'.cells.size = t.sz := by
    have := Rs_len (hr (fun _ => False) w ρ hp)
    simp at this; omega
  have hsi : i.size = t.sz := by simpa [sizeAt, hi] using hsz
  have hbi : i.bytes = by_ := by simpa [hi] using hby
  have hkz := dec_sound (M := Mut MX hp ρ) (w := w) (ρ := ρ) (hp := hp) t h5 (hr _ _ _ _)
  simp only [Eff.go] at hk
  split at hk
  case isFalse => cases hk
  rename_i hn
  split at hk
  · rw [show vs = _ from hs]
    exact putZeros_sound (l := []) H (fun q => .inl rfl) (fun q h cs => by rw [h]; simp) hu hu2 hi hz' hsi hbi hzl h3 hkz (World.ownsRow_nil w 0 e t.sz) rfl (fun g hg => by simp [Value.ownBlock] at hg) hn hk
  · rename_i q
    obtain ⟨hne, rfl, A0, n0, c0, hv⟩ := hs
    simp only [Eff.go] at hk
    have hok := H.ok q
    split at hk
    case h_2 => cases hk
    rename_i e' t' l hq
    split at hk
    case h_2 => cases hk
    rename_i h he _
    have he := Nat.eq_of_beq_eq_true he
    subst he h
    rw [hq] at hok
    obtain ⟨xs, g1, g2⟩ := hok
    rw [hd_own g1] at hv ⊢
    simp only [Eff.go] at hk
    have hqq : ∀ j, upd hp q .gone j = hp j ∨ (upd hp q .gone j = .gone ∧ hp j ≠ .unused) := by
      intro j
      by_cases hj : j = q
      · subst hj; exact .inr ⟨upd_same _ _ _, by rw [hq]; simp⟩
      · exact .inl (upd_ne _ _ hj)
    have hqb : ∀ j, upd hp q .gone j = .gone → ∀ cs, hp j ≠ .box cs := by
      intro j h cs hj
      by_cases hjq : j = q
      · subst hjq; rw [hq] at hj; cases hj
      · rw [upd_ne _ _ hjq, hj] at h; cases h
    refine putZeros_sound H hqq hqb hu hu2 hi hz' hsi hbi hzl h3 hkz g1 g2 (fun g hg => ?_) hn hk
    have hbg : At (ρ q) g := by rw [blk_own ⟨A0, n0, c0, hv⟩]; exact hg
    refine ⟨⟨q, by rw [hq]; trivial, hbg⟩, fun j hj hbj => ?_⟩
    by_cases hjq : j = q
    · subst hjq; rw [upd_same] at hj; exact hj
    · rw [upd_ne _ _ hjq] at hj
      exact hjq (H.sep j q g hj (by rw [hq]; trivial) hbj hbg)
  · cases hk

theorem appendE_sound (H : HRel MX w ρ hp) {T T2 ty : TypeId} {s x : AV} {vs vx : Value} (hs : R (Mut MX hp ρ) w ρ hp s vs) (hx : R (Mut MX hp ρ) w ρ hp x vx) (hk : (appendE P T T2 s x).go b hp rs ws K = some r) :
    ∃ x b' hp' rs' ws' v' w' ρ', K x b' hp' rs' ws' = some r ∧ (Builtin.append_ #[T, T2] ty #[vs, vx]).run P w = .ok v' w' ∧ Step MX w ρ hp w' ρ' hp' ∧ R (Mut MX hp' ρ') w' ρ' hp' x v' := by
  unfold appendE at hk
  split at hk
  case h_3 => cases hk
  case h_2 => exact appendZE_sound H ‹_› hs hx hk
  rename_i e hT hu
  have hT := Nat.eq_of_beq_eq_true hT
  subst hT
  split at hk
  case h_2 => cases hk
  rename_i t sz z by_ ht hsz hz hby
  split at hk
  case h_2 => cases hk
  rename_i h1 h2 h3 h4
  have h1 := Nat.eq_of_beq_eq_true h1
  have h3 := Nat.le_of_ble_eq_true h3
  have h4 := Nat.eq_of_beq_eq_true h4
  subst h1
  obtain ⟨i, z', hi, hz', hr⟩ := zeroCellsAt_some hz
  have hzl : z'.cells.size = t.sz := by
    have := Rs_len (hr (fun _ => False) w ρ hp)
    simp at this; omega
  have hsi : i.size = t.sz := by simpa [sizeAt, hi] using hsz
  have hbi : i.bytes = by_ := by simpa [hi] using hby
  split at hk
  · rw [show vs = _ from hs]
    obtain ⟨m, rs', A, c, hk, rfl, hle, hm⟩ := moreE_sound H (fun q => .inl rfl) hx hk
    exact putRow_sound (l := []) H (fun q => .inl rfl) (fun q h cs => by rw [h]; simp) hu hi hz' hsi hbi hzl h3 (World.ownsRow_nil w 0 e t.sz) rfl (fun g hg => by simp [Value.ownBlock] at hg) hm hk
  · rename_i q
    obtain ⟨hne, rfl, A0, n0, c0, hv⟩ := hs
    simp only [Eff.go] at hk
    have hok := H.ok q
    split at hk
    case h_3 => cases hk
    case h_2 =>
      rename_i l hq
      split at hk
      case h_2 => cases hk
      rename_i ht8 hd8 hb1 hz9
      have hb1 := Nat.eq_of_beq_eq_true hb1
      subst ht8 hb1
      simp only [Eff.go] at hk
      have hqq : ∀ j, upd hp q .gone j = hp j ∨ (upd hp q .gone j = .gone ∧ hp j ≠ .unused) := by
        intro j
        by_cases hj : j = q
        · subst hj; exact .inr ⟨upd_same _ _ _, by rw [hq]; simp⟩
        · exact .inl (upd_ne _ _ hj)
      obtain ⟨m, rs', A, c, hk, rfl, hle, hm⟩ := moreE_sound H (fun j => (hqq j).imp id (·.1)) hx hk
      have hz8 : i.zero = some (.int .u8 0) := by
        rw [hi] at hz9
        exact hz9
      rw [hq] at hok
      obtain ⟨gq, cq, eq_, _⟩ := hok
      rw [hd_slice eq_]
      refine putBts_core H hq (fun g c' q1 q2 q3 q4 => run_append_bts T T ty e i (.slice e) hu hu (.inr ⟨_, rfl⟩) hi hz8 hsi hbi q3 q2 (.slice A m.length c) ?_ (fun W hW => ?_) q4) hk
      · simp [Builtin.lenOf]
        rfl
      · rcases hm with ⟨rfl, rfl⟩ | ⟨a, ys, rfl, hy, hcell⟩
        · show (Builtin.firstCells 1 0 (.slice none 0 c)).run P W = .ok #[] W
          simp [Builtin.firstCells]
        · have e0 := els_byte hy
          subst e0
          exact run_firstCells_some (P := P) W 1 m.length a m.length c (m.map (Value.int .u8)) (by exact Eq.trans (List.length_map (α := Int) (Value.int .u8)) (Nat.mul_one _).symm) (fun j v hj => by rw [hW]; exact hcell j v hj)
    rename_i e' t' l hq
    split at hk
    case h_2 => cases hk
    rename_i h he _
    have he := Nat.eq_of_beq_eq_true he
    subst he h
    rw [hq] at hok
    obtain ⟨xs, g1, g2⟩ := hok
    rw [hd_own g1] at hv ⊢
    simp only [Eff.go] at hk
    have hqq : ∀ j, upd hp q .gone j = hp j ∨ (upd hp q .gone j = .gone ∧ hp j ≠ .unused) := by
      intro j
      by_cases hj : j = q
      · subst hj; exact .inr ⟨upd_same _ _ _, by rw [hq]; simp⟩
      · exact .inl (upd_ne _ _ hj)
    obtain ⟨m, rs', A, c, hk, rfl, hle, hm⟩ := moreE_sound H (fun j => (hqq j).imp id (·.1)) hx hk
    have hqb : ∀ j, upd hp q .gone j = .gone → ∀ cs, hp j ≠ .box cs := by
      intro j h cs hj
      by_cases hjq : j = q
      · subst hjq; rw [hq] at hj; cases hj
      · rw [upd_ne _ _ hjq, hj] at h; cases h
    refine putRow_sound H hqq hqb hu hi hz' hsi hbi hzl h3 g1 g2 (fun g hg => ?_) hm hk
    have hbg : At (ρ q) g := by rw [blk_own ⟨A0, n0, c0, hv⟩]; exact hg
    refine ⟨⟨q, by rw [hq]; trivial, hbg⟩, fun j hj hbj => ?_⟩
    by_cases hjq : j = q
    · subst hjq; rw [upd_same] at hj; exact hj
    · rw [upd_ne _ _ hjq] at hj
      exact hjq (H.sep j q g hj (by rw [hq]; trivial) hbj hbg)
  · cases hk

theorem strOf_foldl (l : List Int) (s : ByteArray) : l.foldl (fun r n => r.push (UInt8.ofNat n.toNat)) s = ⟨s.data ++ (l.map fun n => UInt8.ofNat n.toNat).toArray⟩ := by
  induction l generalizing s with
  | nil => simp
  | cons x l ih =>
    rw [List.foldl_cons, ih]
    simp [ByteArray.push]

theorem run_bytes_str {S T e : TypeId} (hu : P.underlying S = some (.slice e)) (he : P.underlying e = some (.int .u8)) (hd : P.underlying T = some .string) {M : Nat → Prop} {l : List Int} {A : Option Addr} {c : Nat}
    (h : (A = none ∧ l = []) ∨ ∃ a xs, A = some a ∧ Els (Ty.KR M w (.int .u8)) l xs ∧ ∀ (q : Nat) (u : Value), xs[q]? = some u → w.cell? (a.add q) = some u) : (convert S T (.slice A l.length c)).run P w = .ok (.string (strOf l)) w := by
  rw [run_convert_bytes_string w S T e A l.length c hu he hd]
  rcases h with ⟨rfl, rfl⟩ | ⟨a, xs, rfl, hels, hc⟩
  · simp [Conv.bytesToString, strOf]; rfl
  · have hx : xs = l.map (Value.int .u8) := by
      clear hc
      induction l generalizing xs with
      | nil => exact hels
      | cons y l ih =>
        obtain ⟨c, q, rfl, hy, hq⟩ := hels
        rw [show c = [.int .u8 y] from hy, ih q hq]
        rfl
    subst hx
    have hl : (loadCells a l.length).run P w = .ok (l.map (Value.int .u8)).toArray w := by
      have := run_loadCells_list (P := P) w a _ hc
      simpa using this
    rw [run_bytesToString w a l.length c l hl, strOf_foldl]
    congr 2
    show ByteArray.mk (#[] ++ _) = _
    rw [Array.empty_append]
    rfl

theorem els_ints {k : IntKind} {M : Nat → Prop} {w : World} : (l : List Int) → Els (Ty.KR M w (.int k)) l (l.map (Value.int k))
  | [] => rfl
  | x :: l => ⟨[.int k x], l.map (Value.int k), rfl, rfl, els_ints l⟩
theorem lt_of_get' {α : Type} {l : List α} {k : Nat} {x : α} (h : l[k]? = some x) : k < l.length := (List.getElem?_eq_some_iff.1 h).1

theorem convE_sound (H : HRel MX w ρ hp) {S T : TypeId} {x : AV} {vx : Value} (hx : R (Mut MX hp ρ) w ρ hp x vx) (hk : (convE P S T x).go b hp rs ws K = some r) :
    ∃ x v rs', K x b hp rs' ws = some r ∧ (convert S T vx).run P w = .ok v w ∧ R (Mut MX hp ρ) w ρ hp x v := by
  unfold convE at hk
  split at hk
  · rename_i k0 k k1 n hS hT
    rw [show vx = _ from hx]
    exact ⟨_, _, _, hk, by simp [convert, run_underlying hS, run_underlying hT, Conv.intToInt, wrp_eq], rfl⟩
  · rename_i s hS hT
    rw [show vx = _ from hx]
    exact ⟨_, _, _, hk, by simp [convert, run_underlying hS, run_underlying hT], rfl⟩
  · rename_i e hS hT
    split at hk
    · rename_i l he
      obtain ⟨A, c, rfl, hle, hr⟩ := hx
      exact ⟨_, _, _, hk, run_bytes_str hS he hT (con_cells hr), rfl⟩
    · rename_i he
      rw [show vx = _ from hx]
      exact ⟨_, _, _, hk, run_bytes_str (M := Mut MX hp ρ) (l := []) hS he hT (.inl ⟨rfl, rfl⟩), rfl⟩
    · rename_i i he
      obtain ⟨hne, rfl, A0, n0, c0, hv⟩ := hx
      simp only [Eff.go] at hk
      have hok := H.ok i
      split at hk
      · rename_i e' l hi
        rw [hi] at hok
        obtain ⟨xs, h1, h2⟩ := hok
        have hc := fun g hg => World.ownsRow.cells h1 (g := g) hg
        rcases h1.2 with ⟨h3, h4⟩ | ⟨g, cap, cur, h3, _, hh, hle, _⟩
        · have hl := List.eq_nil_of_length_eq_zero h4
          subst hl
          rw [h3]
          exact ⟨_, _, _, hk, run_bytes_str (M := Mut MX hp ρ) (l := []) hS he hT (.inl ⟨rfl, rfl⟩), rfl⟩
        · rw [h3]
          exact ⟨_, _, _, hk, run_bytes_str hS he hT (.inr ⟨_, xs, rfl, h2, fun q u hq => hc g (by rw [h3]; rfl) q u hq⟩), rfl⟩
      · rename_i l hi
        rw [hi] at hok
        obtain ⟨A, c, h1, hle, hr⟩ := hok
        rw [h1]
        exact ⟨_, _, _, hk, run_bytes_str hS he hT (con_cells hr), rfl⟩
      · rename_i l hi
        rw [hi] at hok
        obtain ⟨g, c, h1, hle, hr⟩ := hok
        rw [h1]
        refine ⟨_, _, _, hk, run_bytes_str (M := Mut MX hp ρ) hS he hT (.inr ⟨_, l.map (Value.int .u8), rfl, els_ints l, fun q u hq => ?_⟩), rfl⟩
        rw [List.getElem?_map] at hq
        cases hlq : l[q]? with
        | none => rw [hlq] at hq; cases hq
        | some y =>
          rw [hlq] at hq
          injection hq with hq
          subst hq
          rw [add_at', Nat.zero_add, hr.cell (lt_of_get' hlq), List.getD_eq_getElem?_getD, hlq]
          rfl
      · cases hk
    · cases hk
  · cases hk

theorem lenE_sound (H : HRel MX w ρ hp) {T ty : TypeId} {x : AV} {vx : Value} (hx : R (Mut MX hp ρ) w ρ hp x vx) (hk : (lenE P T x).go b hp rs ws K = some r) :
    ∃ x v rs', K x b hp rs' ws = some r ∧ (Builtin.len_ #[T] ty #[vx]).run P w = .ok v w ∧ R (Mut MX hp ρ) w ρ hp x v := by
  unfold lenE at hk
  split at hk
  · rename_i s hu
    rw [show vx = _ from hx]
    exact ⟨_, _, _, hk, run_len_str w hu s, rfl⟩
  · rename_i e hu
    rw [show vx = _ from hx]
    exact ⟨_, _, _, hk, run_len_sl w hu _ _ _, rfl⟩
  · rename_i e t l hu
    obtain ⟨A, c, rfl, hle, hr⟩ := hx
    exact ⟨_, _, _, hk, run_len_sl w hu _ _ _, rfl⟩
  · rename_i e i hu
    obtain ⟨hne, rfl, A0, n0, c0, hv⟩ := hx
    simp only [Eff.go] at hk
    have hok := H.ok i
    split at hk
    · rename_i e t l hi
      have hi : hp i = .row e t l := by cases hh : hp i <;> rw [hh] at hi <;> simp [strip] at hi ⊢ <;> exact hi
      rw [hi] at hok
      obtain ⟨xs, h1, h2⟩ := hok
      rcases h1.2 with ⟨h3, h4⟩ | ⟨g, cap, cur, h3, _⟩
      · rw [h3]
        refine ⟨_, _, _, hk, run_len_sl w hu _ _ _, ?_⟩
        rw [h4]; rfl
      · rw [h3]
        exact ⟨_, _, _, hk, run_len_sl w hu _ _ _, rfl⟩
    · rename_i o fr e' be t l cur hi
      obtain ⟨cur, hi⟩ : ∃ cur, hp i = .tre o fr e' be t l cur := by
        cases hh : hp i <;> rw [hh] at hi <;> simp [strip] at hi
        obtain ⟨rfl, rfl, rfl, rfl, rfl, hl, _⟩ := hi
        exact ⟨_, by rw [eq_of_heq hl]⟩
      rw [hi] at hok
      obtain ⟨v0, ss, us, xs, ht⟩ := hok
      rw [ht.hd_]
      rcases ht.own.2 with ⟨h3, h4⟩ | ⟨g, cap, cur', h3, _⟩
      · rw [h3]
        refine ⟨_, _, _, hk, run_len_sl w hu _ _ _, ?_⟩
        rw [h4]; rfl
      · rw [h3]
        exact ⟨_, _, _, hk, run_len_sl w hu _ _ _, rfl⟩
    · rename_i t l hi
      have hi : hp i = .frz t l := by cases hh : hp i <;> rw [hh] at hi <;> simp [strip] at hi ⊢ <;> exact hi
      rw [hi] at hok
      obtain ⟨A, c, h1, hle, hr⟩ := hok
      rw [h1]
      exact ⟨_, _, _, hk, run_len_sl w hu _ _ _, rfl⟩
    · rename_i l hi
      have hi : hp i = .bts l := by cases hh : hp i <;> rw [hh] at hi <;> simp [strip] at hi ⊢ <;> exact hi
      rw [hi] at hok
      obtain ⟨g, c, h1, hle, hr⟩ := hok
      rw [h1]
      exact ⟨_, _, _, hk, run_len_sl w hu _ _ _, rfl⟩
    · cases hk
  · rename_i e q lo hu
    obtain ⟨hne, g0, n0, c0, c1, A0, hv, hlo, rfl, hA, hc1⟩ := hx
    simp only [Eff.go] at hk
    have hok := H.ok q
    split at hk
    case h_2 => cases hk
    rename_i e' t l hi
    have hi : hp q = .row e' t l := by cases hh : hp q <;> rw [hh] at hi <;> simp [strip] at hi ⊢ <;> exact hi
    rw [hi] at hok
    obtain ⟨xs, h1, h2⟩ := hok
    have hn0 : n0 = l.length := by
      rcases h1.2 with ⟨h3, h4⟩ | ⟨g, cap, cur, h3, _⟩
      · rw [hv] at h3; cases h3
      · rw [hv] at h3
        injection h3
    subst hn0
    exact ⟨_, _, _, hk, run_len_sl w hu _ _ _, rfl⟩
  · cases hk

theorem Vw_sl {o : Nat} {s u : Value} (hs : ∃ A n c, s = .slice A n c) (h : Vw o s u) : ∃ A n c, u = .slice A n c := by
  cases o with
  | zero =>
    have h : u = s := h
    rw [h]; exact hs
  | succ o =>
    obtain ⟨g, n, c, c', A, _, _, e, _⟩ := h
    exact ⟨_, _, _, e⟩

theorem KT_one {M : Nat → Prop} : (t : Ty) → {x : t.den} → {s : Value} → {cs : List Value} → KT M w t x s cs → (∃ A n c, s = .slice A n c) → ∀ u ∈ cs, u.oneCell' = true
  | .sl _, _, _, _, h, ⟨A, n, c, e⟩, u, hu => by
    cases h
    rw [List.mem_singleton.1 hu, e]; rfl
  | .pair a b, _, _, _, ⟨c0, c1, e, h0, h1⟩, hs, u, hu => by
    rw [e] at hu
    rcases List.mem_append.1 hu with hu | hu
    · exact KR_one a h0 u hu
    · exact KT_one b h1 hs u hu
  | .int _, _, _, _, h, _, _, _ => h.elim
  | .bool, _, _, _, h, _, _, _ => h.elim
  | .str, _, _, _, h, _, _, _ => h.elim

theorem appendT_sound (H : HRel MX w ρ hp) {T T2 ty : TypeId} {s : AV} {vs : Value} {p o e be : Nat} {t : Ty} {l' : List t.den} {q : Nat} (hp_ : hp p = .tre o none e be t l' (some (0, q))) (hs : R (Mut MX hp ρ) w ρ hp s vs)
    (hk : (appendT P T T2 s p o e be t l' q).go b hp rs ws K = some r) :
    ∃ x b' hp' rs' ws' v' w' ρ', K x b' hp' rs' ws' = some r ∧ (Builtin.append_ #[T, T2] ty #[vs, hd (ρ p)]).run P w = .ok v' w' ∧ Step MX w ρ hp w' ρ' hp' ∧ R (Mut MX hp' ρ') w' ρ' hp' x v' := by
  unfold appendT at hk
  split at hk
  case h_2 => cases hk
  rename_i e' y hT hu
  have hT := Nat.eq_of_beq_eq_true hT
  subst hT
  split at hk
  case h_2 => cases hk
  rename_i sz z by_ he hsz hz hby
  have he := Nat.eq_of_beq_eq_true he
  subst he
  split at hk
  case h_2 => cases hk
  rename_i h1 h3 h4
  have h1 := Nat.eq_of_beq_eq_true h1
  have h3 := Nat.le_of_ble_eq_true h3
  have h4 := Nat.eq_of_beq_eq_true h4
  subst h1
  obtain ⟨i, z', hi, hz', hr⟩ := zeroCellsAt_some hz
  have hzl : z'.cells.size = t.sz := by
    have := Rs_len (hr (fun _ => False) w ρ hp)
    simp at this; omega
  have hsi : i.size = t.sz := by simpa [sizeAt, hi] using hsz
  have hbi : i.bytes = by_ := by simpa [hi] using hby
  have hokp := H.ok p
  rw [hp_] at hokp
  obtain ⟨vp, ssp, usp, xsp, htp⟩ := hokp
  have lvp : live (hp p) := by rw [hp_]; trivial
  obtain ⟨_, hjp, hsq, hqu⟩ := htp.cur_ 0 q rfl
  have hssp : ssp = [ρ q] := by
    have hl1 : ssp.length = 1 := htp.len
    match ssp, hl1, hsq with
    | [a], _, h => simp at h; rw [h]
  subst hssp
  obtain ⟨uq, hussp⟩ : ∃ uq, usp = [uq] := by
    have hl1 : usp.length = 1 := htp.ulen
    match usp, hl1 with
    | [a], _ => exact ⟨a, rfl⟩
  subst hussp
  have huq : Vw o (ρ q) uq := htp.vw 0 _ _ (Nat.zero_le _) rfl rfl
  have hqs : ∃ A n c, ρ q = .slice A n c := htp.sl _ (by simp)
  obtain ⟨ys, rest, hxs, hy, hrest⟩ := htp.els
  have hrest : rest = [] := hrest
  subst hrest
  rw [List.append_nil] at hxs
  subst hxs
  have hyl := KT_len t hy
  have hpt : hd (ρ p) = vp := htp.hd_
  obtain ⟨gp, cp, hvp⟩ : ∃ gp cp, vp = .slice (some ⟨gp, 0, none⟩) 1 cp := by
    rcases htp.own.2 with ⟨_, h⟩ | ⟨g, cap, cur, h, _⟩
    · simp at h
    · exact ⟨g, cap, h⟩
  have hcells := fun g hg => World.ownsRow.cells htp.own (g := g) hg
  have hcell : ∀ (k : Nat) (u : Value), xsp[k]? = some u → w.cell? ((⟨gp, 0, none⟩ : Addr).add k) = some u := fun k u hk => hcells gp (by rw [hvp]; rfl) k u hk
  have hone := KT_one t hy (Vw_sl hqs huq)
  rw [hpt, hvp]
  split at hk
  · -- to no row
    rw [show vs = _ from hs]
    simp only [Eff.go] at hk
    split at hk
    case isFalse => cases hk
    rename_i hle
    split at hk
    case h_2 => cases hk
    rename_i hub
    have hbp : b ≠ p := fun e' => by rw [e', upd_same] at hub; cases hub
    have hbs : hp b = .unused := by rw [upd_ne _ _ hbp] at hub; exact hub
    have hbytes : (0 + 1) * by_ ≤ 140737488355328 := Nat.le_trans (Nat.mul_le_mul_right by_ hle) (Nat.div_mul_le_self _ _)
    obtain ⟨v', w', g1, g2, g3, _, g5⟩ := run_append_own_at (P := P) (w := w) 0 T ty e' i z' t.sz by_ hu hi hz' hsi hbi hzl t.sz_pos (.slice none 0 0) 0 [] (World.ownsRow_nil w 0 e' t.sz) ⟨gp, 0, none⟩ 1 cp xsp (by rw [hyl, Nat.one_mul]) hcell hone (by unfold maxLen; omega) hbytes (Nat.zero_le _)
    have hst := Step.appendOne (l := []) (ss := []) (us := []) (xs := []) (v := .slice none 0 0) (y := y) (be := be) H (hp1 := upd hp p .gone) (fun k => by
        by_cases hkp : k = p
        · subst hkp; exact .inr ⟨upd_same _ _ _, by rw [hp_]; simp⟩
        · exact .inl (upd_ne _ _ hkp)) (fun k hk cs hk' => by
        by_cases hkp : k = p
        · subst hkp; rw [hp_] at hk'; cases hk'
        · rw [upd_ne _ _ hkp, hk'] at hk; cases hk) hbs htp.nest htp.osz rfl rfl (World.ownsRow_nil w 0 e' t.sz) rfl (fun j s u hs => by simp at hs) (fun j x s hx => by simp at hx) (fun j k s s' g hj hk' hg => by
        cases j with
        | zero => simp at hj; subst hj; cases hg
        | succ j => simp at hj) (fun s hs => by cases hs) (fun j s g hj hg => by
        cases j with
        | zero => simp at hj; subst hj; cases hg
        | succ j => simp at hj) hqu (by
        by_cases hqp : q = p
        · subst hqp; rw [upd_same]; simp
        · rw [upd_ne _ _ hqp]; exact hqu) hqs huq hy g2 g3 (g5.imp id (fun h g hg => by rw [h] at hg; injection hg with hg; omega))
    refine ⟨_, _, _, _, _, v', w', _, hk, g1, hst, by rw [upd_same]; simp, by rw [upd_same]; rfl, ?_⟩
    rcases g2.2 with ⟨h, _⟩ | ⟨_, _, _, h, _⟩ <;> exact ⟨_, _, _, h⟩
  · rename_i i0
    obtain ⟨hne, rfl, A0, n0, c0, hv⟩ := hs
    simp only [Eff.go] at hk
    split at hk
    case h_2 => cases hk
    rename_i o2 e2 be2 t2 l hi0
    split at hk
    case h_2 => cases hk
    rename_i ht2 he2 hbe2 _ hip ho2
    have ho2 := Nat.eq_of_beq_eq_true ho2
    subst ho2
    have he2 := Nat.eq_of_beq_eq_true he2
    have hbe2 := Nat.eq_of_beq_eq_true hbe2
    subst he2 hbe2 ht2
    have hip' : i0 ≠ p := fun e' => by rw [e', Nat.beq_refl] at hip; cases hip
    simp only [Eff.go] at hk
    split at hk
    case isFalse => cases hk
    rename_i hle
    split at hk
    case h_2 => cases hk
    rename_i hub
    have hbp : b ≠ p := fun e' => by rw [e', upd_same] at hub; cases hub
    have hbi0 : b ≠ i0 := fun e' => by rw [e', upd_ne _ _ hip', upd_same] at hub; cases hub
    have hbs : hp b = .unused := by rw [upd_ne _ _ hbp, upd_ne _ _ hbi0] at hub; exact hub
    have hok0 := H.ok i0
    rw [hi0] at hok0
    obtain ⟨v0, ss, us, xs, ht0⟩ := hok0
    have lv0 : live (hp i0) := by rw [hi0]; trivial
    rw [ht0.hd_]
    have hbytes : (l.length + 1) * by_ ≤ 140737488355328 := Nat.le_trans (Nat.mul_le_mul_right by_ hle) (Nat.div_mul_le_self _ _)
    have hmax : l.length + 1 ≤ maxLen := by
      have := Nat.le_trans (Nat.le_mul_of_pos_right (l.length + 1) h3) hbytes
      unfold maxLen
      omega
    obtain ⟨v', w', g1, g2, g3, _, g5⟩ := run_append_own_at (P := P) (w := w) 0 T ty e2 i z' t2.sz by_ hu hi hz' hsi hbi hzl t2.sz_pos v0 l.length xs ht0.own ⟨gp, 0, none⟩ 1 cp xsp (by rw [hyl, Nat.one_mul]) hcell hone hmax hbytes (Nat.zero_le _)
    have hst := Step.appendOne (y := y) (be := be2) H (hp1 := upd (upd hp i0 .gone) p .gone) (fun k => by
        by_cases hkp : k = p
        · subst hkp; exact .inr ⟨upd_same _ _ _, by rw [hp_]; simp⟩
        · by_cases hki : k = i0
          · subst hki; exact .inr ⟨by rw [upd_ne _ _ hkp, upd_same], by rw [hi0]; simp⟩
          · exact .inl (by rw [upd_ne _ _ hkp, upd_ne _ _ hki])) (fun k hk cs hk' => by
        by_cases hkp : k = p
        · subst hkp; rw [hp_] at hk'; cases hk'
        · by_cases hki : k = i0
          · subst hki; rw [hi0] at hk'; cases hk'
          · rw [upd_ne _ _ hkp, upd_ne _ _ hki, hk'] at hk; cases hk) hbs ht0.nest ht0.osz ht0.len ht0.ulen ht0.own ht0.els (fun j s u hs hu => ht0.vw j s u (Nat.zero_le _) hs hu) (fun j x s hx hs => ht0.inn j x s (Nat.zero_le _) hx hs (fun _ e => by cases e)) ht0.dis ht0.sl (fun j s g hj hg => by
        have hat : At (ρ i0) g := ht0.at_.2 ⟨j, s, hj, hg⟩
        refine ⟨⟨i0, lv0, hat⟩, fun k hlk hbk => ?_⟩
        by_cases hkp : k = p
        · subst hkp; rw [upd_same] at hlk; exact hlk
        · rw [upd_ne _ _ hkp] at hlk
          by_cases hki : k = i0
          · subst hki; rw [upd_same] at hlk; exact hlk
          · rw [upd_ne _ _ hki] at hlk
            exact hki (H.sep k i0 g hlk lv0 hbk hat)) hqu (by
        by_cases hqp : q = p
        · subst hqp; rw [upd_same]; simp
        · rw [upd_ne _ _ hqp]
          by_cases hqi : q = i0
          · subst hqi; rw [upd_same]; simp
          · rw [upd_ne _ _ hqi]; exact hqu) hqs huq hy g2 g3 (g5.imp id (fun h g hg => by rw [h] at hg; injection hg with hg; omega))
    refine ⟨_, _, _, _, _, v', w', _, hk, g1, hst, by rw [upd_same]; simp, by rw [upd_same]; rfl, ?_⟩
    rcases g2.2 with ⟨h, _⟩ | ⟨_, _, _, h, _⟩ <;> exact ⟨_, _, _, h⟩
  · cases hk

theorem appendN_sound (H : HRel MX w ρ hp) {T T2 ty : TypeId} {s : AV} {vs : Value} {p o e be : Nat} {t : Ty} {y : t.den} (hp_ : hp p = .tre o none e be t [y] none) (hs : R (Mut MX hp ρ) w ρ hp s vs)
    (hk : (appendN P T T2 s p o e be t y).go b hp rs ws K = some r) :
    ∃ x b' hp' rs' ws' v' w' ρ', K x b' hp' rs' ws' = some r ∧ (Builtin.append_ #[T, T2] ty #[vs, hd (ρ p)]).run P w = .ok v' w' ∧ Step MX w ρ hp w' ρ' hp' ∧ R (Mut MX hp' ρ') w' ρ' hp' x v' := by
  unfold appendN at hk
  split at hk
  case h_2 => cases hk
  rename_i e' hT hu
  have hT := Nat.eq_of_beq_eq_true hT
  subst hT
  split at hk
  case h_2 => cases hk
  rename_i sz z by_ he hsz hz hby
  have he := Nat.eq_of_beq_eq_true he
  subst he
  split at hk
  case h_2 => cases hk
  rename_i h1 h3 h4
  have h1 := Nat.eq_of_beq_eq_true h1
  have h3 := Nat.le_of_ble_eq_true h3
  have h4 := Nat.eq_of_beq_eq_true h4
  subst h1
  obtain ⟨i, z', hi, hz', hr⟩ := zeroCellsAt_some hz
  have hzl : z'.cells.size = t.sz := by
    have := Rs_len (hr (fun _ => False) w ρ hp)
    simp at this; omega
  have hsi : i.size = t.sz := by simpa [sizeAt, hi] using hsz
  have hbi : i.bytes = by_ := by simpa [hi] using hby
  have hokp := H.ok p
  rw [hp_] at hokp
  obtain ⟨vp, ssp, usp, xsp, htp⟩ := hokp
  have lvp : live (hp p) := by rw [hp_]; trivial
  obtain ⟨sq, hssp⟩ : ∃ sq, ssp = [sq] := by
    have hl1 : ssp.length = 1 := htp.len
    match ssp, hl1 with
    | [a], _ => exact ⟨a, rfl⟩
  subst hssp
  obtain ⟨uq, hussp⟩ : ∃ uq, usp = [uq] := by
    have hl1 : usp.length = 1 := htp.ulen
    match usp, hl1 with
    | [a], _ => exact ⟨a, rfl⟩
  subst hussp
  have huq : Vw o sq uq := htp.vw 0 _ _ (Nat.zero_le _) rfl rfl
  have hqs : ∃ A n c, sq = .slice A n c := htp.sl _ (by simp)
  have hqi : Inn (Mut MX hp ρ) w be t y sq := htp.inn 0 _ _ (Nat.zero_le _) rfl rfl (fun _ e => by cases e)
  obtain ⟨ys, rest, hxs, hy, hrest⟩ := htp.els
  have hrest : rest = [] := hrest
  subst hrest
  rw [List.append_nil] at hxs
  subst hxs
  have hyl := KT_len t hy
  have hpt : hd (ρ p) = vp := htp.hd_
  obtain ⟨gp, cp, hvp⟩ : ∃ gp cp, vp = .slice (some ⟨gp, 0, none⟩) 1 cp := by
    rcases htp.own.2 with ⟨_, h⟩ | ⟨g, cap, cur, h, _⟩
    · simp at h
    · exact ⟨g, cap, h⟩
  have hcells := fun g hg => World.ownsRow.cells htp.own (g := g) hg
  have hcell : ∀ (k : Nat) (u : Value), xsp[k]? = some u → w.cell? ((⟨gp, 0, none⟩ : Addr).add k) = some u := fun k u hk => hcells gp (by rw [hvp]; rfl) k u hk
  have hone := KT_one t hy (Vw_sl hqs huq)
  rw [hpt, hvp]
  split at hk
  · rename_i i0
    obtain ⟨hne, rfl, A0, n0, c0, hv⟩ := hs
    simp only [Eff.go] at hk
    split at hk
    case h_2 => cases hk
    rename_i o2 e2 be2 t2 l cur0 hi0
    split at hk
    case h_2 => cases hk
    rename_i ht2 he2 hbe2 _ hip ho2
    have ho2 := Nat.eq_of_beq_eq_true ho2
    subst ho2
    have he2 := Nat.eq_of_beq_eq_true he2
    have hbe2 := Nat.eq_of_beq_eq_true hbe2
    subst he2 hbe2 ht2
    have hip' : i0 ≠ p := fun e' => by rw [e', Nat.beq_refl] at hip; cases hip
    simp only [Eff.go] at hk
    split at hk
    case isFalse => cases hk
    rename_i hle
    split at hk
    case h_2 => cases hk
    rename_i hub
    have hbp : b ≠ p := fun e' => by rw [e', upd_same] at hub; cases hub
    have hbi0 : b ≠ i0 := fun e' => by rw [e', upd_ne _ _ hip', upd_same] at hub; cases hub
    have hbs : hp b = .unused := by rw [upd_ne _ _ hbp, upd_ne _ _ hbi0] at hub; exact hub
    have hok0 := H.ok i0
    rw [hi0] at hok0
    obtain ⟨v0, ss, us, xs, ht0⟩ := hok0
    have lv0 : live (hp i0) := by rw [hi0]; trivial
    rw [ht0.hd_]
    have hbytes : (l.length + 1) * by_ ≤ 140737488355328 := Nat.le_trans (Nat.mul_le_mul_right by_ hle) (Nat.div_mul_le_self _ _)
    have hmax : l.length + 1 ≤ maxLen := by
      have := Nat.le_trans (Nat.le_mul_of_pos_right (l.length + 1) h3) hbytes
      unfold maxLen
      omega
    obtain ⟨v', w', g1, g2, g3, _, g5⟩ := run_append_own_at (P := P) (w := w) 0 T ty e2 i z' t2.sz by_ hu hi hz' hsi hbi hzl t2.sz_pos v0 l.length xs ht0.own ⟨gp, 0, none⟩ 1 cp xsp (by rw [hyl, Nat.one_mul]) hcell hone hmax hbytes (Nat.zero_le _)
    have own2 : ∀ (j : Nat) (s : Value) (g : Nat), (v0 :: (hole cur0 ss ++ [sq]))[j]? = some s → blk s = some g → (j ≤ ss.length ∧ At (ρ i0) g) ∨ (j = ss.length + 1 ∧ At (ρ p) g) := by
      intro j s g hj hg
      cases j with
      | zero => exact .inl ⟨Nat.zero_le _, ht0.at_.2 ⟨0, s, hj, hg⟩⟩
      | succ j =>
        rw [List.getElem?_cons_succ] at hj
        by_cases hjl : j < ss.length
        · rw [List.getElem?_append_left (by rw [hole_len]; exact hjl)] at hj
          exact .inl ⟨by omega, ht0.at_.2 ⟨j + 1, s, by rw [List.getElem?_cons_succ]; exact hj, hg⟩⟩
        · have h1 := (List.getElem?_eq_some_iff.1 hj).1
          rw [List.length_append, hole_len, List.length_singleton] at h1
          obtain rfl : j = ss.length := by omega
          rw [List.getElem?_append_right (by rw [hole_len]; omega), hole_len, Nat.sub_self] at hj
          have : sq = s := by simpa using hj
          subst this
          exact .inr ⟨rfl, htp.at_.2 ⟨1, sq, rfl, hg⟩⟩
    have hdis : Dis (v0 :: (hole cur0 ss ++ [sq])) := by
      intro a c u u' g ha hc hu hu'
      have conv : ∀ {a : Nat} {u : Value}, a ≤ ss.length → (v0 :: (hole cur0 ss ++ [sq]))[a]? = some u → (v0 :: hole cur0 ss)[a]? = some u := by
        intro a u hal ha
        cases a with
        | zero => exact ha
        | succ a =>
          rw [List.getElem?_cons_succ] at ha ⊢
          rw [List.getElem?_append_left (by rw [hole_len]; omega)] at ha
          exact ha
      rcases own2 a u g ha hu with ⟨h1, h2⟩ | ⟨h1, h2⟩ <;> rcases own2 c u' g hc hu' with ⟨h3, h4⟩ | ⟨h3, h4⟩
      · exact ht0.dis a c u u' g (conv h1 ha) (conv h3 hc) hu hu'
      · exact absurd (H.sep i0 p g lv0 lvp h2 h4) hip'
      · exact absurd (H.sep i0 p g lv0 lvp h4 h2) hip'
      · rw [h1, h3]
    have hst := Step.appendNil (y := y) (be := be2) H (hp1 := upd (upd hp i0 .gone) p .gone) (fun k => by
        by_cases hkp : k = p
        · subst hkp; exact .inr ⟨upd_same _ _ _, by rw [hp_]; simp⟩
        · by_cases hki : k = i0
          · subst hki; exact .inr ⟨by rw [upd_ne _ _ hkp, upd_same], by rw [hi0]; simp⟩
          · exact .inl (by rw [upd_ne _ _ hkp, upd_ne _ _ hki])) (fun k hk cs hk' => by
        by_cases hkp : k = p
        · subst hkp; rw [hp_] at hk'; cases hk'
        · by_cases hki : k = i0
          · subst hki; rw [hi0] at hk'; cases hk'
          · rw [upd_ne _ _ hkp, upd_ne _ _ hki, hk'] at hk; cases hk) hbs ht0.nest ht0.osz ht0.len ht0.ulen ht0.own ht0.els (fun j s u hs hu => ht0.vw j s u (Nat.zero_le _) hs hu) (fun j x s hx hs hc => ht0.inn j x s (Nat.zero_le _) hx hs hc) hdis ht0.sl (fun j s g hj hg => by
        rcases own2 j s g hj hg with ⟨_, hat⟩ | ⟨_, hat⟩
        · refine ⟨⟨i0, lv0, hat⟩, fun k hlk hbk => ?_⟩
          by_cases hkp : k = p
          · subst hkp; rw [upd_same] at hlk; exact hlk
          · rw [upd_ne _ _ hkp] at hlk
            by_cases hki : k = i0
            · subst hki; rw [upd_same] at hlk; exact hlk
            · rw [upd_ne _ _ hki] at hlk
              exact hki (H.sep k i0 g hlk lv0 hbk hat)
        · refine ⟨⟨p, lvp, hat⟩, fun k hlk hbk => ?_⟩
          by_cases hkp : k = p
          · subst hkp; rw [upd_same] at hlk; exact hlk
          · rw [upd_ne _ _ hkp] at hlk
            by_cases hki : k = i0
            · subst hki; rw [upd_same] at hlk; exact hlk
            · rw [upd_ne _ _ hki] at hlk
              exact hkp (H.sep k p g hlk lvp hbk hat)) (fun j q hc => by
        obtain ⟨_, h1, h2, h3⟩ := ht0.cur_ j q hc
        refine ⟨h1, h2, h3, ?_⟩
        by_cases hqp : q = p
        · subst hqp; rw [upd_same]; simp
        · rw [upd_ne _ _ hqp]
          by_cases hqi : q = i0
          · subst hqi; rw [upd_same]; simp
          · rw [upd_ne _ _ hqi]; exact h3) hqs hqi huq hy g2 g3 (g5.imp id (fun h g hg => by rw [h] at hg; injection hg with hg; omega))
    refine ⟨_, _, _, _, _, v', w', _, hk, g1, hst, by rw [upd_same]; simp, by rw [upd_same]; rfl, ?_⟩
    rcases g2.2 with ⟨h, _⟩ | ⟨_, _, _, h, _⟩ <;> exact ⟨_, _, _, h⟩
  · cases hk

theorem buildOneE_sound (H : HRel MX w ρ hp) {T n : Nat} {ps : List (Nat × AV)} {vs : List (Nat × Value)} {k : Eff AV} (hps : PartsR (Mut MX hp ρ) w ρ hp ps vs) (hk : (buildOneE P T n ps k).go b hp rs ws K = some r) :
    (∃ rs', k.go b hp rs' ws K = some r) ∨ ∃ x b' hp' rs' ws' v w' ρ', K x b' hp' rs' ws' = some r ∧ (Instr.buildSlice T n vs.toArray).run P w = .ok v w' ∧ Step MX w ρ hp w' ρ' hp' ∧ R (Mut MX hp' ρ') w' ρ' hp' x v := by
  unfold buildOneE at hk
  split at hk
  case h_3 => exact .inl ⟨_, hk⟩
  case h_2 =>
    split at hk
    case h_2 => exact .inl ⟨_, hk⟩
    rename_i e hu
    split at hk
    case h_2 => exact .inl ⟨_, hk⟩
    rename_i t s z ht hs hz
    split at hk
    case h_2 => exact .inl ⟨_, hk⟩
    rename_i be hnest h1 h2 hinn
    right
    have h1 := Nat.eq_of_beq_eq_true h1
    subst h1
    obtain rfl : vs = [] := hps
    obtain ⟨i, z', hi, hz', hr⟩ := zeroCellsAt_some hz
    obtain ⟨x, b', hp', rs', ws', ρ', hK, hst, hR⟩ := nw_treL (l := []) (xs := []) (cap := 0) (cur := #[]) H hnest rfl (fun x hx => by cases hx) (Nat.le_refl _) (Nat.zero_le _) (by simp) (by simp) hk
    refine ⟨x, b', hp', rs', ws', _, _, ρ', hK, ?_, hst, hR⟩
    have e0 : Array.map (fun (_ : Nat) => (default : Value)) (Array.range 0) = #[] := by rw [Array.range_zero', Array.map_empty]
    simp [Instr.buildSlice, run_underlying hu, run_sizeOf hs, newRow]
    rw [e0]
    simp [Instr.fill]
  rename_i x0
  split at hk
  case h_2 => exact .inl ⟨_, hk⟩
  rename_i e cs0 hu hcs
  split at hk
  case h_3 => exact .inl ⟨_, hk⟩
  case h_2 =>
    rename_i t s z _ ht hs hz
    split at hk
    case h_2 => exact .inl ⟨_, hk⟩
    rename_i hnest h1 h2 h3 h4 hcell
    split at hk
    case h_2 => exact .inl ⟨_, hk⟩
    rename_i y be hnil hdec hinn
    right
    have h1 := Nat.eq_of_beq_eq_true h1
    have h2 := Nat.eq_of_beq_eq_true h2
    have h3 := Nat.le_of_ble_eq_true h3
    have h4 := Nat.le_of_ble_eq_true h4
    subst h1
    have hdl := dec_len t hdec
    obtain ⟨i, z', hi, hz', hr⟩ := zeroCellsAt_some hz
    have hzl : z'.cells.size = t.sz := by
      have := Rs_len (hr (fun _ => False) w ρ hp)
      simp at this; omega
    have hf : fillA (fun i => some (i * t.sz, t.sz)) (repl 1 z) [(0, x0)] = some cs0 := by
      unfold fillA
      rw [hcs]
      simp only [repl, List.nil_append, Nat.zero_mul, Nat.zero_add]
      rw [show Nat.beq cs0.length t.sz = true by rw [hdl]; exact Nat.beq_refl _, show Nat.ble t.sz z.length = true by rw [h2]; exact Nat.ble_eq_true_of_le (Nat.le_refl _)]
      show some (z.take 0 ++ cs0 ++ z.drop (0 + cs0.length)) = some cs0
      rw [List.drop_eq_nil_of_le (by omega), List.append_nil]
      rfl
    obtain ⟨us, hfill, hrs, hlen⟩ := fill_sound (placeC := fun i => some (i * t.sz, t.sz)) (fun i p h => h) hps (Rs_repl (hr (Mut MX hp ρ) w ρ hp) 1) hf
    have hul : us.length = t.sz := by rw [Rs_len hrs, hdl]
    obtain ⟨fs, hfs⟩ := nilLast_some hnil
    rw [hfs] at hrs hdec
    obtain ⟨us0, us1, hus, hr0, hr1⟩ := Rs_split hrs
    obtain ⟨v1, _, rfl, hv1, rfl⟩ := hr1
    obtain rfl : v1 = .slice none 0 0 := hv1
    obtain ⟨hkt, hgd⟩ := decN_sound t hnest hdec hr0
    rw [← hus] at hkt
    obtain ⟨x, b', hp', rs', ws', ρ', hK, hst, hR⟩ := nw_treL (l := [y]) (xs := us) (cap := 1) (cur := us.toArray) H hnest ⟨us, [], by simp, hkt, rfl⟩ (fun x hx => by rw [List.mem_singleton.1 hx]; exact hgd) (Nat.le_refl _) (by unfold maxLen; omega) (by simp [hul]) (by simp only [List.length_singleton, Nat.one_mul, ← hul, List.take_length]) hk
    refine ⟨x, b', hp', rs', ws', _, _, ρ', hK, ?_, hst, hR⟩
    have hmade : (Array.range (1 * t.sz)).map (z'.cells[· % z'.cells.size]!) = (replV 1 z'.cells.toList).toArray := by
      have := madeCells_repl z'.cells (by omega) 1
      unfold madeCells at this
      rw [hzl] at this
      rw [hzl, ← this]
    have hbig : ¬ (2 ^ 24 < 1 * t.sz) := by omega
    have h0 : ¬ 1 * t.sz = 0 := by omega
    rw [Nat.one_mul] at hmade hbig h0
    simp [Instr.buildSlice, run_underlying hu, run_sizeOf hs, hbig, h0, zeroValue, typeInfo, hi, hz', newRow]
    rw [hmade, hfill]
    simp
  rename_i fs q o t s z hlast ht hs hz
  split at hk
  case h_2 => exact .inl ⟨_, hk⟩
  rename_i hnest h1 h2 h3 h4 hcell
  simp only [Eff.go] at hk
  split at hk
  case h_2 => exact .inl ⟨_, hk⟩
  rename_i be b0 m hq
  split at hk
  case h_2 => exact .inl ⟨_, hk⟩
  rename_i hb0 be' _ hinn hosz
  subst hb0
  have hosz : o = 0 ∨ t.inn.sz = 1 := by
    rcases Bool.or_eq_true_iff.1 hosz with h | h
    · exact .inl (Nat.eq_of_beq_eq_true h)
    · exact .inr (Nat.eq_of_beq_eq_true h)
  split at hk
  case h_2 => exact .inl ⟨_, hk⟩
  rename_i y hbe hdec
  right
  have h1 := Nat.eq_of_beq_eq_true h1
  have h2 := Nat.eq_of_beq_eq_true h2
  have h3 := Nat.le_of_ble_eq_true h3
  have h4 := Nat.le_of_ble_eq_true h4
  subst h1
  simp only [Eff.go] at hk
  split at hk
  case h_2 => cases hk
  rename_i hub
  have hvs := lastRow_some hlast
  have hdl := dec_len t hdec
  have hcl : cs0.length = t.sz := by rw [hvs, List.length_append]; rw [List.length_append] at hdl; exact hdl
  obtain ⟨i, z', hi, hz', hr⟩ := zeroCellsAt_some hz
  have hzl : z'.cells.size = t.sz := by
    have := Rs_len (hr (fun _ => False) w ρ hp)
    simp at this; omega
  have hf : fillA (fun i => some (i * t.sz, t.sz)) (repl 1 z) [(0, x0)] = some cs0 := by
    unfold fillA
    rw [hcs]
    simp only [repl, List.nil_append, Nat.zero_mul, Nat.zero_add]
    rw [show Nat.beq cs0.length t.sz = true by rw [hcl]; exact Nat.beq_refl _, show Nat.ble t.sz z.length = true by rw [h2]; exact Nat.ble_eq_true_of_le (Nat.le_refl _)]
    show some (z.take 0 ++ cs0 ++ z.drop (0 + cs0.length)) = some cs0
    rw [List.drop_eq_nil_of_le (by omega), List.append_nil]
    rfl
  obtain ⟨us, hfill, hrs, hlen⟩ := fill_sound (placeC := fun i => some (i * t.sz, t.sz)) (fun i p h => h) hps (Rs_repl (hr (Mut MX hp ρ) w ρ hp) 1) hf
  have hul : us.length = t.sz := by rw [Rs_len hrs, hcl]
  rw [hvs] at hrs
  obtain ⟨us0, us1, hus, hr0, hr1⟩ := Rs_split hrs
  obtain ⟨sq, _, rfl, hsq0, rfl⟩ := hr1
  have hqok := H.ok q
  rw [hq] at hqok
  obtain ⟨ys, y1, y2⟩ := hqok
  have hsl : ∃ A n c, ρ q = .slice A n c := by
    rcases y1.2 with ⟨h, _⟩ | ⟨_, _, _, h, _⟩ <;> exact ⟨_, _, _, h⟩
  have hvw : Vw o (ρ q) sq := by
    cases o with
    | zero => exact hsq0.2.1.trans (hd_own y1)
    | succ o => exact hsq0.2
  obtain ⟨hkt, hgy⟩ := decT_sound (s := sq) t hnest hdec hr0
  rw [← hus] at hkt
  have hqb : q ≠ b := fun e' => by rw [e', hub] at hq; cases hq
  have hat : At (.tuple [.slice (some ⟨w.heap.size, 0, none⟩) 1 1, .slice none 0 0].toArray) = fun x => (some w.heap.size : Option Nat) = some x := by
    funext x
    apply propext
    rw [at_tuple]
    constructor
    · rintro ⟨j, s, hj, hs⟩
      cases j with
      | zero =>
        have : Value.slice (some ⟨w.heap.size, 0, none⟩) 1 1 = s := by simpa using hj
        subst this
        exact hs
      | succ j =>
        cases j with
        | zero => simp at hj; subst hj; cases hs
        | succ j => simp at hj
    · intro h
      exact ⟨0, _, rfl, h⟩
  refine ⟨_, _, _, _, _, .slice (some ⟨w.heap.size, 0, none⟩) 1 1, w.alloc (.cells us.toArray e), upd ρ b (.tuple [.slice (some ⟨w.heap.size, 0, none⟩) 1 1, .slice none 0 0].toArray), hk, ?_, Step.alloc H hub hat ?_, ?_⟩
  · have hmade : (Array.range (1 * t.sz)).map (z'.cells[· % z'.cells.size]!) = (replV 1 z'.cells.toList).toArray := by
      have := madeCells_repl z'.cells (by omega) 1
      unfold madeCells at this
      rw [hzl] at this
      rw [hzl, ← this]
    have hbig : ¬ (2 ^ 24 < 1 * t.sz) := by omega
    have h0 : ¬ 1 * t.sz = 0 := by omega
    rw [Nat.one_mul] at hmade hbig h0
    simp [Instr.buildSlice, run_underlying hu, run_sizeOf hs, hbig, h0, zeroValue, typeInfo, hi, hz', newRow]
    rw [hmade, hfill]
    simp
  · intro M ρ' hp' old hv hM
    have hold := old q (by rw [hq]; simp)
    obtain ⟨A, n1, c1, hqs⟩ := hsl
    have hq' : ρ' q = ρ q := (hold.1.slice hqs).trans hqs.symm
    refine ⟨_, [ρ q], [sq], us, hnest, hosz, .inl hv, rfl, rfl, ⟨by rw [hul, show [y].length = 1 from rfl, Nat.one_mul], .inr ⟨w.heap.size, 1, us.toArray, rfl, Nat.zero_le _, heap_alloc_new w _, Nat.le_refl _, by unfold maxLen; omega, by simp [hul], by simp only [List.length_singleton, Nat.one_mul, ← hul, List.take_length]⟩⟩, ⟨us, [], by simp, KT_step (D := fun _ => False) (Off.alloc _ _ _) (fun _ _ h => h.elim) hM t hkt, rfl⟩, fun j x s _ hx hs hc => ?_, fun j s hf => absurd hf (Nat.not_lt_zero _), fun j s u _ hs hu => ?_, fun j k s s' x hj hk' hs hs' => ?_, fun s hs => ?_, fun j r hc => ?_⟩
    · cases j with
      | zero => exact absurd rfl (hc q)
      | succ j => simp at hx
    · cases j with
      | zero =>
        have e1 : ρ q = s := by simpa using hs
        have e2 : sq = u := by simpa using hu
        rw [← e1, ← e2]; exact hvw
      | succ j => simp at hs
    · have z : ∀ (j : Nat) (s : Value), (Value.slice (some ⟨w.heap.size, 0, none⟩) 1 1 :: hole (some (0, q)) [ρ q])[j]? = some s → blk s = some x → j = 0 := by
        intro j s hj hs
        cases j with
        | zero => rfl
        | succ j =>
          cases j with
          | zero =>
            simp [hole] at hj
            subst hj
            cases hs
          | succ j => simp [hole] at hj
      rw [z j s hj hs, z k s' hk' hs']
    · rw [List.mem_singleton.1 hs]
      exact ⟨A, n1, c1, hqs⟩
    · injection hc with hc
      injection hc with e1 e2
      subst e1 e2
      exact ⟨Nat.zero_le _, by simp, by rw [hq']; rfl, hold.2⟩
  · exact ⟨by rw [upd_same]; simp, by rw [upd_same]; rfl, _, _, _, rfl⟩

theorem appendXE_sound (H : HRel MX w ρ hp) {T T2 ty : TypeId} {s x : AV} {vs vx : Value} (hs : R (Mut MX hp ρ) w ρ hp s vs) (hx : R (Mut MX hp ρ) w ρ hp x vx) (hk : (appendXE P T T2 s x).go b hp rs ws K = some r) :
    ∃ x b' hp' rs' ws' v' w' ρ', K x b' hp' rs' ws' = some r ∧ (Builtin.append_ #[T, T2] ty #[vs, vx]).run P w = .ok v' w' ∧ Step MX w ρ hp w' ρ' hp' ∧ R (Mut MX hp' ρ') w' ρ' hp' x v' := by
  unfold appendXE at hk
  split at hk
  · rename_i p
    simp only [Eff.go] at hk
    split at hk
    · rename_i o e be t l' q hp_
      obtain ⟨_, e1, _⟩ := hx
      rw [e1]
      exact appendT_sound H hp_ hs hk
    · rename_i o e be t y hp_
      obtain ⟨_, e1, _⟩ := hx
      rw [e1]
      exact appendN_sound H hp_ hs hk
    · exact appendE_sound H hs hx hk
  · exact appendE_sound H hs hx hk

theorem minE_sound {M : Nat → Prop} {lt : Bool} {x y : AV} {vx vy : Value} {T1 : Array TypeId} {t0 : TypeId} (hx : R M w ρ hp x vx) (hy : R M w ρ hp y vy) (hk : (minE lt x y).go b hp rs ws K = some r) :
    ∃ z v, K z b hp rs ws = some r ∧ (match lt with | true => Builtin.min_ T1 t0 #[vx, vy] | false => Builtin.max_ T1 t0 #[vx, vy]).run P w = .ok v w ∧ R M w ρ hp z v := by
  unfold minE at hk
  split at hk
  case h_2 => cases hk
  rw [show vx = _ from hx, show vy = _ from hy]
  split at hk
  · exact ⟨_, _, hk, by simp [Builtin.min_, Builtin.min2], rfl⟩
  · exact ⟨_, _, hk, by simp [Builtin.max_, Builtin.max2], rfl⟩
end
end Go.Proofs.YtbpeiilildchlaaGreatDoor.Abs
namespace Go.Proofs.YtbpeiilildchlaaGreatDoor.Abs
open Go Go.RowKit
set_option linter.unusedVariables false
set_option linter.unusedSectionVars false
set_option linter.unusedSimpArgs false

section
variable {Rt : Type} {P : Program} {MX : Nat → Prop} {w : World} {ρ : Nat → Value} {hp : Heap} {b : Nat} {rs ws : List Nat} {K : AV → Nat → Heap → List Nat → List Nat → Option Rt} {r : Rt}

theorem isBytesConv_some {S T : TypeId} (h : isBytesConv P S T = true) : ∃ e, P.underlying S = some .string ∧ P.underlying T = some (.slice e) ∧ P.underlying e = some (.int .u8) := by
  unfold isBytesConv at h
  split at h
  · rename_i e hS hT
    split at h
    · rename_i he; exact ⟨e, hS, hT, he⟩
    · cases h
  · cases h

theorem Off.bytes (M : Nat → Prop) (w : World) (e : TypeId) (s : ByteArray) : Off M w (Lib.bytesWorld w e s) :=
  ⟨rfl, rfl, rfl, by rw [Lib.bytesWorld_size]; omega, fun b hb _ => Lib.bytesWorld_at_old w e s b hb⟩

/-- A new block in a world that is as it was for what was there. -/
theorem Step.fresh {w' : World} (H : HRel MX w ρ hp) {i : Nat} (hu : hp i = .unused) {h : HE} {v : Value} (hb : At v = fun b => (some w.heap.size : Option Nat) = some b) (off : ∀ M, Off M w w')
    (ok : ∀ (M : Nat → Prop) (ρ' : Nat → Value) (hp' : Heap), ρ' i = v → HEok M w' ρ' hp' i h) :
    Step MX w ρ hp w' (upd ρ i v) (upd hp i h) := by
  have old : ∀ j, hp j ≠ .unused → Old (ρ j) (upd ρ i v j) ∧ upd hp i h j ≠ .unused := by
    intro j hj
    have hne : j ≠ i := fun e => hj (e ▸ hu)
    rw [upd_ne _ _ hne, upd_ne _ _ hne]
    exact ⟨Old.refl _, hj⟩
  have lvi : ∀ j b, live (upd hp i h j) → At (upd ρ i v j) b → (j = i ∧ b = w.heap.size) ∨ (j ≠ i ∧ live (hp j) ∧ At (ρ j) b) := by
    intro j b hl hb'
    by_cases hji : j = i
    · subst hji; rw [upd_same, hb] at hb'; exact .inl ⟨rfl, by injection hb' with e; exact e.symm⟩
    · rw [upd_ne _ _ hji] at hl hb'; exact .inr ⟨hji, hl, hb'⟩
  refine Step.mk' (D := fun _ => False) H (off _) (fun _ _ hf => hf.elim) old ?_ ?_ ?_ ?_ (fun j cs hj => .inl ⟨upd_ne _ _ (fun e => by rw [e, hu] at hj; cases hj), fun _ _ h => h⟩)
  · rintro b hlt ⟨j, hl, hbj⟩
    rcases lvi j b hl hbj with ⟨_, e⟩ | ⟨_, hl', hb'⟩
    · omega
    · exact ⟨j, hl', hb'⟩
  · intro j
    by_cases hji : j = i
    · subst hji
      refine .inr ?_
      rw [upd_same]
      exact ok _ _ _ (upd_same _ _ _)
    · exact .inl ⟨upd_ne _ _ hji, upd_ne _ _ hji, fun _ _ _ hf => hf⟩
  · intro j j' b hl hl' hbj hbj'
    rcases lvi j b hl hbj with ⟨rfl, e⟩ | ⟨_, hl1, hb1⟩ <;> rcases lvi j' b hl' hbj' with ⟨rfl, e'⟩ | ⟨_, hl2, hb2⟩
    · rfl
    · have := H.lt hl2 hb2; omega
    · have := H.lt hl1 hb1; omega
    · exact H.sep j j' b hl1 hl2 hb1 hb2
  · intro j b hl hbj hmx
    rcases lvi j b hl hbj with ⟨_, e⟩ | ⟨_, hl', hb'⟩
    · have := H.mx b hmx; omega
    · exact H.ext j b hl' hb' hmx

theorem conv2E_sound (H : HRel MX w ρ hp) {S T : TypeId} {x : AV} {vx : Value} (hx : R (Mut MX hp ρ) w ρ hp x vx) (hk : (conv2E P S T x).go b hp rs ws K = some r) :
    ∃ x b' hp' rs' ws' v w' ρ', K x b' hp' rs' ws' = some r ∧ (convert S T vx).run P w = .ok v w' ∧ Step MX w ρ hp w' ρ' hp' ∧ R (Mut MX hp' ρ') w' ρ' hp' x v := by
  unfold conv2E at hk
  split at hk
  · rename_i hB
    obtain ⟨e, hS, hT, he⟩ := isBytesConv_some hB
    unfold bytesE at hk
    split at hk
    case h_2 => cases hk
    rename_i s
    rw [show vx = _ from hx]
    simp only [Eff.go] at hk
    split at hk
    case h_2 => cases hk
    rename_i hu
    have hlen : (numsOf s).length ≤ grownCap w s.size 0 e := by rw [numsOf_length]; exact grownCap_ge w s.size 0 e
    refine ⟨_, _, _, _, _, _, _, upd ρ b (.slice (some ⟨w.heap.size, 0, none⟩) s.size (grownCap w s.size 0 e)), hk, Lib.run_convert_string_bytes w S T e s hS hT he, Step.fresh H hu rfl (fun M => Off.bytes M w e s) ?_, ?_⟩
    · intro M ρ' hp' hv
      exact ⟨w.heap.size, _, by rw [hv, numsOf_length], hlen, BRow.of_bytes w e s (grownCap_ge w s.size 0 e)⟩
    · exact ⟨by rw [upd_same]; simp, by rw [upd_same]; rfl, _, _, _, rfl⟩
  · obtain ⟨x, v, rs', h1, h2, h3⟩ := convE_sound H hx hk
    exact ⟨x, b, hp, rs', ws, v, w, ρ, h1, h2, Step.refl H, h3⟩

theorem val1_enc : (t : Ty) → {z : Value} → {x : t.den} → t.val1 z = some x → z = t.enc1 x
  | .int k, .int k' n, x, h => by
    simp only [Ty.val1] at h
    split at h
    · rename_i e _
      subst e
      injection h with h
      subst h; rfl
    · cases h
  | .bool, .bool b, x, h => by
    simp only [Ty.val1] at h
    injection h with h
    subst h; rfl
  | .str, .string s, x, h => by
    simp only [Ty.val1] at h
    injection h with h
    subst h; rfl
  | .int k, .bool _, _, h => by cases h
  | .int k, .string _, _, h => by cases h
  | .int k, .float .., _, h => by cases h
  | .int k, .complex .., _, h => by cases h
  | .int k, .pointer .., _, h => by cases h
  | .int k, .slice .., _, h => by cases h
  | .int k, .map .., _, h => by cases h
  | .int k, .chan .., _, h => by cases h
  | .int k, .func .., _, h => by cases h
  | .int k, .nilFunc, _, h => by cases h
  | .int k, .iface .., _, h => by cases h
  | .int k, .nilIface, _, h => by cases h
  | .int k, .agg .., _, h => by cases h
  | .int k, .tuple .., _, h => by cases h

/-- A value of a kind that a map holds. -/
theorem flat_enc {M : Nat → Prop} {w : World} {ρ : Nat → Value} {hp : Heap} {t : Ty} {z : Value} {zx : t.den} (hz : t.val1 z = some zx) {x : AV} {vx : Value} {cs : List AV} {v : t.den} (hx : R M w ρ hp x vx) (hc : cellsOf x = some cs) (hna : (∀ a, x ≠ .v (.agg a)) ∧ ∀ a, x ≠ .agg a) (hd : t.dec cs = some v) : vx = t.enc1 v := by
  obtain ⟨vs, hvs, hr⟩ := cellsOf_sound hx hc
  have hcs : cs = [x] := by
    unfold cellsOf at hc
    split at hc
    · exact absurd rfl (hna.1 _)
    · cases hc
    · exact absurd rfl (hna.2 _)
    · cases hc
    · cases hc
    · injection hc with hc; exact hc.symm
  subst hcs
  obtain ⟨v0, q, rfl, hv0, hq⟩ := hr
  cases hq
  have hkr := dec_sound (M := M) (w := w) (ρ := ρ) (hp := hp) (vs := [vx]) t hd ⟨_, _, rfl, hx, rfl⟩
  cases t with
  | int k => have hkr : [vx] = [.int k v] := hkr; injection hkr
  | bool => have hkr : [vx] = [.bool v] := hkr; injection hkr
  | str => have hkr : [vx] = [.string v] := hkr; injection hkr
  | sl t => cases z <;> cases hz
  | pair a b => cases z <;> cases hz

theorem mapTy_some {T : TypeId} {m : MapTy} (h : mapTy P T = some m) : ∃ K i z, P.underlying T = some (.map K m.V) ∧ P.underlying K = some (.int .i64) ∧ P.info? m.V = some i ∧ i.zero = some z ∧ m.t.val1 z = some m.z := by
  unfold mapTy at h
  split at h
  case h_2 => cases h
  rename_i K V hT
  split at h
  case h_2 => cases h
  rename_i t z hK ht hz
  split at h
  case h_2 => cases h
  rename_i z0 hz0
  injection h with h
  subst h
  cases hi : P.info? V with
  | none => rw [hi] at hz; cases hz
  | some i =>
    rw [hi] at hz
    exact ⟨K, i, z, hT, hK, rfl, hz, hz0⟩

theorem makeMapE_sound (H : HRel MX w ρ hp) {T : TypeId} (hk : (makeMapE P T).go b hp rs ws K = some r) :
    ∃ x b' hp' rs' ws' v w' ρ', K x b' hp' rs' ws' = some r ∧ (Instr.makeMap T none).run P w = .ok v w' ∧ Step MX w ρ hp w' ρ' hp' ∧ R (Mut MX hp' ρ') w' ρ' hp' x v := by
  unfold makeMapE at hk
  split at hk
  case h_2 => cases hk
  rename_i m hm
  simp only [Eff.go] at hk
  split at hk
  case h_2 => cases hk
  rename_i hu
  refine ⟨_, _, _, _, _, .map (some w.heap.size), w.alloc (.map #[] 0), upd ρ b (.map (some w.heap.size)), hk, by simp [Instr.makeMap, newObj, Sem.run], Step.fresh H hu rfl (fun M => Off.alloc M w _) ?_, ?_⟩
  · intro M ρ' hp' hv
    exact ⟨w.heap.size, hv, MapI.made (heap_alloc_new w _)⟩
  · exact ⟨by rw [upd_same]; simp, by rw [upd_same], _, rfl⟩

theorem mapPutE_sound (H : HRel MX w ρ hp) {T : TypeId} {m k x : AV} {vm vk vx : Value} (hm : R (Mut MX hp ρ) w ρ hp m vm) (hkk : R (Mut MX hp ρ) w ρ hp k vk) (hx : R (Mut MX hp ρ) w ρ hp x vx) (hk : (mapPutE P T m k x).go b hp rs ws K = some r) :
    ∃ b' hp' rs' ws' w' ρ', K (.v undef) b' hp' rs' ws' = some r ∧ (Instr.mapUpdate T vm vk vx).run P w = .ok () w' ∧ Step MX w ρ hp w' ρ' hp' := by
  unfold mapPutE at hk
  split at hk
  case h_2 => cases hk
  rename_i mt i n cs hmt hcs
  obtain ⟨KT, inf, z, hT, hK, hi, hz, hz0⟩ := mapTy_some hmt
  obtain ⟨hne, rfl, b0, hv⟩ := hm
  rw [show vk = _ from hkk]
  simp only [Eff.go] at hk
  have hok := H.ok i
  split at hk
  case h_2 => cases hk
  rename_i t f hmp
  rw [hmp] at hok
  obtain ⟨b1, g1, g2⟩ := hok
  rw [hv] at g1
  injection g1 with g1
  injection g1 with g1
  subst g1
  split at hk
  case h_2 => cases hk
  rename_i htt v _ hall hdec
  subst htt
  split at hk
  · cases hk
  · cases hk
  rename_i hna1 hna2
  simp only [Eff.go] at hk
  have hvx := flat_enc hz0 hx hcs ⟨fun a e => hna1 a e, fun a e => hna2 a e⟩ hdec
  obtain ⟨w', hrun, hmi, hgr, hsz⟩ := g2.put (P := P) hT hK n v
  refine ⟨_, _, _, _, w', ρ, hk, by rw [hv, hvx]; exact hrun, Step.write H (fun _ => by rw [hmp]; trivial) (by simp) (fun cs h => by rw [hmp] at h; cases h) ?_ ?_⟩
  · exact (Off.grown hgr).mono fun b _ hb => ⟨by rw [hmp]; trivial, by rw [hv]; exact hb⟩
  · intro hp' hp'u M hM hMl _
    exact ⟨b0, hv, hmi⟩

theorem lookupE_sound (H : HRel MX w ρ hp) {T : TypeId} {m k : AV} {vm vk : Value} (hm : R (Mut MX hp ρ) w ρ hp m vm) (hkk : R (Mut MX hp ρ) w ρ hp k vk) (hk : (lookupE P T m k).go b hp rs ws K = some r) :
    ∃ x v rs', K x b hp rs' ws = some r ∧ (Instr.lookup T vm vk false).run P w = .ok v w ∧ R (Mut MX hp ρ) w ρ hp x v := by
  unfold lookupE at hk
  split at hk
  case h_2 => cases hk
  rename_i mt i n hmt
  obtain ⟨KT, inf, z, hT, hK, hi, hz, hz0⟩ := mapTy_some hmt
  obtain ⟨hne, rfl, b0, hv⟩ := hm
  rw [show vk = _ from hkk]
  simp only [Eff.go] at hk
  have hok := H.ok i
  split at hk
  case h_2 => cases hk
  rename_i t f hmp
  rw [hmp] at hok
  obtain ⟨b1, g1, g2⟩ := hok
  rw [hv] at g1
  injection g1 with g1
  injection g1 with g1
  subst g1
  split at hk
  case h_2 => cases hk
  rename_i htt _
  subst htt
  split at hk
  case h_2 => cases hk
  rename_i c hc
  have hzv : (zeroValue mt.V).run P w = .ok z w := by simp [zeroValue, typeInfo, hi, hz]
  have hze := val1_enc mt.t hz0
  have hlook := g2.look (P := P) hT hK hzv n
  refine ⟨_, _, _, hk, by rw [hv]; exact hlook, ?_⟩
  have he : ((f n).map mt.t.enc1).getD z = mt.t.enc1 ((f n).getD mt.z) := by
    rw [hze]
    cases f n <;> rfl
  rw [he]
  have hcells : ∀ {y : mt.t.den}, mt.t.cells y = [c] → R (Mut MX hp ρ) w ρ hp c (mt.t.enc1 y) := by
    intro y hy
    obtain ⟨V, t, zz⟩ := mt
    cases t with
    | int k => have hy : [AV.v (.int k y)] = [c] := hy; injection hy with hy; subst hy; rfl
    | bool => have hy : [AV.bs false y] = [c] := hy; injection hy with hy; subst hy; rfl
    | str => have hy : [AV.v (.string y)] = [c] := hy; injection hy with hy; subst hy; rfl
    | sl t => cases z <;> cases hz0
    | pair a b => cases z <;> cases hz0
  exact hcells hc

theorem copyE_sound (H : HRel MX w ρ hp) {T T2 ty : TypeId} {d x : AV} {vd vx : Value} (hd : R (Mut MX hp ρ) w ρ hp d vd) (hx : R (Mut MX hp ρ) w ρ hp x vx) (hk : (copyE P T d x).go b hp rs ws K = some r) :
    ∃ x b' hp' rs' ws' v w' ρ', K x b' hp' rs' ws' = some r ∧ (Builtin.copy_ #[T, T2] ty #[vd, vx]).run P w = .ok v w' ∧ Step MX w ρ hp w' ρ' hp' ∧ R (Mut MX hp' ρ') w' ρ' hp' x v := by
  unfold copyE at hk
  split at hk
  case h_2 => cases hk
  rename_i e i lo s hT
  split at hk
  case h_2 => cases hk
  rename_i n hn
  split at hk
  case h_2 => cases hk
  rename_i hn1
  have hn1 := Nat.eq_of_beq_eq_true hn1
  subst hn1
  obtain ⟨hne, g, n0, c, c', A, hv, hlo, rfl, hA, _⟩ := hd
  rw [show vx = _ from hx]
  simp only [Eff.go] at hk
  have hok := H.ok i
  split at hk
  case h_2 => cases hk
  rename_i l hi
  rw [hi] at hok
  obtain ⟨g', c1, h1, hle, h3⟩ := hok
  rw [hv] at h1
  injection h1 with e1 e2 e3
  injection e1 with e1
  injection e1 with e1
  subst e1 e2
  simp only [Eff.go] at hk
  have hdat : List.take (Nat.min s.size (l.length - lo)) (List.map (fun b : UInt8 => Value.int .u8 b.toNat) s.data.toList) = ((numsOf s).take (l.length - lo)).map (Value.int .u8) := by
    have hl : (List.map (fun b : UInt8 => Value.int .u8 b.toNat) s.data.toList).length = s.size := by simp
    rw [List.map_take, numsOf, List.map_map]
    show List.take (min s.size (l.length - lo)) _ = List.take (l.length - lo) (List.map (fun b : UInt8 => Value.int .u8 b.toNat) s.data.toList)
    rw [Nat.min_comm, ← hl, ← List.take_eq_take_min]
  have hyl : ((numsOf s).take (l.length - lo)).length = min s.size (l.length - lo) := by rw [List.length_take, numsOf_length]; omega
  obtain ⟨W', r1, r2, r3, r4, r5, r6, r7⟩ := run_store_bytes (P := P) ((numsOf s).take (l.length - lo)) h3 lo 0 (by rw [hyl]; omega)
  rw [Nat.add_zero] at r2
  have hrun : (Builtin.copy_ #[T, T2] ty #[.slice (some A) (l.length - lo) c', .string s]).run P w = .ok (goInt ((min s.size (l.length - lo) : Nat) : Int)) W' := by
    by_cases hz : lo < l.length
    · rw [hA hz]
      have r1' := r1
      rw [List.map_take] at r1'
      simp only [Builtin.copy_]
      simp [run_underlying hT, Builtin.lenOf, run_sizeOf hn, Builtin.firstCells, hdat, r1', Result.andThen]
    · have h0 : l.length - lo = 0 := by omega
      have hW : W' = w := by
        have r1' := r1
        rw [h0] at r1'
        simp [storeCells] at r1'
        exact r1'.symm
      subst hW
      simp [Builtin.copy_, run_underlying hT, Builtin.lenOf, run_sizeOf hn, Builtin.firstCells, h0, storeCells]
  refine ⟨_, _, _, _, _, _, W', ρ, hk, hrun, Step.write H (fun _ => by rw [hi]; trivial) (by simp) (fun cs h => by rw [hi] at h; cases h) ?_ ?_, rfl⟩
  · exact ⟨r4, r5, r6, by rw [r3]; exact Nat.le_refl _, fun b _ hb => r7 b fun e => hb ⟨by rw [hi]; trivial, by rw [hv, e]; rfl⟩⟩
  · intro hp' hp'u M hM hMl _
    have hcp : l.take lo ++ ((numsOf s).take (l.length - lo) ++ l.drop (lo + ((numsOf s).take (l.length - lo)).length)) = cpy l lo s := by rw [hyl]; rfl
    rw [hcp] at r2
    have hcl : (cpy l lo s).length = l.length := by
      rw [← hcp]
      simp only [List.length_append, List.length_drop, hyl, List.length_take]
      omega
    exact ⟨g, c, by rw [hcl]; exact hv, by rw [hcl, e3]; exact hle, by rw [e3]; exact r2⟩
end
end Go.Proofs.YtbpeiilildchlaaGreatDoor.Abs
namespace Go.Proofs.YtbpeiilildchlaaGreatDoor.Abs
open Go Go.RowKit
set_option linter.unusedVariables false
set_option linter.unusedSectionVars false
set_option linter.unusedSimpArgs false

def shift : Value → Nat → Value
  | .pointer (some a), off => .pointer (some ⟨a.block, a.off + off, none⟩)
  | v, _ => v

theorem shift_zero {A : Option Addr} {n c : Nat} : shift (.slice A n c) 0 = .slice A n c := rfl
theorem shift_tuple (a : Array Value) (off : Nat) : shift (.tuple a) off = .tuple a := rfl
theorem shift_not {v : Value} {off : Nat} (h : ∀ a, v ≠ .tuple a) : ∀ a, shift v off ≠ .tuple a := by
  intro a e
  unfold shift at e
  split at e
  · cases e
  · exact h a e
theorem hd_shift {v : Value} {A : Option Addr} {n c : Nat} (h : hd v = .slice A n c) (off : Nat) : hd (shift v off) = hd v := by
  unfold shift
  split
  · cases h
  · rfl
theorem shift_own {v : Value} {A : Option Addr} {n c : Nat} (h : hd v = .slice A n c) : shift v 0 = v := by
  unfold shift
  split
  · cases h
  · rfl
theorem blk_shift (v : Value) (off : Nat) : At (shift v off) = At v := by
  unfold shift
  split <;> rfl

theorem hpOf_eq (H : List HE) (k : Nat) : hpOf H k = (H[k]?).getD .unused := by
  unfold hpOf
  cases H[k]? <;> rfl

/-- Where the packed entries stand. d: for those without a place of their own. -/
def rhoS (ρ d : Nat → Value) (m : List (Option (Nat × Nat))) (k : Nat) : Value :=
  match m[k]? with
  | some (some (i, off)) => shift (ρ i) off
  | _ => d k

theorem at_src {ρ d : Nat → Value} {m : List (Option (Nat × Nat))} {k i off b : Nat} (h1 : m[k]? = some (some (i, off))) (h : At (rhoS ρ d m k) b) : At (ρ i) b := by
  unfold rhoS at h
  rw [h1] at h
  exact (congrFun (blk_shift (ρ i) off) b) ▸ h

theorem findM_some {i : Nat} : {m : List (Option (Nat × Nat))} → {k n off : Nat} → findM i k m = some (n, off) → ∃ j, n = k + j ∧ m[j]? = some (some (i, off))
  | [], _, _, _, h => by cases h
  | some (j, o) :: r, k, n, off, h => by
    unfold findM at h
    split at h
    · rename_i hb
      have := Nat.eq_of_beq_eq_true hb
      subst this
      injection h with h
      injection h with h1 h2
      subst h1 h2
      exact ⟨0, rfl, rfl⟩
    · obtain ⟨j, h1, h2⟩ := findM_some h
      exact ⟨j + 1, by omega, by simpa using h2⟩
  | none :: r, k, n, off, h => by
    obtain ⟨j, h1, h2⟩ := findM_some (m := r) h
    exact ⟨j + 1, by omega, by simpa using h2⟩

theorem findM_none {i : Nat} : {m : List (Option (Nat × Nat))} → {k : Nat} → findM i k m = none → ∀ (j off : Nat), m[j]? ≠ some (some (i, off))
  | [], _, _, j, off => by simp
  | some (j', o) :: r, k, h, j, off => by
    unfold findM at h
    split at h
    · cases h
    · rename_i hb
      cases j with
      | zero =>
        intro e
        simp at e
        obtain ⟨e1, _⟩ := e
        subst e1
        have : Nat.beq j' j' = true := Nat.beq_refl j'
        rw [hb] at this
        cases this
      | succ j => intro e; exact findM_none h j off (by simpa using e)
  | none :: r, k, h, j, off => by
    cases j with
    | zero => simp
    | succ j => intro e; exact findM_none (m := r) h j off (by simpa using e)

section
variable (MX : Nat → Prop) (w : World) (ρ d : Nat → Value) (hp : Heap)

/-- What may be written, less what has been lent. -/
def Ms (lent : List Nat) (b : Nat) : Prop := Mut MX hp ρ b ∧ ¬ ∃ i, i ∈ lent ∧ At (ρ i) b

/-- What an entry was packed from. -/
def Kind (hp : Heap) (i off : Nat) (h : HE) : Prop :=
  h = .gone ∨ (∃ cs cs', h = .box cs ∧ hp i = .box cs' ∧ off + cs.length ≤ cs'.length) ∨ (hp i = h ∧ off = 0 ∧ ∀ cs, h ≠ .box cs) ∨ (∃ T c c', h = .bld T c ∧ hp i = .bld T c' ∧ off = 0) ∨ (off = 0 ∧ (∀ cs, h ≠ .box cs) ∧ ∀ cs, hp i ≠ .box cs)

/-- What holds of what has been packed. -/
structure PI (s : PS) : Prop where
  len : s.m.length = s.H.length
  ok : ∀ (k : Nat) (h : HE), s.H[k]? = some h → h ≠ .unused ∧ HEok (Ms MX ρ hp s.lent) w (rhoS ρ d s.m) (hpOf s.H) k h
  src : ∀ (k : Nat) (h : HE), s.H[k]? = some h → live h → (∃ i off, s.m[k]? = some (some (i, off)) ∧ live (hp i)) ∨ (∀ b, ¬ At (rhoS ρ d s.m k) b)
  inj : ∀ (k k' i off off' : Nat), s.m[k]? = some (some (i, off)) → s.m[k']? = some (some (i, off')) → k = k'
  apart : ∀ (k i off : Nat), s.m[k]? = some (some (i, off)) → i ∉ s.lent
  rows : ∀ i, i ∈ s.lent → live (hp i)
  liv : ∀ (k i off : Nat), s.m[k]? = some (some (i, off)) → live (hp i)
  kind : ∀ (k i off : Nat) (h : HE), s.m[k]? = some (some (i, off)) → s.H[k]? = some h → Kind hp i off h

/-- Packed further. -/
structure Ext (s s' : PS) : Prop where
  m : ∃ r, s'.m = s.m ++ r
  H : ∀ (k : Nat), k < s.H.length → s'.H[k]? = s.H[k]?
  le : s.H.length ≤ s'.H.length
  lent : ∀ i, i ∈ s.lent → i ∈ s'.lent
end

theorem Ext.refl (s : PS) : Ext s s := ⟨⟨[], by simp⟩, fun _ _ => rfl, Nat.le_refl _, fun _ h => h⟩
theorem Ext.trans {a b c : PS} (h : Ext a b) (g : Ext b c) : Ext a c := by
  obtain ⟨r1, e1⟩ := h.m
  obtain ⟨r2, e2⟩ := g.m
  exact ⟨⟨r1 ++ r2, by rw [e2, e1, List.append_assoc]⟩, fun k hk => (g.H k (Nat.lt_of_lt_of_le hk h.le)).trans (h.H k hk), Nat.le_trans h.le g.le, fun i hi => g.lent i (h.lent i hi)⟩

section
variable {MX : Nat → Prop} {w : World} {ρ d : Nat → Value} {hp : Heap}

/-- Related in a packed state. -/
abbrev RP (MX : Nat → Prop) (w : World) (ρ d : Nat → Value) (hp : Heap) (s : PS) (a : AV) (y : Value) : Prop := R (Ms MX ρ hp s.lent) w (rhoS ρ d s.m) (hpOf s.H) a y
abbrev RPs (MX : Nat → Prop) (w : World) (ρ d : Nat → Value) (hp : Heap) (s : PS) (a : List AV) (y : List Value) : Prop := Rs (Ms MX ρ hp s.lent) w (rhoS ρ d s.m) (hpOf s.H) a y

theorem ext_old {s s' : PS} (hl : s.m.length = s.H.length) (h : Ext s s') (hnu : ∀ (k : Nat) (h : HE), s.H[k]? = some h → h ≠ .unused) : ∀ k, hpOf s.H k ≠ .unused → rhoS ρ d s'.m k = rhoS ρ d s.m k ∧ hpOf s'.H k ≠ .unused := by
  intro k hk
  have hlt : k < s.H.length := by
    rcases Nat.lt_or_ge k s.H.length with h' | h'
    · exact h'
    · rw [hpOf_eq, List.getElem?_eq_none h'] at hk
      exact absurd rfl hk
  obtain ⟨r, e⟩ := h.m
  refine ⟨?_, ?_⟩
  · unfold rhoS
    rw [e, List.getElem?_append_left (by omega)]
  · rw [hpOf_eq, h.H k hlt, ← hpOf_eq]
    exact hk

theorem Ms_mono {l l' : List Nat} (h : ∀ i, i ∈ l → i ∈ l') : ∀ b, b < w.heap.size → Ms MX ρ hp l' b → Ms MX ρ hp l b :=
  fun _ _ ⟨h1, h2⟩ => ⟨h1, fun ⟨i, hi, hb⟩ => h2 ⟨i, h i hi, hb⟩⟩

theorem RP_ext {s s' : PS} (hi : PI MX w ρ d hp s) (h : Ext s s') {a : AV} {y : Value} (hr : RP MX w ρ d hp s a y) : RP MX w ρ d hp s' a y :=
  R_step (D := fun _ => False) (Off.refl _ _) (fun _ _ h => h.elim) (Ms_mono h.lent) (fun k hk => (ext_old hi.len h (fun k h' hk => (hi.ok k h' hk).1) k hk).imp .inl id) a hr
theorem RPs_ext {s s' : PS} (hi : PI MX w ρ d hp s) (h : Ext s s') {a : List AV} {y : List Value} (hr : RPs MX w ρ d hp s a y) : RPs MX w ρ d hp s' a y :=
  Rs_step (D := fun _ => False) (Off.refl _ _) (fun _ _ h => h.elim) (Ms_mono h.lent) (fun k hk => (ext_old hi.len h (fun k h' hk => (hi.ok k h' hk).1) k hk).imp .inl id) a hr

theorem lt_of_get {α : Type} {l : List α} {k : Nat} {x : α} (h : l[k]? = some x) : k < l.length := (List.getElem?_eq_some_iff.1 h).1

/-- A new entry at the end. -/
theorem PI_push {s : PS} (hi : PI MX w ρ d hp s) {p : Option (Nat × Nat)} {h : HE} (hnu : h ≠ .unused) (hfresh : ∀ i off, p = some (i, off) → (∀ (j off' : Nat), s.m[j]? ≠ some (some (i, off'))) ∧ i ∉ s.lent ∧ live (hp i) ∧ Kind hp i off h)
    (hsrc : live h → (∃ i off, p = some (i, off) ∧ live (hp i)) ∨ (∀ b, ¬ At (rhoS ρ d (s.m ++ [p]) s.m.length) b))
    (hok : HEok (Ms MX ρ hp s.lent) w (rhoS ρ d (s.m ++ [p])) (hpOf (s.H ++ [h])) s.m.length h) :
    PI MX w ρ d hp { s with m := s.m ++ [p], H := s.H ++ [h] } ∧ Ext s { s with m := s.m ++ [p], H := s.H ++ [h] } := by
  have hext : Ext s { s with m := s.m ++ [p], H := s.H ++ [h] } := ⟨⟨[p], rfl⟩, fun k hk => by simp only []; rw [List.getElem?_append_left hk], by simp, fun _ h => h⟩
  have old := ext_old (ρ := ρ) (d := d) hi.len hext (fun k h' hk => (hi.ok k h' hk).1)
  refine ⟨⟨by simp [hi.len], fun k h' hk => ?_, fun k h' hk hl => ?_, fun k k' i off off' h1 h2 => ?_, fun k i off h1 => ?_, hi.rows, fun k i off h1 => ?_, fun k i off h' h1 h2 => ?_⟩, hext⟩
  · simp only [] at hk
    by_cases hlt : k < s.H.length
    · rw [List.getElem?_append_left hlt] at hk
      refine ⟨(hi.ok k h' hk).1, ?_⟩
      have hu : hpOf s.H k ≠ .unused := by rw [hpOf_eq, hk]; exact (hi.ok k h' hk).1
      exact HEok_step (D := fun _ => False) (Off.refl _ _) (fun _ _ h => h.elim) (fun _ _ h => h) (fun k hk => (old k hk).imp .inl id) (old k hu).1 (fun _ _ _ h => h) (hi.ok k h' hk).2
    · have hke : k = s.H.length := by
        have := lt_of_get hk
        simp at this
        omega
      subst hke
      rw [List.getElem?_append_right (Nat.le_refl _)] at hk
      simp at hk
      subst hk
      rw [← hi.len]
      exact ⟨hnu, hok⟩
  · simp only [] at hk ⊢
    by_cases hlt : k < s.H.length
    · rw [List.getElem?_append_left hlt] at hk
      rcases hi.src k h' hk hl with ⟨i, off, h1, h2⟩ | h1
      · left
        exact ⟨i, off, by rw [List.getElem?_append_left (by rw [hi.len]; exact hlt)]; exact h1, h2⟩
      · right
        have hu : hpOf s.H k ≠ .unused := by rw [hpOf_eq, hk]; exact (hi.ok k h' hk).1
        rw [(old k hu).1]
        exact h1
    · have hke : k = s.H.length := by
        have := lt_of_get hk
        simp at this
        omega
      subst hke
      rw [List.getElem?_append_right (Nat.le_refl _)] at hk
      simp at hk
      subst hk
      rw [← hi.len]
      rcases hsrc hl with ⟨i, off, h1, h2⟩ | h1
      · exact .inl ⟨i, off, by rw [List.getElem?_append_right (Nat.le_refl _), h1]; simp, h2⟩
      · exact .inr h1
  · simp only [] at h1 h2
    by_cases hlt : k < s.m.length <;> by_cases hlt' : k' < s.m.length
    · rw [List.getElem?_append_left hlt] at h1
      rw [List.getElem?_append_left hlt'] at h2
      exact hi.inj k k' i off off' h1 h2
    · rw [List.getElem?_append_left hlt] at h1
      have hke : k' = s.m.length := by have := lt_of_get h2; simp at this; omega
      subst hke
      rw [List.getElem?_append_right (Nat.le_refl _)] at h2
      simp at h2
      exact absurd h1 ((hfresh i off' h2).1 k off)
    · rw [List.getElem?_append_left hlt'] at h2
      have hke : k = s.m.length := by have := lt_of_get h1; simp at this; omega
      subst hke
      rw [List.getElem?_append_right (Nat.le_refl _)] at h1
      simp at h1
      exact absurd h2 ((hfresh i off h1).1 k' off')
    · have hke : k = s.m.length := by have := lt_of_get h1; simp at this; omega
      have hke' : k' = s.m.length := by have := lt_of_get h2; simp at this; omega
      omega
  · simp only [] at h1
    by_cases hlt : k < s.m.length
    · rw [List.getElem?_append_left hlt] at h1
      exact hi.apart k i off h1
    · have hke : k = s.m.length := by have := lt_of_get h1; simp at this; omega
      subst hke
      rw [List.getElem?_append_right (Nat.le_refl _)] at h1
      simp at h1
      exact (hfresh i off h1).2.1
  · simp only [] at h1
    by_cases hlt : k < s.m.length
    · rw [List.getElem?_append_left hlt] at h1
      exact hi.liv k i off h1
    · have hke : k = s.m.length := by have := lt_of_get h1; simp at this; omega
      subst hke
      rw [List.getElem?_append_right (Nat.le_refl _)] at h1
      simp at h1
      exact (hfresh i off h1).2.2.1
  · simp only [] at h1 h2
    by_cases hlt : k < s.m.length
    · rw [List.getElem?_append_left hlt] at h1
      rw [List.getElem?_append_left (by rw [← hi.len]; exact hlt)] at h2
      exact hi.kind k i off h' h1 h2
    · have hke : k = s.m.length := by have := lt_of_get h1; simp at this; omega
      subst hke
      rw [List.getElem?_append_right (Nat.le_refl _)] at h1
      rw [hi.len, List.getElem?_append_right (Nat.le_refl _)] at h2
      simp at h1 h2
      subst h2
      exact (hfresh i off h1).2.2.2

/-- An entry is filled in. -/
theorem PI_set {s : PS} (hi : PI MX w ρ d hp s) {k : Nat} {h : HE} (hk : s.H[k]? = some .gone) (hnu : h ≠ .unused) (hsrc : live h → (∃ i off, s.m[k]? = some (some (i, off)) ∧ live (hp i)) ∨ (∀ b, ¬ At (rhoS ρ d s.m k) b)) (hkind : ∀ i off, s.m[k]? = some (some (i, off)) → Kind hp i off h)
    (hok : HEok (Ms MX ρ hp s.lent) w (rhoS ρ d s.m) (hpOf s.H) k h) : PI MX w ρ d hp { s with H := s.H.set k h } ∧ (∀ j, hpOf (s.H.set k h) j ≠ .unused ↔ hpOf s.H j ≠ .unused) := by
  have hlt := lt_of_get hk
  have hu : ∀ j, hpOf (s.H.set k h) j ≠ .unused ↔ hpOf s.H j ≠ .unused := by
    intro j
    rw [hpOf_eq, hpOf_eq]
    by_cases hj : j = k
    · subst hj
      rw [List.getElem?_set_self hlt, hk]
      simp [hnu]
    · rw [List.getElem?_set_ne (fun e => hj e.symm)]
  refine ⟨⟨by simp [hi.len], fun j h' hj => ?_, fun j h' hj hl => ?_, hi.inj, hi.apart, hi.rows, hi.liv, fun j i off h' hm hj => ?_⟩, hu⟩
  · simp only [] at hj ⊢
    have conv : ∀ {h' : HE}, HEok (Ms MX ρ hp s.lent) w (rhoS ρ d s.m) (hpOf s.H) j h' → HEok (Ms MX ρ hp s.lent) w (rhoS ρ d s.m) (hpOf (s.H.set k h)) j h' :=
      fun hh => HEok_step (D := fun _ => False) (Off.refl _ _) (fun _ _ h => h.elim) (fun _ _ h => h) (fun i hi => ⟨Old.refl _, (hu i).2 hi⟩) rfl (fun _ _ _ h => h) hh
    by_cases hjk : j = k
    · subst hjk
      rw [List.getElem?_set_self hlt] at hj
      injection hj with hj
      subst hj
      exact ⟨hnu, conv hok⟩
    · rw [List.getElem?_set_ne (fun e => hjk e.symm)] at hj
      exact ⟨(hi.ok j h' hj).1, conv (hi.ok j h' hj).2⟩
  · simp only [] at hj ⊢
    by_cases hjk : j = k
    · subst hjk
      rw [List.getElem?_set_self hlt] at hj
      injection hj with hj
      subst hj
      exact hsrc hl
    · rw [List.getElem?_set_ne (fun e => hjk e.symm)] at hj
      exact hi.src j h' hj hl
  · simp only [] at hj hm
    by_cases hjk : j = k
    · subst hjk
      rw [List.getElem?_set_self hlt] at hj
      injection hj with hj
      subst hj
      exact hkind i off hm
    · rw [List.getElem?_set_ne (fun e => hjk e.symm)] at hj
      exact hi.kind j i off h' hm hj

/-- A row is lent. -/
theorem PI_lend {s : PS} (hi : PI MX w ρ d hp s) {i : Nat} (hr : live (hp i)) (hm : ∀ (j off : Nat), s.m[j]? ≠ some (some (i, off))) :
    PI MX w ρ d hp { s with lent := i :: s.lent } ∧ Ext s { s with lent := i :: s.lent } := by
  refine ⟨⟨hi.len, fun k h hk => ⟨(hi.ok k h hk).1, ?_⟩, hi.src, hi.inj, fun k j off hj => ?_, fun j hj => ?_, hi.liv, hi.kind⟩, ⟨⟨[], by simp⟩, fun _ _ => rfl, Nat.le_refl _, fun _ h => List.mem_cons_of_mem _ h⟩⟩
  · exact HEok_step (D := fun _ => False) (Off.refl _ _) (fun _ _ h => h.elim) (Ms_mono (fun _ h => List.mem_cons_of_mem _ h)) (fun i hi => ⟨Old.refl _, hi⟩) rfl (fun _ _ _ h => h) (hi.ok k h hk).2
  · intro hmem
    rcases List.mem_cons.1 hmem with h | h
    · subst h; exact hm k off hj
    · exact hi.apart k j off hj h
  · rcases List.mem_cons.1 hj with h | h
    · subst h; exact hr
    · exact hi.rows j h

theorem Ms_le {s : PS} (_ : PI MX w ρ d hp s) : ∀ b, b < w.heap.size → Ms MX ρ hp s.lent b → Mut MX hp ρ b := fun _ _ h => h.1

theorem KR_Ms {s : PS} {t : Ty} {x : t.den} {cs : List Value} (h : t.KR (Mut MX hp ρ) w x cs) : t.KR (Ms MX ρ hp s.lent) w x cs :=
  KR_step (D := fun _ => False) (Off.refl _ _) (fun _ _ h => h.elim) (fun _ _ h => h.1) t h

/-- A value without a number of the heap's in it. -/
def plain : AV → Bool
  | .v _ => true
  | .con _ _ => true
  | .elt _ _ _ => true
  | .bs _ _ => true
  | .bp _ _ _ => true
  | _ => false

theorem plain_step {M M' : Nat → Prop} {ρ' : Nat → Value} {hp' : Heap} (hM : ∀ b, b < w.heap.size → M' b → M b) {a : AV} (hp0 : plain a = true) {y : Value} (h : R M w ρ hp a y) : R M' w ρ' hp' a y := by
  cases a with
  | v x => exact h
  | bs ng t => exact h
  | bp ng p dd => exact h
  | con t l => exact R_step (ρ := ρ') (hp := hp') (D := fun _ => False) (Off.refl _ _) (fun _ _ h => h.elim) hM (fun i hi => ⟨Old.refl _, hi⟩) (.con t l) h
  | elt t x o => exact R_step (ρ := ρ') (hp := hp') (D := fun _ => False) (Off.refl _ _) (fun _ _ h => h.elim) hM (fun i hi => ⟨Old.refl _, hi⟩) (.elt t x o) h
  | _ => cases hp0

end

section
variable {Rt α : Type} {MX : Nat → Prop} {w : World} {ρ d : Nat → Value} {hp : Heap} (H : HRel MX w ρ hp) {n0 : Nat} (hd : ∀ k, n0 ≤ k → d k = .slice none 0 0)
  {b : Nat} {ws : List Nat} {K : α → Nat → Heap → List Nat → List Nat → Option Rt} {r : Rt}
theorem lendC_sound (H : HRel MX w ρ hp) {w1 : List Nat} : (cs : List AV) → {vs : List Value} → {s : PS} → {rs : List Nat} → {k : List AV → PS → Eff α} → PI MX w ρ d hp s → Rs (Mut MX hp ρ) w ρ hp cs vs → (lendC cs s k).go b hp rs w1 K = some r →
    ∃ cs' s' rs', (k cs' s').go b hp rs' w1 K = some r ∧ PI MX w ρ d hp s' ∧ Ext s s' ∧ s'.m = s.m ∧ RPs MX w ρ d hp s' cs' vs
  | [], vs, s, rs, k, hi, ha, hk => ⟨[], s, rs, hk, hi, Ext.refl s, rfl, ha⟩
  | .own j :: cs, vs, s, rs, k, hi, ha, hk => by
    obtain ⟨v, q, rfl, ⟨hne, hv0, A0, n1, c0, hv⟩, hq⟩ := ha
    subst hv0
    simp only [lendC, Eff.go] at hk
    have hok := H.ok j
    split at hk
    · rename_i e' t' l hrow
      split at hk
      case h_2 => cases hk
      rename_i hf
      obtain ⟨h1, h2⟩ := PI_lend hi (by rw [hrow]; trivial) (findM_none hf)
      rw [hrow] at hok
      obtain ⟨xs, g1, g2⟩ := hok
      obtain ⟨A, c, hv', hle, hr⟩ := own_reads g1 g2
      obtain ⟨cs', s', rs', hK, h3, h4, h5, h6⟩ := lendC_sound H cs h1 hq hk
      refine ⟨_, s', rs', hK, h3, h2.trans h4, h5, _, _, rfl, ⟨A, c, (hd_slice hv').trans hv', hle, hr _ fun b' hb hm => ⟨hm.1, fun hbe => hm.2 ⟨j, h4.lent j List.mem_cons_self, hbe⟩⟩⟩, h6⟩
    · rename_i o' e' be t' l htre
      split at hk
      case h_2 => cases hk
      rename_i hf
      obtain ⟨h1, h2⟩ := PI_lend hi (by rw [htre]; trivial) (findM_none hf)
      rw [htre] at hok
      obtain ⟨v0, ss, us, xs, ht⟩ := hok
      obtain ⟨A, c, hv', hle, hr⟩ := ht.view
      obtain ⟨cs', s', rs', hK, h3, h4, h5, h6⟩ := lendC_sound H cs h1 hq hk
      exact ⟨_, s', rs', hK, h3, h2.trans h4, h5, _, _, rfl, ⟨A, c, hv', hle, hr _ fun b' hb hm => ⟨hm.1, fun hbe => hm.2 ⟨j, h4.lent j List.mem_cons_self, hbe⟩⟩⟩, h6⟩
    · rename_i t' l hfrz
      rw [hfrz] at hok
      obtain ⟨A, c, hv', hle, hr⟩ := hok
      obtain ⟨cs', s', rs', hK, h3, h4, h5, h6⟩ := lendC_sound H cs hi hq hk
      refine ⟨_, s', rs', hK, h3, h4, h5, _, _, rfl, ⟨A, c, (hd_slice hv').trans hv', hle, ?_⟩, h6⟩
      exact RowR_step (D := fun _ => False) t'.sz_pos (Off.refl _ _) (fun _ _ h => h.elim) (fun _ _ h => h.1) (fun _ _ h => KR_Ms h) hr
    · cases hk
  | .v x :: cs, vs, s, rs, k, hi, ha, hk => by
    obtain ⟨v, q, rfl, h, hq⟩ := ha
    obtain ⟨cs', s', rs', hK, h3, h4, h5, h6⟩ := lendC_sound H cs hi hq hk
    exact ⟨_, s', rs', hK, h3, h4, h5, _, _, rfl, h, h6⟩
  | .con t l :: cs, vs, s, rs, k, hi, ha, hk => by
    obtain ⟨v, q, rfl, h, hq⟩ := ha
    obtain ⟨cs', s', rs', hK, h3, h4, h5, h6⟩ := lendC_sound H cs hi hq hk
    exact ⟨_, s', rs', hK, h3, h4, h5, _, _, rfl, plain_step (fun _ _ h => h.1) rfl h, h6⟩
  | .bs ng t :: cs, vs, s, rs, k, hi, ha, hk => by
    obtain ⟨v, q, rfl, h, hq⟩ := ha
    obtain ⟨cs', s', rs', hK, h3, h4, h5, h6⟩ := lendC_sound H cs hi hq hk
    exact ⟨_, s', rs', hK, h3, h4, h5, _, _, rfl, h, h6⟩
  | .bp ng p dd :: cs, vs, s, rs, k, hi, ha, hk => by
    obtain ⟨v, q, rfl, h, hq⟩ := ha
    obtain ⟨cs', s', rs', hK, h3, h4, h5, h6⟩ := lendC_sound H cs hi hq hk
    exact ⟨_, s', rs', hK, h3, h4, h5, _, _, rfl, h, h6⟩
  | .box _ _ :: cs, vs, s, rs, k, hi, ha, hk => by cases hk
  | .elt _ _ _ :: cs, vs, s, rs, k, hi, ha, hk => by cases hk
  | .oel _ _ _ _ :: cs, vs, s, rs, k, hi, ha, hk => by cases hk
  | .mp _ :: cs, vs, s, rs, k, hi, ha, hk => by cases hk
  | .sub _ _ :: cs, vs, s, rs, k, hi, ha, hk => by cases hk
  | .fn _ _ _ :: cs, vs, s, rs, k, hi, ha, hk => by cases hk
  | .agg _ :: cs, vs, s, rs, k, hi, ha, hk => by cases hk
  | .tup _ :: cs, vs, s, rs, k, hi, ha, hk => by cases hk
  | .dead :: cs, vs, s, rs, k, hi, ha, hk => by cases hk

include H hd
mutual
theorem pk_sound : (rc : RC) → {a : AV} → {y : Value} → {s : PS} → {rs : List Nat} → {k : AV → PS → Eff α} → PI MX w ρ d hp s → n0 ≤ s.m.length → R (Mut MX hp ρ) w ρ hp a y → (pk rc a s k).go b hp rs ws K = some r →
    ∃ a' s' rs', (k a' s').go b hp rs' ws K = some r ∧ PI MX w ρ d hp s' ∧ Ext s s' ∧ RP MX w ρ d hp s' a' y
  | .val, a, y, s, rs, k, hi, hn, ha, hk => by
    unfold pk at hk
    have : ∀ {a' : AV}, plain a' = true → R (Mut MX hp ρ) w ρ hp a' y → RP MX w ρ d hp s a' y := fun h1 h2 => plain_step (fun _ _ h => h.1) h1 h2
    split at hk
    · exact ⟨_, s, rs, hk, hi, Ext.refl s, this rfl ha⟩
    · exact ⟨_, s, rs, hk, hi, Ext.refl s, this rfl ha⟩
    · exact ⟨_, s, rs, hk, hi, Ext.refl s, this rfl ha⟩
    · cases hk
  | .bool, a, y, s, rs, k, hi, hn, ha, hk => by
    unfold pk at hk
    split at hk
    · rename_i t ht
      exact ⟨_, s, rs, hk, hi, Ext.refl s, boolOf_sound ha ht⟩
    · cases hk
  | .con t, a, y, s, rs, k, hi, hn, ha, hk => by
    unfold pk at hk
    split at hk
    · exact ⟨_, s, rs, hk, hi, Ext.refl s, plain_step (fun _ _ h => h.1) rfl ha⟩
    · refine ⟨_, s, rs, hk, hi, Ext.refl s, none, 0, ha, Nat.le_refl _, fun i x hx => by simp at hx⟩
    · rename_i i
      obtain ⟨hne, rfl, A0, n1, c0, hv⟩ := ha
      simp only [Eff.go] at hk
      have hok := H.ok i
      split at hk
      · rename_i e t' l hrow
        split at hk
        case h_2 => cases hk
        rename_i hf
        obtain ⟨h1, h2⟩ := PI_lend hi (by rw [hrow]; trivial) (findM_none hf)
        rw [hrow] at hok
        obtain ⟨xs, g1, g2⟩ := hok
        obtain ⟨A, c, hv', hle, hr⟩ := own_reads g1 g2
        refine ⟨_, _, _, hk, h1, h2, A, c, (hd_slice hv').trans hv', hle, hr _ fun b' hb hm => ⟨hm.1, fun hbe => hm.2 ⟨i, List.mem_cons_self, hbe⟩⟩⟩
      · rename_i o' e' be t' l htre
        split at hk
        case h_2 => cases hk
        rename_i hf
        obtain ⟨h1, h2⟩ := PI_lend hi (by rw [htre]; trivial) (findM_none hf)
        rw [htre] at hok
        obtain ⟨v0, ss, us, xs, ht⟩ := hok
        obtain ⟨A, c, hv', hle, hr⟩ := ht.view
        exact ⟨_, _, _, hk, h1, h2, A, c, hv', hle, hr _ fun b' hb hm => ⟨hm.1, fun hbe => hm.2 ⟨i, List.mem_cons_self, hbe⟩⟩⟩
      · rename_i t' l hfrz
        rw [hfrz] at hok
        obtain ⟨A, c, hv', hle, hr⟩ := hok
        refine ⟨_, s, _, hk, hi, Ext.refl s, A, c, (hd_slice hv').trans hv', hle, ?_⟩
        exact RowR_step (D := fun _ => False) t'.sz_pos (Off.refl _ _) (fun _ _ h => h.elim) (fun _ _ h => h.1) (fun _ _ h => KR_Ms h) hr
      · cases hk
    · rename_i i lo
      simp only [Eff.go] at hk
      have hok := H.ok i
      have hne := ha.1
      obtain ⟨g, n, c, c', A', e, hlo, hy, hA, hc⟩ := ha.2
      split at hk
      · rename_i e' t' l hrow
        split at hk
        case h_2 => cases hk
        rename_i hf hsz
        have hsz := Nat.eq_of_beq_eq_true hsz
        obtain ⟨h1, h2⟩ := PI_lend hi (by rw [hrow]; trivial) (findM_none hf)
        rw [hrow] at hok
        obtain ⟨xs, g1, g2⟩ := hok
        obtain ⟨A, c2, hv', hle, hr⟩ := own_reads g1 g2
        refine ⟨_, _, _, hk, h1, h2, ?_⟩
        exact sub_con (ρ := ρ) (hp := hp) hsz hv' (hr _ fun b' hb hm => ⟨hm.1, fun hbe => hm.2 ⟨i, List.mem_cons_self, hbe⟩⟩) ⟨hne, g, n, c, c', A', e, hlo, hy, hA, hc⟩
      · rename_i t' l hfrz
        split at hk
        case h_2 => cases hk
        rename_i hsz
        have hsz := Nat.eq_of_beq_eq_true hsz
        rw [hfrz] at hok
        obtain ⟨A, c2, hv', hle, hr⟩ := hok
        refine ⟨_, s, _, hk, hi, Ext.refl s, ?_⟩
        exact sub_con (ρ := ρ) (hp := hp) hsz hv' (RowR_step (D := fun _ => False) t'.sz_pos (Off.refl _ _) (fun _ _ h => h.elim) (fun _ _ h => h.1) (fun _ _ h => KR_Ms h) hr) ⟨hne, g, n, c, c', A', e, hlo, hy, hA, hc⟩
      · cases hk
    · cases hk
  | .row e t, a, y, s, rs, k, hi, hn, ha, hk => by
    unfold pk at hk
    split at hk
    · rename_i i
      obtain ⟨hne, rfl, A0, n1, c0, hv⟩ := ha
      split at hk
      · rename_i n off hf
        obtain ⟨j, hj, hm⟩ := findM_some hf
        rw [Nat.zero_add] at hj
        subst hj
        have hlt := lt_of_get hm
        rw [hi.len] at hlt
        refine ⟨_, s, rs, hk, hi, Ext.refl s, ?_, ?_, A0, n1, c0, hv⟩
        · rw [hpOf_eq, List.getElem?_eq_getElem hlt]
          exact (hi.ok n _ (List.getElem?_eq_getElem hlt)).1
        · unfold rhoS
          rw [hm]
          exact (hd_shift hv off).symm
      · cases hk
      rename_i hf hlent
      simp only [Eff.go] at hk
      have hok := H.ok i
      have hrho : rhoS ρ d (s.m ++ [some (i, 0)]) s.m.length = ρ i := by
        unfold rhoS
        rw [List.getElem?_append_right (Nat.le_refl _)]
        simp only [Nat.sub_self, List.getElem?_cons_zero]
        exact shift_own hv
      have hni : i ∉ s.lent := fun hmem => by
        have : s.lent.any (Nat.beq i) = true := List.any_eq_true.2 ⟨i, hmem, Nat.beq_refl i⟩
        rw [hlent] at this
        cases this
      split at hk
      case h_4 => cases hk
      case h_3 =>
        rename_i o' fr e' be t' l htre
        rw [htre] at hok
        obtain ⟨v0, ss, us, xs, ht⟩ := hok
        obtain ⟨h1, h2⟩ := PI_push (p := some (i, 0)) (h := .tre o' fr e' be t' l none) hi (by simp) (fun j off e => by injection e with e; injection e with e1 e2; subst e1; exact ⟨findM_none hf, hni, by rw [htre]; trivial, .inr (.inr (.inl ⟨htre, e2.symm, by simp⟩))⟩)
          (fun _ => .inl ⟨i, 0, rfl, by rw [htre]; trivial⟩) ⟨v0, ss, us, xs, ht.none_ (Ms_le hi) hrho⟩
        refine ⟨_, _, _, hk, h1, h2, ?_, by rw [hrho], A0, n1, c0, hv⟩
        rw [hpOf_eq, hi.len, List.getElem?_append_right (Nat.le_refl _)]
        simp
      case h_2 =>
        rename_i l hrow
        rw [hrow] at hok
        obtain ⟨g, c, g1, g2, g3⟩ := hok
        obtain ⟨h1, h2⟩ := PI_push (p := some (i, 0)) (h := .bts l) hi (by simp) (fun j off e => by injection e with e; injection e with e1 e2; subst e1; exact ⟨findM_none hf, hni, by rw [hrow]; trivial, .inr (.inr (.inl ⟨hrow, e2.symm, by simp⟩))⟩)
          (fun _ => .inl ⟨i, 0, rfl, by rw [hrow]; trivial⟩) ⟨g, c, by rw [hrho]; exact g1, g2, g3⟩
        refine ⟨_, _, _, hk, h1, h2, ?_, by rw [hrho], A0, n1, c0, hv⟩
        rw [hpOf_eq, hi.len, List.getElem?_append_right (Nat.le_refl _)]
        simp
      rename_i e' t' l hrow
      rw [hrow] at hok
      obtain ⟨xs, g1, g2⟩ := hok
      obtain ⟨h1, h2⟩ := PI_push (p := some (i, 0)) (h := .row e' t' l) hi (by simp) (fun j off e => by injection e with e; injection e with e1 e2; subst e1; exact ⟨findM_none hf, hni, by rw [hrow]; trivial, .inr (.inr (.inl ⟨hrow, e2.symm, by simp⟩))⟩)
        (fun _ => .inl ⟨i, 0, rfl, by rw [hrow]; trivial⟩) ⟨xs, by rw [hrho]; exact g1, Els.imp (fun _ _ h => KR_Ms h) g2⟩
      refine ⟨_, _, _, hk, h1, h2, ?_, by rw [hrho], A0, n1, c0, hv⟩
      rw [hpOf_eq, hi.len, List.getElem?_append_right (Nat.le_refl _)]
      simp
    · have hrho : rhoS ρ d (s.m ++ [none]) s.m.length = .slice none 0 0 := by
        unfold rhoS
        rw [List.getElem?_append_right (Nat.le_refl _)]
        simp only [Nat.sub_self, List.getElem?_cons_zero]
        exact hd _ hn
      obtain ⟨h1, h2⟩ := PI_push (p := none) (h := .row e t []) hi (by simp) (fun j off e => by cases e) (fun _ => .inr (by rw [hrho]; exact fun b h => nomatch (h : (none : Option Nat) = some b))) ⟨[], by rw [hrho]; exact World.ownsRow_nil _ _ _ _, rfl⟩
      refine ⟨_, _, _, hk, h1, h2, ?_, by rw [hrho]; exact ha, none, 0, 0, ha⟩
      rw [hpOf_eq, hi.len, List.getElem?_append_right (Nat.le_refl _)]
      simp
    · cases hk
  | .tre o e be t, a, y, s, rs, k, hi, hn, ha, hk => by
    unfold pk at hk
    split at hk
    · rename_i i
      obtain ⟨hne, rfl, A0, n1, c0, hv⟩ := ha
      split at hk
      · rename_i n off hf
        obtain ⟨j, hj, hm⟩ := findM_some hf
        rw [Nat.zero_add] at hj
        subst hj
        have hlt := lt_of_get hm
        rw [hi.len] at hlt
        refine ⟨_, s, rs, hk, hi, Ext.refl s, ?_, ?_, A0, n1, c0, hv⟩
        · rw [hpOf_eq, List.getElem?_eq_getElem hlt]
          exact (hi.ok n _ (List.getElem?_eq_getElem hlt)).1
        · unfold rhoS
          rw [hm]
          exact (hd_shift hv off).symm
      · cases hk
      rename_i hf hlent
      simp only [Eff.go] at hk
      have hok := H.ok i
      have hrho : rhoS ρ d (s.m ++ [some (i, 0)]) s.m.length = ρ i := by
        unfold rhoS
        rw [List.getElem?_append_right (Nat.le_refl _)]
        simp only [Nat.sub_self, List.getElem?_cons_zero]
        exact shift_own hv
      have hni : i ∉ s.lent := fun hmem => by
        have : s.lent.any (Nat.beq i) = true := List.any_eq_true.2 ⟨i, hmem, Nat.beq_refl i⟩
        rw [hlent] at this
        cases this
      split at hk
      case h_2 => cases hk
      rename_i o' fr e' be' t' l htre
      rw [htre] at hok
      obtain ⟨v0, ss, us, xs, ht⟩ := hok
      obtain ⟨h1, h2⟩ := PI_push (p := some (i, 0)) (h := .tre o' fr e' be' t' l none) hi (by simp) (fun j off e => by injection e with e; injection e with e1 e2; subst e1; exact ⟨findM_none hf, hni, by rw [htre]; trivial, .inr (.inr (.inl ⟨htre, e2.symm, by simp⟩))⟩)
        (fun _ => .inl ⟨i, 0, rfl, by rw [htre]; trivial⟩) ⟨v0, ss, us, xs, ht.none_ (Ms_le hi) hrho⟩
      refine ⟨_, _, _, hk, h1, h2, ?_, by rw [hrho], A0, n1, c0, hv⟩
      rw [hpOf_eq, hi.len, List.getElem?_append_right (Nat.le_refl _)]
      simp
    · split at hk
      case h_2 => cases hk
      rename_i hnest hosz
      have hosz : o = 0 ∨ t.inn.sz = 1 := by
        rcases Bool.or_eq_true_iff.1 hosz with h | h
        · exact .inl (Nat.eq_of_beq_eq_true h)
        · exact .inr (Nat.eq_of_beq_eq_true h)
      have hrho : rhoS ρ d (s.m ++ [none]) s.m.length = .slice none 0 0 := by
        unfold rhoS
        rw [List.getElem?_append_right (Nat.le_refl _)]
        simp only [Nat.sub_self, List.getElem?_cons_zero]
        exact hd _ hn
      obtain ⟨h1, h2⟩ := PI_push (p := none) (h := .tre o none e be t [] none) hi (by simp) (fun j off e => by cases e) (fun _ => .inr (by rw [hrho]; exact fun b h => nomatch (h : (none : Option Nat) = some b)))
        ⟨.slice none 0 0, [], [], [], hnest, hosz, .inr ⟨rfl, rfl, rfl, hrho⟩, rfl, rfl, World.ownsRow_nil _ _ _ _, rfl, (fun j x s _ hx => by simp at hx), (fun j s _ hs => by simp at hs), (fun j s u _ hs => by simp at hs), (fun j k s s' b hj hk hb => by
          cases j with
          | zero => simp at hj; subst hj; cases hb
          | succ j => simp [hole] at hj), (fun s hs => by cases hs), fun j q hc => by cases hc⟩
      refine ⟨_, _, _, hk, h1, h2, ?_, by rw [hrho]; exact ha, none, 0, 0, ha⟩
      rw [hpOf_eq, hi.len, List.getElem?_append_right (Nat.le_refl _)]
      simp
    · cases hk
  | .trs, a, y, s, rs, k, hi, hn, ha, hk => by
    unfold pk at hk
    split at hk
    · rename_i i
      obtain ⟨hne, rfl, A0, n1, c0, hv⟩ := ha
      split at hk
      · rename_i n off hf
        obtain ⟨j, hj, hm⟩ := findM_some hf
        rw [Nat.zero_add] at hj
        subst hj
        have hlt := lt_of_get hm
        rw [hi.len] at hlt
        refine ⟨_, s, rs, hk, hi, Ext.refl s, ?_, ?_, A0, n1, c0, hv⟩
        · rw [hpOf_eq, List.getElem?_eq_getElem hlt]
          exact (hi.ok n _ (List.getElem?_eq_getElem hlt)).1
        · unfold rhoS
          rw [hm]
          exact (hd_shift hv off).symm
      · cases hk
      rename_i hf hlent
      simp only [Eff.go] at hk
      have hok := H.ok i
      have hrho : rhoS ρ d (s.m ++ [some (i, 0)]) s.m.length = ρ i := by
        unfold rhoS
        rw [List.getElem?_append_right (Nat.le_refl _)]
        simp only [Nat.sub_self, List.getElem?_cons_zero]
        exact shift_own hv
      have hni : i ∉ s.lent := fun hmem => by
        have : s.lent.any (Nat.beq i) = true := List.any_eq_true.2 ⟨i, hmem, Nat.beq_refl i⟩
        rw [hlent] at this
        cases this
      split at hk
      case h_2 => cases hk
      rename_i o' fr e' be' t' l htre
      rw [htre] at hok
      obtain ⟨v0, ss, us, xs, ht⟩ := hok
      obtain ⟨h1, h2⟩ := PI_push (p := some (i, 0)) (h := .tre o' (some (frN fr)) e' be' t' l none) hi (by simp) (fun j off e => by injection e with e; injection e with e1 e2; subst e1; exact ⟨findM_none hf, hni, by rw [htre]; trivial, .inr (.inr (.inr (.inr ⟨e2.symm, by simp, by rw [htre]; simp⟩)))⟩)
        (fun _ => .inl ⟨i, 0, rfl, by rw [htre]; trivial⟩) ⟨v0, ss, us, xs, (ht.none_ (Ms_le hi) hrho).from_ rfl⟩
      refine ⟨_, _, _, hk, h1, h2, ?_, by rw [hrho], A0, n1, c0, hv⟩
      rw [hpOf_eq, hi.len, List.getElem?_append_right (Nat.le_refl _)]
      simp
    · cases hk
  | .trq, a, y, s, rs, k, hi, hn, ha, hk => by
    unfold pk at hk
    split at hk
    case h_2 => cases hk
    rename_i i
    obtain ⟨hne, rfl, A0, n1, c0, hv⟩ := ha
    split at hk
    · rename_i n off hf
      obtain ⟨j, hj, hm⟩ := findM_some hf
      rw [Nat.zero_add] at hj
      subst hj
      have hlt := lt_of_get hm
      rw [hi.len] at hlt
      refine ⟨_, s, rs, hk, hi, Ext.refl s, ?_, ?_, A0, n1, c0, hv⟩
      · rw [hpOf_eq, List.getElem?_eq_getElem hlt]
        exact (hi.ok n _ (List.getElem?_eq_getElem hlt)).1
      · unfold rhoS
        rw [hm]
        exact (hd_shift hv off).symm
    · cases hk
    rename_i hf hlent
    simp only [Eff.go] at hk
    have hok := H.ok i
    have hni : i ∉ s.lent := fun hmem => by
      have : s.lent.any (Nat.beq i) = true := List.any_eq_true.2 ⟨i, hmem, Nat.beq_refl i⟩
      rw [hlent] at this
      cases this
    split at hk
    case h_2 => cases hk
    rename_i o' fr e' be t' l j q htre
    rw [htre] at hok
    obtain ⟨v0, ss, us, xs, ht⟩ := hok
    obtain ⟨_, hjl, hsq, hqu⟩ := ht.cur_ j q rfl
    obtain ⟨Aq, nq0, cq, hslq⟩ := ht.sl _ (List.mem_of_getElem? hsq)
    split at hk
    · -- what is out has been packed
      rename_i nq offq hfq
      obtain ⟨j', hj', hmq⟩ := findM_some hfq
      rw [Nat.zero_add] at hj'
      subst hj'
      have hltq := lt_of_get hmq
      have hrho : rhoS ρ d (s.m ++ [some (i, 0)]) s.m.length = ρ i := by
        unfold rhoS
        rw [List.getElem?_append_right (Nat.le_refl _)]
        simp only [Nat.sub_self, List.getElem?_cons_zero]
        exact shift_own hv
      have hrhoq : rhoS ρ d (s.m ++ [some (i, 0)]) nq = ρ q := by
        unfold rhoS
        rw [List.getElem?_append_left hltq, hmq]
        simp only [hslq, shift]
      have hltq' : nq < s.H.length := by rw [← hi.len]; exact hltq
      obtain ⟨h1, h2⟩ := PI_push (p := some (i, 0)) (h := .tre o' fr e' be t' l (some (j, nq))) hi (by simp) (fun j off e => by injection e with e; injection e with e1 e2; subst e1; exact ⟨findM_none hf, hni, by rw [htre]; trivial, .inr (.inr (.inr (.inr ⟨e2.symm, by simp, by rw [htre]; simp⟩)))⟩)
        (fun _ => .inl ⟨i, 0, rfl, by rw [htre]; trivial⟩) ⟨v0, ss, us, xs, ht.recur (Ms_le hi) hrho hrhoq (by rw [hpOf_eq, List.getElem?_append_left hltq', List.getElem?_eq_getElem hltq']; exact (hi.ok nq _ (List.getElem?_eq_getElem hltq')).1)⟩
      refine ⟨_, _, _, hk, h1, h2, ?_, by rw [hrho], A0, n1, c0, hv⟩
      rw [hpOf_eq, hi.len, List.getElem?_append_right (Nat.le_refl _)]
      simp
    rename_i hfq
    split at hk
    case h_2 => cases hk
    rename_i hlentq hqi
    have hqi' : q ≠ i := fun e' => by rw [e', Nat.beq_refl] at hqi; cases hqi
    have hniq : q ∉ s.lent := fun hmem => by
      have : s.lent.any (Nat.beq q) = true := List.any_eq_true.2 ⟨q, hmem, Nat.beq_refl q⟩
      rw [hlentq] at this
      cases this
    simp only [Eff.go] at hk
    have hokq := H.ok q
    split at hk
    case h_2 => cases hk
    rename_i eq tq mq hrow
    rw [hrow] at hokq
    obtain ⟨xq, g1, g2⟩ := hokq
    have hrq : rhoS ρ d (s.m ++ [some (q, 0)]) s.m.length = ρ q := by
      unfold rhoS
      rw [List.getElem?_append_right (Nat.le_refl _)]
      simp only [Nat.sub_self, List.getElem?_cons_zero]
      rw [hslq]
      rfl
    obtain ⟨h1, h2⟩ := PI_push (p := some (q, 0)) (h := .row eq tq mq) hi (by simp) (fun j off e => by injection e with e; injection e with e1 e2; subst e1; exact ⟨findM_none hfq, hniq, by rw [hrow]; trivial, .inr (.inr (.inl ⟨hrow, e2.symm, by simp⟩))⟩)
      (fun _ => .inl ⟨q, 0, rfl, by rw [hrow]; trivial⟩) ⟨xq, by rw [hrq]; exact g1, Els.imp (fun _ _ h => KR_Ms h) g2⟩
    have hml : (s.m ++ [some (q, 0)]).length = s.m.length + 1 := by simp
    have hrho : rhoS ρ d ((s.m ++ [some (q, 0)]) ++ [some (i, 0)]) (s.m.length + 1) = ρ i := by
      unfold rhoS
      rw [List.getElem?_append_right (by omega), hml, Nat.sub_self]
      simp only [List.getElem?_cons_zero]
      exact shift_own hv
    have hrhoq : rhoS ρ d ((s.m ++ [some (q, 0)]) ++ [some (i, 0)]) s.m.length = ρ q := by
      rw [← hrq]
      unfold rhoS
      rw [List.getElem?_append_left (by omega)]
    have hfi : ∀ (j off' : Nat), (s.m ++ [some (q, 0)])[j]? ≠ some (some (i, off')) := fun j off' e => by
      by_cases hjl : j < s.m.length
      · rw [List.getElem?_append_left hjl] at e
        exact findM_none hf j off' e
      · have hlt := lt_of_get e
        rw [hml] at hlt
        obtain rfl : j = s.m.length := by omega
        rw [List.getElem?_append_right (Nat.le_refl _), Nat.sub_self] at e
        simp at e
        exact hqi' e.1
    obtain ⟨h3, h4⟩ := PI_push (p := some (i, 0)) (h := .tre o' fr e' be t' l (some (j, s.m.length))) h1 (by simp) (fun j off e => by injection e with e; injection e with e1 e2; subst e1; exact ⟨hfi, hni, by rw [htre]; trivial, .inr (.inr (.inr (.inr ⟨e2.symm, by simp, by rw [htre]; simp⟩)))⟩)
      (fun _ => .inl ⟨i, 0, rfl, by rw [htre]; trivial⟩) (by
        simp only []
        rw [hml]
        exact ⟨v0, ss, us, xs, ht.recur (Ms_le hi) hrho hrhoq (by
          rw [hpOf_eq, List.getElem?_append_left (by simp [hi.len]), hi.len, List.getElem?_append_right (Nat.le_refl _)]
          simp)⟩)
    refine ⟨_, _, _, hk, h3, h2.trans h4, ?_, by rw [hrho], A0, n1, c0, hv⟩
    rw [hpOf_eq, hi.len, List.getElem?_append_right (by simp)]
    simp
  | .sub lo, a, y, s, rs, k, hi, hn, ha, hk => by
    unfold pk at hk
    split at hk
    case h_2 => cases hk
    rename_i i lo'
    obtain ⟨hne, g, n, c, c', A', e, hlo, hy, hA, hc⟩ := ha
    split at hk
    case h_3 => cases hk
    case h_1 =>
      rename_i n1 off hf hll
      have hll := Nat.eq_of_beq_eq_true hll
      subst hll
      obtain ⟨j, hj, hm⟩ := findM_some hf
      rw [Nat.zero_add] at hj
      subst hj
      have hlt := lt_of_get hm
      rw [hi.len] at hlt
      refine ⟨_, s, rs, hk, hi, Ext.refl s, ?_, g, n, c, c', A', ?_, hlo, hy, hA, hc⟩
      · rw [hpOf_eq, List.getElem?_eq_getElem hlt]
        exact (hi.ok n1 _ (List.getElem?_eq_getElem hlt)).1
      · unfold rhoS
        rw [hm]
        simp only [e, shift]
    rename_i hf hlent hll
    have hll := Nat.eq_of_beq_eq_true hll
    subst hll
    simp only [Eff.go] at hk
    have hok := H.ok i
    have hrho : rhoS ρ d (s.m ++ [some (i, 0)]) s.m.length = ρ i := by
      unfold rhoS
      rw [List.getElem?_append_right (Nat.le_refl _)]
      simp only [Nat.sub_self, List.getElem?_cons_zero]
      exact shift_own (hd_slice e ▸ e)
    have hni : i ∉ s.lent := fun hmem => by
      have : s.lent.any (Nat.beq i) = true := List.any_eq_true.2 ⟨i, hmem, Nat.beq_refl i⟩
      rw [hlent] at this
      cases this
    split at hk
    case h_2 => cases hk
    rename_i e' t' l hrow
    rw [hrow] at hok
    obtain ⟨xs, g1, g2⟩ := hok
    obtain ⟨h1, h2⟩ := PI_push (p := some (i, 0)) (h := .row e' t' l) hi (by simp) (fun j off e => by injection e with e; injection e with e1 e2; subst e1; exact ⟨findM_none hf, hni, by rw [hrow]; trivial, .inr (.inr (.inl ⟨hrow, e2.symm, by simp⟩))⟩)
      (fun _ => .inl ⟨i, 0, rfl, by rw [hrow]; trivial⟩) ⟨xs, by rw [hrho]; exact g1, Els.imp (fun _ _ h => KR_Ms h) g2⟩
    refine ⟨_, _, _, hk, h1, h2, ?_, g, n, c, c', A', hrho.trans e, hlo, hy, hA, hc⟩
    rw [hpOf_eq, hi.len, List.getElem?_append_right (Nat.le_refl _)]
    simp
  | .mp t, a, y, s, rs, k, hi, hn, ha, hk => by
    unfold pk at hk
    split at hk
    case h_2 => cases hk
    rename_i i
    obtain ⟨hne, rfl, b0, hv⟩ := ha
    split at hk
    · rename_i n off hf
      obtain ⟨j, hj, hm⟩ := findM_some hf
      rw [Nat.zero_add] at hj
      subst hj
      have hlt := lt_of_get hm
      rw [hi.len] at hlt
      refine ⟨_, s, rs, hk, hi, Ext.refl s, ?_, ?_, b0, hv⟩
      · rw [hpOf_eq, List.getElem?_eq_getElem hlt]
        exact (hi.ok n _ (List.getElem?_eq_getElem hlt)).1
      · unfold rhoS
        rw [hm]
        simp only [hv, shift]
    · cases hk
    rename_i hf hlent
    simp only [Eff.go] at hk
    have hok := H.ok i
    split at hk
    case h_2 => cases hk
    rename_i t' f hmp
    rw [hmp] at hok
    obtain ⟨b1, g1, g2⟩ := hok
    have hrho : rhoS ρ d (s.m ++ [some (i, 0)]) s.m.length = ρ i := by
      unfold rhoS
      rw [List.getElem?_append_right (Nat.le_refl _)]
      simp only [Nat.sub_self, List.getElem?_cons_zero]
      rw [hv]
      rfl
    have hni : i ∉ s.lent := fun hmem => by
      have : s.lent.any (Nat.beq i) = true := List.any_eq_true.2 ⟨i, hmem, Nat.beq_refl i⟩
      rw [hlent] at this
      cases this
    obtain ⟨h1, h2⟩ := PI_push (p := some (i, 0)) (h := .mp t' f) hi (by simp) (fun j off e => by injection e with e; injection e with e1 e2; subst e1; exact ⟨findM_none hf, hni, by rw [hmp]; trivial, .inr (.inr (.inl ⟨hmp, e2.symm, by simp⟩))⟩)
      (fun _ => .inl ⟨i, 0, rfl, by rw [hmp]; trivial⟩) ⟨b1, by rw [hrho]; exact g1, g2⟩
    refine ⟨_, _, _, hk, h1, h2, ?_, by rw [hrho], b0, hv⟩
    rw [hpOf_eq, hi.len, List.getElem?_append_right (Nat.le_refl _)]
    simp
  | .bld T rc, a, y, s, rs, k, hi, hn, ha, hk => by
    unfold pk at hk
    split at hk
    case h_2 => cases hk
    rename_i i off
    obtain ⟨hne, g, o, he, rfl⟩ := ha
    split at hk
    · rename_i n off' hf
      split at hk
      case h_2 => cases hk
      rename_i hoff
      have hoff := Nat.eq_of_beq_eq_true hoff
      subst hoff
      obtain ⟨j, hj, hm⟩ := findM_some hf
      rw [Nat.zero_add] at hj
      subst hj
      refine ⟨_, s, rs, hk, hi, Ext.refl s, ?_, g, o + off, ?_, rfl⟩
      · have hlt := lt_of_get hm
        rw [hi.len] at hlt
        rw [hpOf_eq, List.getElem?_eq_getElem hlt]
        exact (hi.ok n _ (List.getElem?_eq_getElem hlt)).1
      · unfold rhoS
        rw [hm]
        simp only [he, shift]
    · rename_i hf
      simp only [Eff.go] at hk
      have hok := H.ok i
      split at hk
      case h_2 => cases hk
      rename_i T' c hbld
      split at hk
      case h_2 => cases hk
      rename_i hT hoff hlent
      have hT := Nat.eq_of_beq_eq_true hT
      have hoff := Nat.eq_of_beq_eq_true hoff
      subst hT hoff
      rw [hbld] at hok
      obtain ⟨g', p0, v0, g1, g2, g3, g4⟩ := hok
      rw [he] at g1
      injection g1 with g1
      injection g1 with g1
      injection g1 with e1 e2
      subst e1 e2
      have hni : i ∉ s.lent := fun hmem => by
        have : s.lent.any (Nat.beq i) = true := List.any_eq_true.2 ⟨i, hmem, Nat.beq_refl i⟩
        rw [hlent] at this
        cases this
      obtain ⟨h1, h2⟩ := PI_push (p := some (i, 0)) (h := .gone) hi (by simp) (fun j off' e => by injection e with e; injection e with e1 _; subst e1; exact ⟨findM_none hf, hni, by rw [hbld]; trivial, .inl rfl⟩) (fun h => h.elim) trivial
      obtain ⟨c', s', rs', hK, h3, h4, h5⟩ := pk_sound rc h1 (by simp; omega) g4 hk
      have hrho1 : rhoS ρ d (s.m ++ [some (i, 0)]) s.m.length = .pointer (some ⟨g, 0, none⟩) := by
        unfold rhoS
        rw [List.getElem?_append_right (Nat.le_refl _)]
        simp only [Nat.sub_self, List.getElem?_cons_zero, he, shift]
      obtain ⟨rr, hrr⟩ := h4.m
      have hrho : rhoS ρ d s'.m s.m.length = .pointer (some ⟨g, 0, none⟩) := by
        rw [← hrho1]
        unfold rhoS
        rw [hrr]
        simp only []
        rw [List.getElem?_append_left (by simp)]
      have hgone : s'.H[s.m.length]? = some .gone := by
        rw [h4.H s.m.length (by simp [hi.len])]
        simp only []
        rw [hi.len, List.getElem?_append_right (Nat.le_refl _)]
        simp
      have hmk : s'.m[s.m.length]? = some (some (i, 0)) := by
        rw [hrr]
        simp only []
        rw [List.getElem?_append_left (by simp), List.getElem?_append_right (Nat.le_refl _)]
        simp
      obtain ⟨h6, h7⟩ := PI_set (h := .bld T c') h3 hgone (by simp) (fun _ => .inl ⟨i, 0, hmk, by rw [hbld]; trivial⟩) (fun i' off' hm' => by
        rw [hmk] at hm'
        injection hm' with hm'
        injection hm' with hm'
        injection hm' with e1 e2
        subst e1 e2
        exact .inr (.inr (.inr (.inl ⟨T, c', c, rfl, hbld, rfl⟩)))) ⟨g, p0, v0, hrho, g2, g3, h5⟩
      refine ⟨_, _, rs', hK, h6, ?_, ?_, g, 0, hrho, rfl⟩
      · have hx := h2.trans h4
        refine ⟨hx.m, fun j hj => ?_, by simpa using hx.le, hx.lent⟩
        rw [← hx.H j hj]
        simp only []
        rw [List.getElem?_set_ne (by rw [hi.len]; omega)]
      · refine (h7 _).2 ?_
        rw [hpOf_eq, hgone]
        simp
  | .box rcs, a, y, s, rs, k, hi, hn, ha, hk => by
    unfold pk at hk
    split at hk
    case h_2 => cases hk
    rename_i i off
    obtain ⟨hne, g, o, he, rfl⟩ := ha
    split at hk
    · rename_i n off' hf
      split at hk
      case h_2 => cases hk
      rename_i hoff
      have hoff := Nat.eq_of_beq_eq_true hoff
      subst hoff
      obtain ⟨j, hj, hm⟩ := findM_some hf
      rw [Nat.zero_add] at hj
      subst hj
      refine ⟨_, s, rs, hk, hi, Ext.refl s, ?_, g, o + off, ?_, rfl⟩
      · have hlt := lt_of_get hm
        rw [hi.len] at hlt
        rw [hpOf_eq, List.getElem?_eq_getElem hlt]
        exact (hi.ok n _ (List.getElem?_eq_getElem hlt)).1
      · unfold rhoS
        rw [hm]
        simp only [he, shift]
    · rename_i hf
      simp only [Eff.go] at hk
      have hok := H.ok i
      split at hk
      case h_2 => cases hk
      rename_i cs hbox
      split at hk
      case h_2 => cases hk
      rename_i hle hlent
      have hle := Nat.le_of_ble_eq_true hle
      rw [hbox] at hok
      obtain ⟨g', o', C, e, vs, g1, g2, g3, g4⟩ := hok
      rw [he] at g1
      injection g1 with g1
      injection g1 with g1
      injection g1 with e1 e2
      subst e1 e2
      have hni : i ∉ s.lent := fun hmem => by
        have : s.lent.any (Nat.beq i) = true := List.any_eq_true.2 ⟨i, hmem, Nat.beq_refl i⟩
        rw [hlent] at this
        cases this
      obtain ⟨h1, h2⟩ := PI_push (p := some (i, off)) (h := .gone) hi (by simp) (fun j off' e => by injection e with e; injection e with e1 _; subst e1; exact ⟨findM_none hf, hni, by rw [hbox]; trivial, .inl rfl⟩) (fun h => h.elim) trivial
      obtain ⟨cs', s', rs', hK, h3, h4, h5⟩ := pks_sound rcs h1 (by simp; omega) (Rs_take (Rs_drop g3 off) rcs.length) hk
      have hrho1 : rhoS ρ d (s.m ++ [some (i, off)]) s.m.length = .pointer (some ⟨g, o + off, none⟩) := by
        unfold rhoS
        rw [List.getElem?_append_right (Nat.le_refl _)]
        simp only [Nat.sub_self, List.getElem?_cons_zero, he, shift]
      obtain ⟨rr, hrr⟩ := h4.m
      have hrho : rhoS ρ d s'.m s.m.length = .pointer (some ⟨g, o + off, none⟩) := by
        rw [← hrho1]
        unfold rhoS
        rw [hrr]
        simp only []
        rw [List.getElem?_append_left (by simp)]
      have hgone : s'.H[s.m.length]? = some .gone := by
        rw [h4.H s.m.length (by simp [hi.len])]
        simp only []
        rw [hi.len, List.getElem?_append_right (Nat.le_refl _)]
        simp
      have hmk : s'.m[s.m.length]? = some (some (i, off)) := by
        rw [hrr]
        simp only []
        rw [List.getElem?_append_left (by simp), List.getElem?_append_right (Nat.le_refl _)]
        simp
      obtain ⟨h6, h7⟩ := PI_set (h := .box cs') h3 hgone (by simp) (fun _ => .inl ⟨i, off, hmk, by rw [hbox]; trivial⟩) (fun i' off' hm' => by
        rw [hmk] at hm'
        injection hm' with hm'
        injection hm' with hm'
        injection hm' with e1 e2
        subst e1 e2
        exact .inr (.inl ⟨cs', cs, rfl, hbox, by have hl5 := Rs_len h5; simp at hl5; have hl3 := Rs_len g3; omega⟩)) ⟨g, o + off, C, e, _, hrho, g2, h5, fun j v hj => by
        rw [List.getElem?_take] at hj
        split at hj
        · rw [List.getElem?_drop] at hj
          have := g4 _ v hj
          rwa [← Nat.add_assoc] at this
        · cases hj⟩
      refine ⟨_, _, rs', hK, h6, ?_, ?_, g, o + off, hrho, rfl⟩
      · have hx := h2.trans h4
        refine ⟨hx.m, fun j hj => ?_, by simpa using hx.le, hx.lent⟩
        rw [← hx.H j hj]
        simp only []
        rw [List.getElem?_set_ne (by rw [hi.len]; omega)]
      · refine (h7 _).2 ?_
        rw [hpOf_eq, hgone]
        simp
  | .fn f n rcs, a, y, s, rs, k, hi, hn, ha, hk => by
    unfold pk at hk
    split at hk
    case h_2 => cases hk
    rename_i f' cs
    split at hk
    case h_2 => cases hk
    rename_i hff hnn _
    have hff := Nat.eq_of_beq_eq_true hff
    have hnn := Nat.eq_of_beq_eq_true hnn
    subst hff hnn
    obtain ⟨vs, rfl, hvs⟩ := ha
    obtain ⟨cs', s', rs', hK, h3, h4, h5⟩ := pks_sound rcs hi hn hvs hk
    exact ⟨_, s', rs', hK, h3, h4, vs, rfl, h5⟩
  | .agg rcs, a, y, s, rs, k, hi, hn, ha, hk => by
    unfold pk at hk
    split at hk
    case h_2 => cases hk
    rename_i cs hcs
    split at hk
    · obtain ⟨vs, rfl, hvs⟩ := ha
      cases hcs
      obtain ⟨cs', s', rs', hK, h3, h4, h5⟩ := pks_sound rcs hi hn hvs hk
      exact ⟨_, s', rs', hK, h3, h4, vs, rfl, h5⟩
    · rename_i arr _
      rw [show y = _ from ha]
      cases hcs
      obtain ⟨cs', s', rs', hK, h3, h4, h5⟩ := pks_sound rcs hi hn (Rs_vals arr.toList) hk
      exact ⟨_, s', rs', hK, h3, h4, arr.toList, by simp, h5⟩
    · cases hk
  | .tup rcs, a, y, s, rs, k, hi, hn, ha, hk => by
    unfold pk at hk
    split at hk
    case h_2 => cases hk
    split at hk
    case h_2 => cases hk
    obtain ⟨vs, rfl, hvs⟩ := ha
    obtain ⟨cs', s', rs', hK, h3, h4, h5⟩ := pks_sound rcs hi hn hvs hk
    exact ⟨_, s', rs', hK, h3, h4, vs, rfl, h5⟩
  | .dead, a, y, s, rs, k, hi, hn, ha, hk => ⟨.dead, s, rs, hk, hi, Ext.refl s, trivial⟩
  | .elt t, a, y, s, rs, k, hi, hn, ha, hk => by
    unfold pk at hk
    split at hk
    · exact ⟨_, s, rs, hk, hi, Ext.refl s, plain_step (fun _ _ h => h.1) rfl ha⟩
    · rename_i i off
      obtain ⟨hne, g, o, he, rfl⟩ := ha
      split at hk
      case h_1 => cases hk
      rename_i hf
      simp only [Eff.go] at hk
      have hok := H.ok i
      split at hk
      case h_2 => cases hk
      rename_i cs hbox
      split at hk
      case h_2 => cases hk
      rename_i hle
      have hle := Nat.le_of_ble_eq_true hle
      rw [hbox] at hok
      obtain ⟨g', o', C, e, vs, g1, g2, g3, g4⟩ := hok
      rw [he] at g1
      injection g1 with g1
      injection g1 with g1
      injection g1 with e1 e2
      subst e1 e2
      obtain ⟨cs', s', rs', hK, h3, h4, h5, h6⟩ := lendC_sound H _ hi (Rs_take (Rs_drop g3 off) t.sz) hk
      split at hK
      case h_2 => cases hK
      rename_i x hx
      obtain ⟨h7, h8⟩ := PI_lend h3 (i := i) (by rw [hbox]; trivial) (by rw [h5]; exact findM_none hf)
      refine ⟨_, _, _, hK, h7, h4.trans h8, g, o + off, (vs.drop off).take t.sz, rfl, ?_, ?_, fun j u hj => ?_⟩
      · rintro ⟨_, h9⟩
        exact h9 ⟨i, List.mem_cons_self, by rw [he]; rfl⟩
      · exact KR_step (D := fun _ => False) (Off.refl _ _) (fun _ _ h => h.elim) (Ms_mono h8.lent) t (dec_sound t hx h6)
      · rw [List.getElem?_take] at hj
        split at hj
        case isFalse => cases hj
        rw [List.getElem?_drop] at hj
        rw [cell_of_row w g _ C e (0, 0) g2, show o + off + j = o + (off + j) by omega]
        exact g4 _ _ hj
    · cases hk
theorem pks_sound : (rcs : List RC) → {as : List AV} → {ys : List Value} → {s : PS} → {rs : List Nat} → {k : List AV → PS → Eff α} → PI MX w ρ d hp s → n0 ≤ s.m.length → Rs (Mut MX hp ρ) w ρ hp as ys → (pks rcs as s k).go b hp rs ws K = some r →
    ∃ as' s' rs', (k as' s').go b hp rs' ws K = some r ∧ PI MX w ρ d hp s' ∧ Ext s s' ∧ RPs MX w ρ d hp s' as' ys
  | [], [], ys, s, rs, k, hi, hn, ha, hk => ⟨[], s, rs, hk, hi, Ext.refl s, ha⟩
  | [], _ :: _, ys, s, rs, k, hi, hn, ha, hk => by cases hk
  | _ :: _, [], ys, s, rs, k, hi, hn, ha, hk => by cases hk
  | c :: rcs, a :: as, ys, s, rs, k, hi, hn, ha, hk => by
    obtain ⟨v, q, rfl, h0, h1⟩ := ha
    unfold pks at hk
    obtain ⟨a', s1, rs1, hK1, g1, g2, g3⟩ := pk_sound c hi hn h0 hk
    have hn1 : n0 ≤ s1.m.length := by obtain ⟨rr, e⟩ := g2.m; rw [e]; simp; omega
    obtain ⟨as', s2, rs2, hK2, f1, f2, f3⟩ := pks_sound rcs g1 hn1 h1 hK1
    exact ⟨a' :: as', s2, rs2, hK2, f1, g2.trans f2, v, q, rfl, RP_ext g1 f2 g3, f3⟩
end
end
end Go.Proofs.YtbpeiilildchlaaGreatDoor.Abs
