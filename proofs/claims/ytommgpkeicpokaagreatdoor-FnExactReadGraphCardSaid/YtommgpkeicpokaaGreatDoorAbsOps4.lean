/- Operations that make memory: literals, make, slices, append, conversions. -/
import Derived.Test.YtommgpkeicpokaaGreatDoorAbsOps3
import Derived.Maps.AppendAt
import Derived.Laws.AppendOwnNone
import Derived.Laws.BytesString
namespace Go.Proofs.YtommgpkeicpokaaGreatDoor.Abs
open Go Go.RowKit
set_option linter.unusedVariables false
set_option linter.unusedSectionVars false
set_option linter.unusedSimpArgs false

/-- Parts and their values. -/
def PartsR (M : Nat → Prop) (w : World) (ρ : Nat → Value) (hp : Heap) : List (Nat × AV) → List (Nat × Value) → Prop
  | [], vs => vs = []
  | (i, x) :: ps, vs => ∃ v r, vs = (i, v) :: r ∧ R M w ρ hp x v ∧ PartsR M w ρ hp ps r

theorem foldl_splice (off : Nat) : ∀ (l : List Value) (k : Nat) (cs : Array Value), off + k + l.length ≤ cs.size →
    ((l.zipIdx k).foldl (fun cs (p : Value × Nat) => cs.setIfInBounds (off + p.2) p.1) cs) = (cs.toList.take (off + k) ++ l ++ cs.toList.drop (off + k + l.length)).toArray
  | [], k, cs, _ => by simp
  | x :: l, k, cs, h => by
    simp only [List.length_cons] at h
    rw [List.zipIdx_cons, List.foldl_cons, foldl_splice off l (k + 1) _ (by simp; omega)]
    congr 1
    apply List.ext_getElem?
    intro j
    simp only [Array.toList_setIfInBounds, List.append_assoc, List.length_cons]
    have hl : (cs.toList.set (off + k) x).length = cs.size := by simp
    by_cases h1 : j < off + k
    · rw [List.getElem?_append_left (by simp; omega), List.getElem?_append_left (by simp; omega), List.getElem?_take, List.getElem?_take, if_pos (by omega), if_pos h1, List.getElem?_set_ne (by omega)]
    · have ht2 : (cs.toList.take (off + k)).length = off + k := by simp; omega
      have ht1 : ((cs.toList.set (off + k) x).take (off + (k + 1))).length = off + k + 1 := by simp; omega
      by_cases h2 : j = off + k
      · subst h2
        rw [List.getElem?_append_left (by omega), List.getElem?_take, if_pos (by omega), List.getElem?_set_self (by simp; omega), List.getElem?_append_right (by omega), ht2]
        simp
      · rw [List.getElem?_append_right (by omega), ht1, List.getElem?_append_right (l₁ := cs.toList.take (off + k)) (by omega), ht2]
        rw [show j - (off + k) = (j - (off + k + 1)) + 1 by omega]
        simp only [List.cons_append, List.getElem?_cons_succ]
        by_cases h3 : j - (off + k + 1) < l.length
        · rw [List.getElem?_append_left h3, List.getElem?_append_left h3]
        · rw [List.getElem?_append_right (by omega), List.getElem?_append_right (by omega), List.getElem?_drop, List.getElem?_drop, List.getElem?_set_ne (by omega)]
          congr 1
          omega

theorem fill_sound {M : Nat → Prop} {w : World} {ρ : Nat → Value} {hp : Heap} {place placeC : Nat → Option (Nat × Nat)} (hpl : ∀ i p, place i = some p → placeC i = some p) : {ps : List (Nat × AV)} → {vs : List (Nat × Value)} → {cs cs' : List AV} → {us : List Value} →
    PartsR M w ρ hp ps vs → Rs M w ρ hp cs us → fillA place cs ps = some cs' → ∃ us' : List Value, Instr.fill placeC us.toArray vs = some us'.toArray ∧ Rs M w ρ hp cs' us' ∧ cs'.length = cs.length
  | [], _, cs, cs', us, hp, hr, h => by
    cases hp
    injection h with h
    subst h
    exact ⟨us, rfl, hr, rfl⟩
  | (i, x) :: ps, _, cs, cs', us, ⟨v, q, e, hx, hps⟩, hr, h => by
    subst e
    unfold fillA at h
    split at h
    case h_2 => cases h
    rename_i off n vs hi hc
    split at h
    case h_2 => cases h
    rename_i h1 h2
    have h1 := Nat.eq_of_beq_eq_true h1
    have h2 := Nat.le_of_ble_eq_true h2
    obtain ⟨ys, hys, hry⟩ := cellsOf_sound hx hc
    have hyl : ys.length = vs.length := Rs_len hry
    have hul : us.length = cs.length := Rs_len hr
    obtain ⟨us', h3, h4, h5⟩ := fill_sound hpl hps (Rs_splice hr hry off) h
    refine ⟨us', ?_, h4, ?_⟩
    · have hsz : v.cells.size = n := by rw [← h1, ← hyl, ← hys]; simp
      have hf := foldl_splice off ys 0 us.toArray (by simp; omega)
      unfold Instr.fill
      rw [hpl _ _ hi]
      simp only
      rw [if_neg (by simp [hsz]; omega)]
      rw [← h3]
      congr 1
      rw [← Array.foldl_toList, Array.toList_zipIdx, hys]
      rw [show (fun (cs : Array Value) (x : Value × Nat) => match x with | (c, j) => cs.setIfInBounds (off + j) c) = fun cs p => cs.setIfInBounds (off + p.2) p.1 from rfl, hf]
      simp
    · rw [h5]
      unfold splice
      simp only [List.length_append, List.length_take, List.length_drop]
      omega

section
variable {Rt : Type} {P : Program} {MX : Nat → Prop} {w : World} {ρ : Nat → Value} {hp : Heap} {b : Nat} {rs ws : List Nat} {K : AV → Nat → Heap → List Nat → List Nat → Option Rt} {r : Rt}

theorem buildE_sound {M : Nat → Prop} {T : TypeId} {ps : List (Nat × AV)} {vs : List (Nat × Value)} (hps : PartsR M w ρ hp ps vs) (hk : (buildE P T ps).go b hp rs ws K = some r) :
    ∃ x v, K x b hp rs ws = some r ∧ (Instr.build T vs.toArray).run P w = .ok v w ∧ R M w ρ hp x v := by
  unfold buildE at hk
  split at hk
  case h_2 => cases hk
  rename_i fs z hu hz
  split at hk
  case h_2 => cases hk
  rename_i pl hpl
  split at hk
  case h_2 => cases hk
  rename_i cs hf
  obtain ⟨i, z', hi, hz', hr⟩ := zeroCellsAt_some hz
  obtain ⟨us, h1, h2, _⟩ := fill_sound (placeC := (pl.toArray[·]?)) (fun i p h => by simpa using h) hps (hr M w ρ hp) hf
  refine ⟨_, .agg us.toArray, hk, run_build w T _ _ ?_, us, rfl, h2⟩
  unfold Program.built
  rw [hi, hu]
  simp only
  unfold placesOf at hpl
  rw [hz', hpl]
  simpa using h1

/-- A new row. -/
theorem nw_row (H : HRel MX w ρ hp) {e : TypeId} {t : Ty} {l : List t.den} {us : List Value} {cap : Nat} {cur : Array Value} (hels : Els (t.KR (Mut MX hp ρ) w) l us) (hle : l.length ≤ cap) (hmax : cap ≤ maxLen) (hcur : cur.size = cap * t.sz) (htk : cur.toList.take (l.length * t.sz) = us)
    (hk : (Eff.nw (.row e t l) fun i => .ret (.own i)).go b hp rs ws K = some r) :
    ∃ x b' hp' rs' ws' ρ', K x b' hp' rs' ws' = some r ∧ Step MX w ρ hp (w.alloc (.cells cur e)) ρ' hp' ∧ R (Mut MX hp' ρ') (w.alloc (.cells cur e)) ρ' hp' x (.slice (some ⟨w.heap.size, 0, none⟩) l.length cap) := by
  simp only [Eff.go] at hk
  split at hk
  case h_2 => cases hk
  rename_i hu
  refine ⟨_, _, _, _, _, upd ρ b (.slice (some ⟨w.heap.size, 0, none⟩) l.length cap), hk, Step.alloc H hu rfl ?_, ?_⟩
  · intro M ρ' hp' old hv hM
    refine ⟨us, ?_, Els.imp (fun _ _ h => KR_step (D := fun _ => False) (Off.alloc _ _ _) (fun _ _ h => h.elim) hM t h) hels⟩
    rw [hv]
    exact ⟨Els.len (fun _ _ h => KR_len t h) hels, .inr ⟨w.heap.size, cap, cur, rfl, Nat.zero_le _, heap_alloc_new w _, hle, hmax, hcur, htk⟩⟩
  · exact ⟨by rw [upd_same]; simp, by rw [upd_same]; rfl, _, _, _, rfl⟩

theorem nilLast_some : {zs : List AV} → nilLast zs = true → ∃ fs, zs = fs ++ [.v (.slice none 0 0)]
  | [], h => by cases h
  | [c], h => by
    unfold nilLast at h
    split at h
    · rename_i heq; cases heq
    · rename_i heq; exact ⟨[], heq⟩
    · rename_i heq
      injection heq with h1 h2
      rw [← h2] at h
      cases h
  | c :: c' :: cs, h => by
    have e : nilLast (c :: c' :: cs) = nilLast (c' :: cs) := by
      rw [nilLast]
      intro h h'
      cases h'
    rw [e] at h
    obtain ⟨fs, hfs⟩ := nilLast_some h
    exact ⟨c :: fs, by rw [hfs]; rfl⟩

/-- The cells of an element whose last is no slice. -/
theorem decN_sound {M : Nat → Prop} : (t : Ty) → t.nest = true → {fl : List AV} → {y : t.den} → {us : List Value} → t.dec (fl ++ [.v (.slice none 0 0)]) = some y → Rs M w ρ hp fl us → KT M w t y (.slice none 0 0) (us ++ [.slice none 0 0]) ∧ t.get y = []
  | .sl b, _, fl, y, us, h, hr => by
    have hl := dec_len (.sl b) h
    have hfl : fl = [] := by
      cases fl with
      | nil => rfl
      | cons a r => simp [Ty.sz] at hl
    subst hfl
    cases hr
    simp only [List.nil_append, Ty.dec] at h
    injection h with h
    exact ⟨rfl, h.symm⟩
  | .pair a b, hn, fl, y, us, h, hr => by
    have hl := dec_len (.pair a b) h
    have hb := b.sz_pos
    have hl2 : fl.length + 1 = a.sz + b.sz := by
      rw [List.length_append] at hl
      exact hl
    have e1 : (fl ++ [AV.v (.slice none 0 0)]).take a.sz = fl.take a.sz := List.take_append_of_le_length (by omega)
    have e2 : (fl ++ [AV.v (.slice none 0 0)]).drop a.sz = fl.drop a.sz ++ [.v (.slice none 0 0)] := List.drop_append_of_le_length (by omega)
    unfold Ty.dec at h
    rw [e1, e2] at h
    split at h
    case h_2 => cases h
    rename_i x1 hx1
    split at h
    case h_2 => cases h
    rename_i x2 hx2
    injection h with h
    subst h
    obtain ⟨g1, g2⟩ := decN_sound b hn hx2 (Rs_drop hr a.sz)
    refine ⟨⟨us.take a.sz, us.drop a.sz ++ [.slice none 0 0], ?_, dec_sound a hx1 (Rs_take hr a.sz), g1⟩, g2⟩
    rw [← List.append_assoc, List.take_append_drop]

theorem decL_sound {M : Nat → Prop} {t : Ty} : {n : Nat} → {cs : List AV} → {l : List t.den} → {vs : List Value} → decL t n cs = some l → Rs M w ρ hp cs vs → Els (t.KR M w) l vs ∧ l.length = n
  | 0, cs, l, vs, h, hr => by
    unfold decL at h
    split at h
    · injection h with h; subst h; cases hr; exact ⟨rfl, rfl⟩
    · cases h
  | n + 1, cs, l, vs, h, hr => by
    unfold decL at h
    split at h
    case h_2 => cases h
    rename_i x q hx hq
    injection h with h
    subst h
    obtain ⟨h1, h2⟩ := decL_sound hq (Rs_drop hr t.sz)
    exact ⟨⟨vs.take t.sz, vs.drop t.sz, (List.take_append_drop _ _).symm, dec_sound t hx (Rs_take hr _), h1⟩, by simp [h2]⟩

def replV : Nat → List Value → List Value
  | 0, _ => []
  | n + 1, z => replV n z ++ z

theorem Rs_repl {M : Nat → Prop} {z : List AV} {zs : List Value} (h : Rs M w ρ hp z zs) : (n : Nat) → Rs M w ρ hp (repl n z) (replV n zs)
  | 0 => rfl
  | n + 1 => Rs_append (Rs_repl h n) h

theorem madeCells_repl (z : Array Value) (hz : 0 < z.size) : (n : Nat) → (madeCells z (n * z.size)).toList = replV n z.toList
  | 0 => by simp [madeCells, replV]
  | n + 1 => by
    rw [replV, ← madeCells_repl z hz n]
    simp only [madeCells, Array.toList_map, Array.toList_range, Nat.add_mul, Nat.one_mul, List.range_add, List.map_append, List.map_map]
    congr 1
    apply List.ext_getElem?
    intro j
    by_cases hj : j < z.size
    · simp [hj, Nat.mul_add_mod_self_right, Nat.mod_eq_of_lt hj]
    · simp [hj]

theorem buildSliceE_sound (H : HRel MX w ρ hp) {T n : Nat} {ps : List (Nat × AV)} {vs : List (Nat × Value)} (hps : PartsR (Mut MX hp ρ) w ρ hp ps vs) (hk : (buildSliceE P T n ps).go b hp rs ws K = some r) :
    ∃ x b' hp' rs' ws' v w' ρ', K x b' hp' rs' ws' = some r ∧ (Instr.buildSlice T n vs.toArray).run P w = .ok v w' ∧ Step MX w ρ hp w' ρ' hp' ∧ R (Mut MX hp' ρ') w' ρ' hp' x v := by
  unfold buildSliceE at hk
  split at hk
  case h_2 => cases hk
  rename_i e hu
  split at hk
  case h_2 => cases hk
  rename_i t s z ht hs hz
  split at hk
  case h_2 => cases hk
  rename_i h1 h2 h3 h4
  have h1 := Nat.eq_of_beq_eq_true h1
  have h2 := Nat.eq_of_beq_eq_true h2
  have h3 := Nat.le_of_ble_eq_true h3
  have h4 := Nat.le_of_ble_eq_true h4
  split at hk
  case h_2 => cases hk
  rename_i cs hf
  obtain ⟨i, z', hi, hz', hr⟩ := zeroCellsAt_some hz
  have hzl : z'.cells.size = s := by
    have := Rs_len (hr (fun _ => False) w ρ hp)
    simp at this; omega
  obtain ⟨us, hfill, hrs, hlen⟩ := fill_sound (placeC := fun i => some (i * s, s)) (fun i p h => h) hps (Rs_repl (hr (Mut MX hp ρ) w ρ hp) n) hf
  obtain ⟨cs', hp1, rs1, ws1, hK1, hs1, hr1, hl1⟩ := settle_sound H hrs hk
  split at hK1
  case h_2 => cases hK1
  rename_i l hl
  obtain ⟨hels, hln⟩ := decL_sound hl hr1
  subst h1
  have hul : us.length = n * t.sz := by
    have h5 := Els.len (fun _ _ h => KR_len t h) hels
    rw [h5, hln]
  have hn : n ≤ n * t.sz := Nat.le_mul_of_pos_right n h4
  obtain ⟨x, b', hp', rs', ws', ρ', hK, hst, hR⟩ := nw_row (cap := n) (cur := us.toArray) hs1.rel hels (by omega) (by unfold maxLen; omega) (by simpa using hul) (by simp only []; rw [hln, ← hul]; exact List.take_length) hK1
  rw [hln] at hR
  refine ⟨x, b', hp', rs', ws', _, _, ρ', hK, ?_, hs1.trans hst, hR⟩
  have hmade : (Array.range (n * t.sz)).map (z'.cells[· % z'.cells.size]!) = (replV n z'.cells.toList).toArray := by
    have := madeCells_repl z'.cells (by omega) n
    unfold madeCells at this
    rw [hzl] at this
    rw [hzl, ← this]
  have hbig : ¬ (2 ^ 24 < n * t.sz) := by omega
  by_cases h0 : n * t.sz = 0
  · have hn0 : n = 0 := by omega
    subst hn0
    simp only [replV, List.toArray] at hfill
    simp [Instr.buildSlice, run_underlying hu, run_sizeOf hs, newRow]
    have e0 : Array.map (fun (_ : Nat) => (default : Value)) (Array.range 0) = #[] := by rw [Array.range_zero', Array.map_empty]
    rw [e0, show Instr.fill (fun i => some (i * t.sz, t.sz)) #[] vs = some us.toArray from hfill]
    simp
  · simp [Instr.buildSlice, run_underlying hu, run_sizeOf hs, hbig, h0, zeroValue, typeInfo, hi, hz', newRow]
    rw [hmade, hfill]
    simp
end
end Go.Proofs.YtommgpkeicpokaaGreatDoor.Abs
