/- Maps with keys of int64, and the rows that []byte(s) makes: what stands there, read and written. -/
import Derived.Maps.OwnOps
import Derived.WalkKit
import Derived.Lib.ConvBytes
import Derived.Laws.AppendOwn
import Derived.Below
import Derived.Test.YtommgpkeicpokaaGreatDoorAbsDef
namespace Go.Proofs.YtommgpkeicpokaaGreatDoor.Abs
open Go Go.MapKept Go.ChangeMaps Go.RowKit
set_option linter.unusedVariables false
set_option linter.unusedSectionVars false
set_option linter.unusedSimpArgs false
section
variable {α : Type} {P : Program} {w : World} {b : Nat} {enc : α → Value} {f : Int → Option α}
/-- Block b is a map: at each number what f says. -/
def MapI (w : World) (b : Nat) (enc : α → Value) (f : Int → Option α) : Prop :=
  ∃ es clock, w.heap[b]? = some (.map es clock) ∧ Stamped es clock ∧ (∀ x ∈ es.toList, ∃ n v, x.key = .int .i64 n ∧ x.val = enc v ∧ f n = some v) ∧ ∀ n v, f n = some v → ∃ x ∈ es.toList, x.key = .int .i64 n ∧ x.val = enc v
theorem MapI.kept {w' : World} (h : MapI w b enc f) (hb : w'.heap[b]? = w.heap[b]?) : MapI w' b enc f := by
  obtain ⟨es, clock, h1, h2⟩ := h
  exact ⟨es, clock, hb.trans h1, h2⟩
theorem MapI.lt (h : MapI w b enc f) : b < w.heap.size := by
  obtain ⟨es, clock, h1, h2⟩ := h
  exact (Array.getElem?_eq_some_iff.1 h1).1
theorem MapI.below {w' : World} (h : MapI w b enc f) (hb : Below w.heap.size w w') : MapI w' b enc f := h.kept (hb.block b h.lt)
theorem MapI.congr {g : Int → Option α} (h : MapI w b enc f) (e : ∀ n, f n = g n) : MapI w b enc g := by
  obtain rfl : f = g := funext e
  exact h
theorem MapI.made {clock : Nat} (hb : w.heap[b]? = some (.map #[] clock)) : MapI w b enc (fun _ => none) :=
  ⟨#[], clock, hb, stamped_empty _, by simp, fun n v h => by cases h⟩
theorem MapI.no_cells (h : MapI w b enc f) {cs : Array Value} {t : Nat} {fr : Nat × Nat} {g : Nat} (hg : w.heap[g]? = some (.cells cs t fr)) : g ≠ b := by
  rintro rfl
  obtain ⟨es, clock, h1, _⟩ := h
  rw [h1] at hg
  cases hg
theorem isKey_int (n : Int) : IsKey (.int .i64) (.int .i64 n) := rfl
theorem MapI.keys {es : Array MapEntry} (h : ∀ x ∈ es.toList, ∃ n v, x.key = .int .i64 n ∧ x.val = enc v ∧ f n = some v) : ∀ x ∈ es.toList, IsKey (.int .i64) x.key := fun x hx => by
  obtain ⟨n, v, e, _⟩ := h x hx
  rw [e]
  exact isKey_int n
variable {t k e : TypeId}
theorem MapI.look (h : MapI w b enc f) (ht : P.underlying t = some (.map k e)) (hk : P.underlying k = some (.int .i64)) {z : Value} (hz : (zeroValue e).run P w = .ok z w) (n : Int) :
    (Instr.lookup t (.map (some b)) (.int .i64 n) false).run P w = .ok (((f n).map enc).getD z) w := by
  obtain ⟨es, clock, hb, hs, h1, h2⟩ := h
  rcases findNow_spec (isKey_int n) es.toList 0 (MapI.keys h1) with ⟨e1, e2⟩ | ⟨j, e0, e1, e2, e3⟩
  · have hn : f n = none := by
      cases hf : f n with
      | none => rfl
      | some v =>
        obtain ⟨x, hx, hxk, _⟩ := h2 n v hf
        exact absurd hxk (e2 x hx)
    simp [Instr.lookup, run_underlying ht, MapKept.run_getObj_map hb, MapKept.run_checkKey hk (isKey_int n), MapKept.run_findKey hk e1, hz, hn, Result.andThen]
  · obtain ⟨m, v, hm1, hm2, hm3⟩ := h1 e0 (List.mem_of_getElem? e2)
    obtain rfl : m = n := by
      rw [hm1] at e3
      injection e3
    simp [Instr.lookup, run_underlying ht, MapKept.run_getObj_map hb, MapKept.run_checkKey hk (isKey_int m), MapKept.run_findKey hk e1, hm3, hm2, Result.andThen]
theorem MapI.put (h : MapI w b enc f) (ht : P.underlying t = some (.map k e)) (hk : P.underlying k = some (.int .i64)) (n : Int) (v : α) :
    ∃ w', (Instr.mapUpdate t (.map (some b)) (.int .i64 n) (enc v)).run P w = .ok () w' ∧ MapI w' b enc (fun m => if m = n then some v else f m) ∧ w.grownBy w' (some b) ∧ w'.heap.size = w.heap.size := by
  obtain ⟨es, clock, hb, hs, h1, h2⟩ := h
  have hpair := ((stamped_iff es clock).1 hs).2.2
  rcases findNow_spec (isKey_int n) es.toList 0 (MapI.keys h1) with ⟨e1, e2⟩ | ⟨j, e0, e1, e2, e3⟩
  · refine ⟨setBlock w b (.map (es.push ⟨.int .i64 n, enc v, clock⟩) (clock + 1)), ?_, ⟨_, _, heap_setBlock_same hb _, stamped_push hs e2, ?_, ?_⟩, ⟨rfl, rfl, rfl, by simp [setBlock], fun i _ hi => heap_setBlock_other hb _ (fun e => hi (by rw [e]))⟩, by simp [setBlock]⟩
    · simp [Instr.mapUpdate, run_underlying ht, MapKept.run_getObj_map hb, MapKept.run_checkKey hk (isKey_int n), MapKept.run_findKey hk e1, MapKept.run_setObj_map _ hb, Result.andThen, setBlock]
    · intro x hx
      simp only [Array.toList_push, List.mem_append, List.mem_singleton] at hx
      rcases hx with hx | rfl
      · obtain ⟨m, u, hm1, hm2, hm3⟩ := h1 x hx
        refine ⟨m, u, hm1, hm2, ?_⟩
        have hne : m ≠ n := fun e => e2 x hx (by rw [hm1, e])
        simp only [if_neg hne, hm3]
      · exact ⟨n, v, rfl, rfl, by simp⟩
    · intro m u hm
      simp only [Array.toList_push, List.mem_append, List.mem_singleton]
      by_cases c : m = n
      · subst c
        simp only [if_true] at hm
        obtain rfl := Option.some.inj hm
        exact ⟨_, .inr rfl, rfl, rfl⟩
      · simp only [if_neg c] at hm
        obtain ⟨x, hx, hx1, hx2⟩ := h2 m u hm
        exact ⟨x, .inl hx, hx1, hx2⟩
  · have hj : es[j]? = some e0 := by simpa using e2
    have hjl : j < es.toList.length := (List.getElem?_eq_some_iff.1 e2).1
    have hkeyf : ∀ e', es[j]? = some e' → ({ e' with key := .int .i64 n, val := enc v } : MapEntry).key = e'.key := fun e' he' => by rw [hj] at he'; cases he'; exact e3.symm
    have hlist : (es.modify j (fun e' => { e' with key := .int .i64 n, val := enc v })).toList = es.toList.set j { e0 with key := .int .i64 n, val := enc v } := by
      rw [Array.toList_modify, modify_eq_set _ _ _ _ e2]
    refine ⟨setBlock w b (.map (es.modify j (fun e' => { e' with key := .int .i64 n, val := enc v })) clock), ?_, ⟨_, _, heap_setBlock_same hb _, stamped_modify hs _ _ (fun _ _ => rfl) (fun e' _ he' => hkeyf e' he'), ?_, ?_⟩, ⟨rfl, rfl, rfl, by simp [setBlock], fun i _ hi => heap_setBlock_other hb _ (fun e => hi (by rw [e]))⟩, by simp [setBlock]⟩
    · simp [Instr.mapUpdate, run_underlying ht, MapKept.run_getObj_map hb, MapKept.run_checkKey hk (isKey_int n), MapKept.run_findKey hk e1, hj, e3, MapKept.run_keyThatStays (isKey_int n), MapKept.run_setObj_map _ hb, Result.andThen, setBlock]
    · rw [hlist]
      intro x hx
      obtain ⟨i, hi, rfl⟩ := List.getElem_of_mem hx
      rw [List.getElem_set]
      split
      · exact ⟨n, v, rfl, rfl, by simp⟩
      · rename_i hne
        have hi' : i < es.toList.length := by rw [List.length_set] at hi; exact hi
        obtain ⟨m, u, hm1, hm2, hm3⟩ := h1 es.toList[i] (List.getElem_mem hi')
        refine ⟨m, u, hm1, hm2, ?_⟩
        have hmn : m ≠ n := by
          rintro rfl
          have he0 : es.toList[j] = e0 := (List.getElem?_eq_some_iff.1 e2).2
          rcases Nat.lt_or_gt_of_ne hne with c | c
          · exact List.pairwise_iff_getElem.1 hpair j i hjl hi' c (by rw [he0, e3, hm1])
          · exact List.pairwise_iff_getElem.1 hpair i j hi' hjl c (by rw [he0, e3, hm1])
        simp only [if_neg hmn, hm3]
    · rw [hlist]
      intro m u hm
      by_cases c : m = n
      · subst c
        simp only [if_true] at hm
        obtain rfl := Option.some.inj hm
        exact ⟨_, List.mem_set hjl _, rfl, rfl⟩
      · simp only [if_neg c] at hm
        obtain ⟨x, hx, hx1, hx2⟩ := h2 m u hm
        obtain ⟨i, hi, rfl⟩ := List.getElem_of_mem hx
        have hne : j ≠ i := by
          rintro rfl
          have he0 : es.toList[j] = e0 := (List.getElem?_eq_some_iff.1 e2).2
          rw [he0, e3] at hx1
          injection hx1 with _ hx1
          exact c hx1.symm
        refine ⟨es.toList[i], ?_, hx1, hx2⟩
        rw [← List.getElem_set_ne hne (l := es.toList) (a := { e0 with key := .int .i64 n, val := enc v }) (by rw [List.length_set]; exact hi)]
        exact List.getElem_mem _
end
/-- Block B of W holds the bytes xs, then spare cells up to c, with the conversion's mark behind all, or none. -/
def BRow (W : World) (B : Nat) (xs : List Int) (c : Nat) : Prop :=
  ∃ (extra : List Value) (e : TypeId) (fr : Nat × Nat), xs.length + extra.length = c ∧ (fr = (0, 0) ∨ fr = (c, c + 1)) ∧ W.heap[B]? = some (.cells (xs.map (Value.int .u8) ++ extra).toArray e fr)
theorem numsOf_length (s : ByteArray) : (numsOf s).length = s.size := by simp [numsOf]
theorem BRow.of_bytes (W : World) (e : TypeId) (s : ByteArray) (hc : s.size ≤ grownCap W s.size 0 e) : BRow (Lib.bytesWorld W e s) W.heap.size (numsOf s) (grownCap W s.size 0 e) := by
  refine ⟨Array.toList (Array.replicate (grownCap W s.size 0 e - s.size) (.int .u8 0)), e, (grownCap W s.size 0 e, grownCap W s.size 0 e + 1), ?_, .inr rfl, ?_⟩
  · simp [numsOf_length]
    omega
  rw [Lib.bytesWorld_at_new]
  have h : Lib.bytesCells W e s = ((numsOf s).map (Value.int .u8) ++ (Array.replicate (grownCap W s.size 0 e - s.size) (Value.int .u8 0)).toList).toArray := by
    unfold Lib.bytesCells
    apply Array.ext'
    simp [numsOf]
  rw [h]
  have hz : s.size + (grownCap W s.size 0 e - s.size) = grownCap W s.size 0 e := by omega
  simp [numsOf_length, hz]
theorem BRow.cell {W : World} {B c : Nat} {xs : List Int} (h : BRow W B xs c) {i : Nat} (hi : i < xs.length) : W.cell? ⟨B, i, none⟩ = some (.int .u8 (xs.getD i 0)) := by
  obtain ⟨extra, e, fr, _, _, h⟩ := h
  simp only [World.cell?, h]
  simp [hi, List.getElem?_append, List.getD_eq_getElem?_getD]
theorem BRow.frozen' {W : World} {B c : Nat} {xs : List Int} (h : BRow W B xs c) {i : Nat} (hi : i < c) : W.frozen? ⟨B, i, none⟩ = false := by
  obtain ⟨extra, e, fr, hc, hf, h⟩ := h
  simp only [World.frozen?, h]
  rcases hf with rfl | rfl
  · simp
  · simp
    omega
theorem BRow.frozen {W : World} {B c : Nat} {xs : List Int} (h : BRow W B xs c) {i : Nat} (hi : i < xs.length) : W.frozen? ⟨B, i, none⟩ = false := by
  have h0 := h
  obtain ⟨extra, e, fr, hc, hf, _⟩ := h0
  exact h.frozen' (by omega)
theorem BRow.lt {W : World} {B c : Nat} {xs : List Int} (h : BRow W B xs c) : B < W.heap.size := by
  obtain ⟨extra, e, fr, _, _, h⟩ := h
  exact (Array.getElem?_eq_some_iff.1 h).1
theorem BRow.set {W : World} {B c : Nat} {xs : List Int} (h : BRow W B xs c) {i : Nat} (hi : i < xs.length) (v : Int) : BRow (W.setCell ⟨B, i, none⟩ (.int .u8 v)) B (xs.set i v) c := by
  obtain ⟨extra, e, fr, hc, hf, h⟩ := h
  refine ⟨extra, e, fr, by rw [List.length_set]; exact hc, hf, ?_⟩
  have hlt : B < W.heap.size := (Array.getElem?_eq_some_iff.1 h).1
  have hv : W.heap[B] = _ := (Array.getElem?_eq_some_iff.1 h).2
  simp only [World.setCell]
  rw [Array.getElem?_eq_getElem (by simpa using hlt), Array.getElem_modify]
  simp [hv, List.map_set, List.set_append, hi]
theorem BRow.same {W W1 : World} {B c : Nat} {xs : List Int} (h : BRow W B xs c) (he : W1.heap[B]? = W.heap[B]?) : BRow W1 B xs c := by
  obtain ⟨extra, e, fr, hc, hf, h⟩ := h
  exact ⟨extra, e, fr, hc, hf, he.trans h⟩
/-- What a store leaves: that cell alone. -/
theorem run_store_byte {P : Program} {W : World} {B c : Nat} {xs : List Int} (h : BRow W B xs c) {i : Nat} (hi : i < xs.length) (v : Int) : (store ⟨B, i, none⟩ (.int .u8 v)).run P W = .ok () (W.setCell ⟨B, i, none⟩ (.int .u8 v)) := by
  unfold store
  simp [Sem.run, h.cell hi, h.frozen hi]
theorem setCell_other (W : World) (a : Addr) (v : Value) (b : Nat) (hb : b ≠ a.block) : (W.setCell a v).heap[b]? = W.heap[b]? := by
  simp [World.setCell, Array.getElem?_modify, Ne.symm hb]
theorem setCell_size (W : World) (a : Addr) (v : Value) : (W.setCell a v).heap.size = W.heap.size := by simp [World.setCell]
/-- What storing bytes one behind the other leaves. -/
theorem run_store_bytes {P : Program} {B c : Nat} : (ys : List Int) → {W : World} → {xs : List Int} → BRow W B xs c → (lo k : Nat) → lo + k + ys.length ≤ xs.length →
    ∃ W', (storeCells ⟨B, lo, none⟩ (ys.map (Value.int .u8)) k).run P W = .ok () W' ∧ BRow W' B (xs.take (lo + k) ++ (ys ++ xs.drop (lo + k + ys.length))) c ∧ W'.heap.size = W.heap.size ∧ W'.os = W.os ∧ W'.tape = W.tape ∧ W'.output = W.output ∧ ∀ b, b ≠ B → W'.heap[b]? = W.heap[b]?
  | [], W, xs, h, lo, k, _ => by
    refine ⟨W, by simp [storeCells], ?_, rfl, rfl, rfl, rfl, fun _ _ => rfl⟩
    simpa using h
  | y :: ys, W, xs, h, lo, k, hl => by
    simp only [List.length_cons] at hl
    have h1 := h.set (i := lo + k) (by omega) y
    obtain ⟨W', g1, g2, g3, g4, g5, g6, g7⟩ := run_store_bytes (P := P) ys h1 lo (k + 1) (by simp; omega)
    refine ⟨W', ?_, ?_, by rw [g3, setCell_size], g4, g5, g6, fun b hb => by rw [g7 b hb, setCell_other _ _ _ _ hb]⟩
    · simp only [List.map_cons, storeCells]
      rw [Sem.run_bind, show (⟨B, lo, none⟩ : Addr).add k = ⟨B, lo + k, none⟩ from ?_, run_store_byte h (by omega) y]
      · exact g1
      · unfold Addr.add
        split
        · rename_i h0; subst h0; rfl
        · rfl
    · have e : xs.take (lo + k) ++ (y :: ys ++ xs.drop (lo + k + (y :: ys).length)) = (xs.set (lo + k) y).take (lo + (k + 1)) ++ (ys ++ (xs.set (lo + k) y).drop (lo + (k + 1) + ys.length)) := by
        simp only [List.length_cons]
        rw [List.drop_set_of_lt (by omega), List.take_set, show lo + (k + 1) = (lo + k) + 1 by omega, List.take_succ_eq_append_getElem (by omega : lo + k < xs.length), List.set_append_right _ _ (by simp; omega)]
        have : (xs.take (lo + k)).length = lo + k := by simp; omega
        rw [this, Nat.sub_self]
        simp
        omega
      rw [e]
      exact g2
end Go.Proofs.YtommgpkeicpokaaGreatDoor.Abs
