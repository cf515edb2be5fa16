/- Lean functions, walks and rows for the seat Ytnhladaobcnmhaa, written by a program of this repo (wip/tools/xprint.py). -/
import Derived.Test.YtnhladaobcnmhaaX0
import Derived.Deep.LoopGhost
import Derived.Lib.Walk
import Derived.Lib.SliceRun
import Derived.Lib.Hide
import Derived.Lib.AppendZeros
import Derived.Lib.AppendZerosOnto
import Derived.Lib.Overlaps
import Derived.Laws.Externs
import Derived.Laws.IdiomCopy
import Derived.Laws.NewBlocks
import Derived.Shelf.Spec.SlicesInsert
import Derived.Deep.RegionHeld3
namespace Go.Proofs.Ytnhladaobcnmhaa.X
open Go.RowKit Go.Proofs.YtnhladaobcnmhaaW.PrintWords Go.Proofs.YtnhladaobcnmhaaW.PrintLast Go.Proofs.YtnhladaobcnmhaaW.PrintMore
attribute [local go_sem] max2_int min2_int max_two min_two max_three min_three max_four min_four   -- for this text's walks alone
set_option linter.unusedVariables false
set_option linter.unusedSimpArgs false

/-! ### slices_Insert_int64_int64: function 101 -/

def slices_Insert_int64_int64.f (l0 : List Int) (a1 : Int) (l2 : List Int) : Option (List Int) := if 0 ≤ a1 then (if a1 ≤ l0.length then (if 0 < l2.length then (if l0.length + l2.length ≤ 1099511627776 then some (l0.take a1.toNat ++ (l2 ++ l0.drop a1.toNat)) else none) else none) else none) else none
theorem slices_Insert_int64_int64.info : ∃ i0, Try.prog.info? 2 = some i0 ∧ i0.zero = some (.int .i64 0) ∧ i0.size = 1 ∧ i0.bytes = 8 := by
  have h := info2
  rw [Option.map_eq_some_iff] at h
  obtain ⟨i0, h1, h2⟩ := h
  simp only [Prod.mk.injEq] at h2
  exact ⟨i0, h1, h2.1, h2.2.1, h2.2.2⟩
theorem slices_Insert_int64_int64.size : (Go.Proofs.Try.prog.info? 2).map (·.size) = some 1 := by
  obtain ⟨i0, h, _, h1, _⟩ := slices_Insert_int64_int64.info
  rw [h]
  simp [h1]
set_option maxHeartbeats 4000000 in
set_option maxRecDepth 100000 in
/-- At the end. -/
theorem slices_Insert_int64_int64.atEnd (v0 : Value) (n vg m vc B : Nat) (cs vs : List Value) (w : World) (hB : B ≤ w.heap.size) (hown : w.ownsRow B 2 1 v0 n cs) (hm : 0 < m) (hvl : vs.length = m) (hsum : n + m ≤ 1099511627776)
    (hvs : ∀ j u, vs[j]? = some u → w.cell? ⟨vg, j, none⟩ = some u) (h1v : ∀ u ∈ vs, u.oneCell' = true) :
    Calls Try.prog 101 #[v0, .int .i64 n, .slice (some ⟨vg, 0, none⟩) m vc] w fun e w' => ∃ v', e = .returned v' ∧ w'.ownsRow B 2 1 v' (n + m) (cs ++ vs) ∧ w.grownBy w' v0.ownBlock ∧ (v'.ownBlock = v0.ownBlock ∨ v'.ownBlock = some w.heap.size) := by
  obtain ⟨i0, hi0, hz0, hz1, hz2⟩ := slices_Insert_int64_int64.info
  have hz1_ : ¬ ((m : Int) = 0) := by omega
  have hz3_ : ((m : Int) == 0) = false := by rw [beq_eq_false_iff_ne]; omega
  have hvs2 : Aside0 (∀ j u, vs[j]? = some u → w.cell? ((⟨vg, 0, none⟩ : Addr).add j) = some u) := ⟨fun j u h => by
    rw [add_plain]
    exact hvs j u h⟩
  have hO := Lib.hid hown
  clear hvs
  rcases Classical.em (∃ g c, v0 = .slice (some ⟨g, 0, none⟩) n c) with ⟨g, c, rfl⟩ | hno
  · clear hown
    go_enter Try.func101, Try.ntmps101
    go_wp2_with (at_builtin; refine wpList_append_own_at _ rfl _ _ 22 rfl B 2 i0 (.int .i64 0) 1 8 Try.underlying22 hi0 hz0 hz1 hz2 rfl (by omega) _ n cs rfl hO.out ⟨vg, 0, none⟩ m vc vs rfl (by omega) hvs2.out h1v (by unfold maxLen; omega) (by omega) hB ?_)
    all_goals
      intro v' w1 hw1 hg1 hnil hat
      go_wp2
      go_ret
      exact ⟨v', rfl, hw1, hg1, hat⟩
  · rcases hown.2 with ⟨rfl, rfl⟩ | ⟨g, c, cur, rfl, _⟩
    · clear hown
      go_enter Try.func101, Try.ntmps101
      go_wp2_with (at_builtin; refine wpList_append_own_at _ rfl _ _ 22 rfl B 2 i0 (.int .i64 0) 1 8 Try.underlying22 hi0 hz0 hz1 hz2 rfl (by omega) _ 0 cs rfl hO.out ⟨vg, 0, none⟩ m vc vs rfl (by omega) hvs2.out h1v (by unfold maxLen; omega) (by omega) hB ?_)
      all_goals
        intro v' w1 hw1 hg1 hnil hat
        go_wp2
        go_ret
        exact ⟨v', rfl, by simpa using hw1, hg1, hat⟩
    · exact absurd ⟨g, c, rfl⟩ hno
set_option maxHeartbeats 4000000 in
set_option maxRecDepth 100000 in
/-- There is room, in place. -/
theorem slices_Insert_int64_int64.room (g n c i vg m vc : Nat) (cs vs : List Value) (w : World) (hi : i < n) (hm : 0 < m) (hroom : n + m ≤ c) (hc63 : c ≤ 9223372036854775807) (hvb : vg ≠ g)
    (hcl : cs.length = n) (hvl : vs.length = m) (hcs : ∀ j u, cs[j]? = some u → w.cell? ⟨g, j, none⟩ = some u) (hsp : ∀ j, j < n + m → (w.cell? ⟨g, j, none⟩).isSome = true) (hfz : ∀ j, w.frozen? ⟨g, j, none⟩ = false)
    (hvs : ∀ j u, vs[j]? = some u → w.cell? ⟨vg, j, none⟩ = some u) (h1c : ∀ u ∈ cs, u.oneCell' = true) (h1v : ∀ u ∈ vs, u.oneCell' = true)
    (tA tB : TypeId) (kA kB : Nat) (hsa : w.shape? vg = some (tA, kA)) (hsb : w.shape? g = some (tB, kB)) (hkB : kB ≠ 0) (hfa : w.frozen? ⟨vg, 0, none⟩ = false) (hfe : w.frozen? ⟨vg, kA, none⟩ = false) :
    Calls Try.prog 101 #[.slice (some ⟨g, 0, none⟩) n c, .int .i64 i, .slice (some ⟨vg, 0, none⟩) m vc] w fun e w' => e = .returned (.slice (some ⟨g, 0, none⟩) (n + m) c) ∧ w' = (w.drew.setCells g (i + m) (cs.drop i)).setCells g i vs := by
  have hz1 : ¬ ((m : Int) = 0) := by omega
  have hz2 : ¬ ((i : Int) = (n : Int)) := by omega
  have hz3 : ¬ ((c : Int) < (n : Int) + (m : Int)) := by omega
  have hz4 : ((m : Int) == 0) = false := by rw [beq_eq_false_iff_ne]; omega
  have hz5 : ((i : Int) == (n : Int)) = false := by rw [beq_eq_false_iff_ne]; omega
  have hsz := slices_Insert_int64_int64.size
  have hze : ∀ w, (Go.sizeOf 2).run Try.prog w = .ok 1 w := fun w => by
    obtain ⟨i0, h, _, h1, _⟩ := slices_Insert_int64_int64.info
    simp [sizeOf, typeInfo, h, h1]
  have hov : ∀ lb cb, (callFunc 122 #[.slice (some ⟨vg, 0, none⟩) m vc, .slice (some ⟨g, i + m, none⟩) lb cb]).run Try.prog w = .ok (.value (.bool false)) w := fun lb cb => by
    rw [run_callFunc_extern Try.func122 (by kernel_rfl) (by kernel_rfl) (by kernel_rfl) (e := Extern.SlicesOverlaps.overlaps #[22, 22] #[4]) (by kernel_rfl),
      Lib.run_overlaps_apart w 22 4 2 Try.underlying22 1 hze ⟨vg, 0, none⟩ ⟨g, i + m, none⟩ m vc lb cb hvb tA tB kA kB hsa hsb hkB hfa hfe]
    rfl
  have hdl : (cs.drop i).length = n - i := by rw [List.length_drop, hcl]
  have hw1 : IntKind.i64.wrap ((i : Int) + (m : Int)) = (i : Int) + (m : Int) := by rw [IntKind.wrap_i64]; omega
  have hw2 : IntKind.i64.wrap ((n : Int) + (m : Int)) = (n : Int) + (m : Int) := by rw [IntKind.wrap_i64]; omega
  have hb1 : (0 : Int) ≤ (i : Int) + (m : Int) := by omega
  have hb0 : (0 : Int) ≤ (n : Int) + (m : Int) := by omega
  have hin : i ≤ n := by omega
  have htn : ((i : Int) + (m : Int)).toNat = i + m := by omega
  have htn2 : ((n : Int) + (m : Int)).toNat = n + m := by omega
  have hb2 : ¬ (c = i + m) := by omega
  have hb3 : (i : Int) ≤ (n : Int) + (m : Int) := by omega
  have hb4 : ¬ (c = i) := by omega
  have hb5 : i + m ≤ n + m := by omega
  have mixed : Try.prog.follows .mixedOrders = true := by kernel_rfl
  have hcp1 : ∀ ty dc sc, (Builtin.copy_ #[22, 22] ty #[.slice (some ⟨g, i + m, none⟩) (n + m - (i + m)) dc, .slice (some ⟨g, i, none⟩) (n + m - i) sc]).run Try.prog w.drew = .ok (goInt (cs.drop i).length) (w.drew.setCells g (i + m) (cs.drop i)) := fun ty dc sc =>
    run_copy_cells w.drew _ _ ty 2 g (i + m) (n + m - (i + m)) dc ⟨g, i, none⟩ (n + m - i) sc (cs.drop i) Try.underlying22 hsz (by rw [hdl]; simp only [Nat.min_def]; split <;> omega)
      (fun j u hj => by rw [Addr.add_lit]; exact hcs (i + j) u (by rwa [List.getElem?_drop] at hj))
      (fun j hj => hsp _ (by omega)) (fun j hj => hfz _) (fun u hu => h1c u (List.mem_of_mem_drop hu))
  obtain ⟨W1, hW1⟩ : ∃ W1, W1 = w.drew.setCells g (i + m) (cs.drop i) := ⟨_, rfl⟩
  have hsp1 : ∀ k, k < n + m → (W1.cell? ⟨g, k, none⟩).isSome = true := fun k hk => by
    rw [hW1]
    exact isSome_setCells g (cs.drop i) (i + m) w.drew (fun j hj => hsp _ (by omega)) k (hsp k hk)
  have hcp2 : ∀ (W : World), (∀ x, W.cell? x = W1.cell? x) → (∀ x, W.frozen? x = W1.frozen? x) → ∀ ty dc, (Builtin.copy_ #[22, 22] ty #[.slice (some ⟨g, i, none⟩) (n + m - i) dc, .slice (some ⟨vg, 0, none⟩) m vc]).run Try.prog W = .ok (goInt vs.length) (W.setCells g i vs) := fun W hWc hWf ty dc =>
    run_copy_cells W _ _ ty 2 g i (n + m - i) dc ⟨vg, 0, none⟩ m vc vs Try.underlying22 hsz (by rw [hvl]; simp only [Nat.min_def]; split <;> omega)
      (fun j u hj => by
        rw [Addr.add_lit, hWc, hW1, World.cell?_setCells_out g _ _ _ _ (fun h _ => absurd h hvb), Nat.zero_add]
        exact hvs j u hj)
      (fun j hj => by rw [hWc]; exact hsp1 _ (by omega)) (fun j hj => by rw [hWf, hW1, World.frozen?_setCells]; exact hfz _) h1v
  rw [← hW1] at hcp1
  clear hcs hsp hfz hvs h1c h1v hsa hsb hfa hfe hsp1 hdl hcl hze
  go_enter Try.func101, Try.ntmps101
  go_wp2_with (simp only [hov])
  go_region_law_o (refine step_copy_runI rfl _ _ 22 22 rfl _ _ (by simp [Act.eval, Act.put]) (by simp [Act.eval, Act.put]) (hcp1 _ _ _) ?_)
  go_wp2_with (at_builtin; refine wpList_copy_runI _ rfl _ _ 22 22 rfl _ _ rfl rfl (hcp2 _ (fun _ => rfl) (fun _ => rfl) _ _) ?_)
  go_ret
  first | exact ⟨rfl, rfl⟩ | exact ⟨rfl, by rw [hW1]⟩
set_option maxHeartbeats 4000000 in
set_option maxRecDepth 100000 in
/-- No room: a new row. -/
theorem slices_Insert_int64_int64.grow (g n c i vg m vc : Nat) (cs vs : List Value) (w : World) (hi : i < n) (hm : 0 < m) (hnc : n ≤ c) (hroom : c < n + m) (hbig : n + m ≤ 1099511627776)
    (hcl : cs.length = n) (hvl : vs.length = m) (hcs : ∀ j u, cs[j]? = some u → w.cell? ⟨g, j, none⟩ = some u)
    (hvs : ∀ j u, vs[j]? = some u → w.cell? ⟨vg, j, none⟩ = some u) (h1c : ∀ u ∈ cs, u.oneCell' = true) (h1v : ∀ u ∈ vs, u.oneCell' = true) :
    Calls Try.prog 101 #[.slice (some ⟨g, 0, none⟩) n c, .int .i64 i, .slice (some ⟨vg, 0, none⟩) m vc] w fun e w' => ∃ (G : Nat) (ROW : Array Value), n + m ≤ G ∧ G ≤ maxLen ∧ ROW.size = G ∧ (∃ more, ROW.toList = cs.take i ++ more) ∧ e = .returned (.slice (some ⟨w.heap.size, 0, none⟩) (n + m) G) ∧
      w' = (((w.alloc (.cells ROW 2)).drew.setCells w.heap.size i vs).drew).setCells w.heap.size (i + m) (cs.drop i) := by
  have mixed : Try.prog.follows .mixedOrders = true := by kernel_rfl
  obtain ⟨i0, hi0, hz0, hzs, hzb⟩ := slices_Insert_int64_int64.info
  have hz1 : ¬ ((m : Int) = 0) := by omega
  have hz4 : ((m : Int) == 0) = false := by rw [beq_eq_false_iff_ne]; omega
  have hz2 : ¬ ((i : Int) = (n : Int)) := by omega
  have hz5 : ((i : Int) == (n : Int)) = false := by rw [beq_eq_false_iff_ne]; omega
  have hz3 : (c : Int) < (n : Int) + (m : Int) := by omega
  have hsz := slices_Insert_int64_int64.size
  have hgw : g < w.heap.size := World.block_lt_of_cell? w _ (hcs 0 _ (List.getElem?_eq_getElem (by omega)))
  have hvw : vg < w.heap.size := World.block_lt_of_cell? w _ (hvs 0 _ (List.getElem?_eq_getElem (by omega)))
  have hkk : (n : Int) + (m : Int) - (i : Int) = ((n + m - i : Nat) : Int) := by omega
  have hik : i + (n + m - i) = n + m := by omega
  have hold : (Builtin.firstCells i0.size i (.slice (some ⟨g, 0, none⟩) i c)).run Try.prog w.drew = .ok (cs.take i).toArray w.drew := by
    rw [hzs]
    exact run_firstCells_some w.drew 1 i ⟨g, 0, none⟩ i c (cs.take i) (by rw [List.length_take]; omega) (fun j v hj => by
      rw [Addr.add_lit, Nat.zero_add]
      rw [List.getElem?_take] at hj
      split at hj
      · exact hcs j v hj
      · cases hj)
  have hrz : ∀ ty, (Builtin.append_ #[22, 3] ty #[.slice (some ⟨g, 0, none⟩) i c, .int .i64 ((n : Int) + (m : Int) - (i : Int))]).run Try.prog w =
      .ok (.slice (some ⟨w.heap.size, 0, none⟩) (n + m) (grownCap w (n + m) c 2)) (w.drew.alloc (.cells ((cs.take i).toArray ++ Builtin.zeroCells (Value.int .i64 0).cells (n + m - i) ++ Builtin.zeroCells (Value.int .i64 0).cells (grownCap w (n + m) c 2 - (n + m))) 2)) := fun ty => by
    have h := Lib.run_append_grow_zeros w 22 3 ty 2 i0 _ .i64 .i64 Try.underlying22 Try.underlying3 hi0 hz0 (some ⟨g, 0, none⟩) i c (cs.take i) hold (n + m - i) (by omega) (by omega) (by omega) (by omega) (by rw [hzb]; omega) (by rw [hzb, hik]; exact growslice_fits hroom (by omega))
    rw [hik] at h
    rw [hkk]
    exact h
  obtain ⟨G, hG⟩ : ∃ G, G = grownCap w (n + m) c 2 := ⟨_, rfl⟩
  obtain ⟨ROW, hROW⟩ : ∃ ROW : Array Value, ROW = (cs.take i).toArray ++ Builtin.zeroCells (Value.int .i64 0).cells (n + m - i) ++ Builtin.zeroCells (Value.int .i64 0).cells (G - (n + m)) := ⟨_, rfl⟩
  have hGn : n + m ≤ G := by rw [hG]; exact grownCap_ge w _ _ _
  have hGm : G ≤ maxLen := by rw [hG]; exact grownCap_le_maxLen w (n + m) c 2 (by unfold maxLen; omega)
  have hG63 : G ≤ 9223372036854775807 := hGm
  rw [← hG, ← hROW] at hrz
  have hRs : ROW.size = G := by
    rw [hROW]
    simp [Builtin.zeroCells, Value.cells]
    omega
  have hRm : ∃ more, ROW.toList = cs.take i ++ more := ⟨_, by rw [hROW, Array.toList_append, Array.toList_append, List.append_assoc]⟩
  obtain ⟨W1, hW1⟩ : ∃ W1, W1 = w.drew.alloc (.cells ROW 2) := ⟨_, rfl⟩
  rw [← hW1] at hrz
  have hN : ∀ j, j < n + m → (W1.cell? ⟨w.heap.size, j, none⟩).isSome = true := fun j hj => by
    rw [hW1, World.cell?_alloc_at (w := w.drew) ROW _ w.heap.size j rfl, Array.getElem?_eq_getElem (by omega)]; rfl
  have hNf : ∀ j, W1.frozen? ⟨w.heap.size, j, none⟩ = false := fun j => by rw [hW1]; exact World.frozen?_alloc_at (w := w.drew) ROW _ w.heap.size j rfl
  have hOb : ∀ j v, w.cell? ⟨g, j, none⟩ = some v → W1.cell? ⟨g, j, none⟩ = some v := fun j v h => by rw [hW1, World.cell?_alloc_past (w := w.drew) _ g j hgw]; exact h
  have hOv : ∀ j v, w.cell? ⟨vg, j, none⟩ = some v → W1.cell? ⟨vg, j, none⟩ = some v := fun j v h => by rw [hW1, World.cell?_alloc_past (w := w.drew) _ vg j hvw]; exact h
  have hcpA : ∀ (W : World), (∀ x, W.cell? x = W1.cell? x) → (∀ x, W.frozen? x = W1.frozen? x) → ∀ ty dc, (Builtin.copy_ #[22, 22] ty #[.slice (some ⟨w.heap.size, i, none⟩) (n + m - i) dc, .slice (some ⟨vg, 0, none⟩) m vc]).run Try.prog W = .ok (goInt vs.length) (W.setCells w.heap.size i vs) := fun W hWc hWf ty dc =>
    run_copy_cells W _ _ ty 2 w.heap.size i (n + m - i) dc ⟨vg, 0, none⟩ m vc vs Try.underlying22 hsz (by rw [hvl]; simp only [Nat.min_def]; split <;> omega)
      (fun j v hj => by rw [Addr.add_lit, hWc, Nat.zero_add]; exact hOv _ v (hvs j v hj))
      (fun j hj => by rw [hWc]; exact hN _ (by omega)) (fun j hj => by rw [hWf]; exact hNf _) h1v
  have hGi : ¬ (G = i) := by omega
  have hGim : ¬ (G = i + m) := by omega
  have hci : ¬ (c = i) := by omega
  have hgN : g ≠ w.heap.size := by omega
  have hdl : (cs.drop i).length = n - i := by rw [List.length_drop, hcl]
  have hcpB : ∀ (W : World), (∀ x, W.cell? x = (W1.setCells w.heap.size i vs).cell? x) → (∀ x, W.frozen? x = (W1.setCells w.heap.size i vs).frozen? x) → ∀ ty dc sc, (Builtin.copy_ #[22, 22] ty #[.slice (some ⟨w.heap.size, i + m, none⟩) (n + m - (i + m)) dc, .slice (some ⟨g, i, none⟩) (n - i) sc]).run Try.prog W = .ok (goInt (cs.drop i).length) (W.setCells w.heap.size (i + m) (cs.drop i)) := fun W hWc hWf ty dc sc =>
    run_copy_cells W _ _ ty 2 w.heap.size (i + m) (n + m - (i + m)) dc ⟨g, i, none⟩ (n - i) sc (cs.drop i) Try.underlying22 hsz (by rw [hdl]; simp only [Nat.min_def]; split <;> omega)
      (fun j v hj => by
        rw [Addr.add_lit, hWc, World.cell?_setCells_out _ _ _ _ _ (fun h _ => absurd h hgN)]
        exact hOb _ v (hcs (i + j) v (by rwa [List.getElem?_drop] at hj)))
      (fun j hj => by rw [hWc]; exact isSome_setCells w.heap.size vs i W1 (fun t ht => hN _ (by omega)) _ (hN _ (by omega)))
      (fun j hj => by rw [hWf, World.frozen?_setCells]; exact hNf _) (fun v hv => h1c v (List.mem_of_mem_drop hv))
  subst hW1
  have hE1 : ∀ x, ((w.alloc (.cells ROW 2)).drew).cell? x = (w.drew.alloc (.cells ROW 2)).cell? x := fun x => rfl
  have hE2 : ∀ x, ((w.alloc (.cells ROW 2)).drew).frozen? x = (w.drew.alloc (.cells ROW 2)).frozen? x := fun x => rfl
  have hF1 : ∀ x, (((w.alloc (.cells ROW 2)).drew.setCells w.heap.size i vs).drew).cell? x = ((w.drew.alloc (.cells ROW 2)).setCells w.heap.size i vs).cell? x := fun x => rfl
  have hF2 : ∀ x, (((w.alloc (.cells ROW 2)).drew.setCells w.heap.size i vs).drew).frozen? x = ((w.drew.alloc (.cells ROW 2)).setCells w.heap.size i vs).frozen? x := fun x => rfl
  have hw1 : IntKind.i64.wrap ((i : Int) + (m : Int)) = (i : Int) + (m : Int) := by rw [IntKind.wrap_i64]; omega
  have hw2 : IntKind.i64.wrap ((n : Int) + (m : Int)) = (n : Int) + (m : Int) := by rw [IntKind.wrap_i64]; omega
  have hw3 : IntKind.i64.wrap ((n : Int) + (m : Int) - (i : Int)) = (n : Int) + (m : Int) - (i : Int) := by rw [IntKind.wrap_i64]; omega
  have hb1 : (0 : Int) ≤ (i : Int) + (m : Int) := by omega
  have hin : i ≤ n := by omega
  have htn : ((i : Int) + (m : Int)).toNat = i + m := by omega
  have hb3 : (i : Int) ≤ (n : Int) := by omega
  have hb5 : i + m ≤ n + m := by omega
  have hb6 : i ≤ n + m := by omega
  have hb7 : i + m ≤ G := by omega
  have hb8 : i ≤ G := by omega
  clear hkk hik hold hROW hG hN hNf hOb hOv hcs hvs h1c h1v hgN hdl
  go_enter Try.func101, Try.ntmps101
  go_wp2_with (first
    | (at_builtin; refine Lib.wpList_append_run _ rfl _ _ _ _ rfl _ _ rfl rfl _ _ (hrz _) ?_)
    | (at_builtin; refine wpList_copy_runI _ rfl _ _ 22 22 rfl _ _ rfl rfl (hcpA _ hE1 hE2 _ _) ?_)
    | (at_builtin; refine wpList_copy_runI _ rfl _ _ 22 22 rfl _ _ rfl rfl (hcpB _ (fun _ => rfl) (fun _ => rfl) _ _ _) ?_))
  go_region_law_o (refine step_copy_runI rfl _ _ 22 22 rfl (.slice (some ⟨w.heap.size, i + m, none⟩) (n + m - (i + m)) (G - (i + m))) (.slice (some ⟨g, i, none⟩) (n - i) (c - i)) (by simp [Act.eval, Act.put]) (by simp [Act.eval, Act.put]) (hcpB _ hF1 hF2 3 (G - (i + m)) (c - i)) ?_)
  go_wp2
  go_ret
  exact ⟨G, ROW, hGn, hGm, hRs, hRm, rfl, rfl⟩
theorem slices_Insert_int64_int64.list1 (L C V : List Value) (i m n : Nat) (hC : L.take n = C) (hCl : C.length = n) (hi : i ≤ n) (hV : V.length = m) (hL : n + m ≤ L.length) :
    (((L.take (i + m) ++ C.drop i ++ L.drop (i + m + (C.drop i).length)).take i ++ V ++ (L.take (i + m) ++ C.drop i ++ L.drop (i + m + (C.drop i).length)).drop (i + V.length))).take (n + m) = C.take i ++ (V ++ C.drop i) := by
  have h1 : (L.take (i + m) ++ C.drop i ++ L.drop (i + m + (C.drop i).length)).take i = C.take i := by
    rw [List.append_assoc, List.take_append_of_le_length (by rw [List.length_take]; omega), List.take_take, Nat.min_eq_left (by omega), ← hC, List.take_take, Nat.min_eq_left hi]
  have h2 : (L.take (i + m) ++ C.drop i ++ L.drop (i + m + (C.drop i).length)).drop (i + V.length) = C.drop i ++ L.drop (i + m + (C.drop i).length) := by
    rw [hV, List.append_assoc, List.drop_append_of_le_length (by rw [List.length_take]; omega), List.drop_eq_nil_of_le (by rw [List.length_take]; omega), List.nil_append]
  rw [h1, h2, List.append_assoc, ← List.append_assoc V, ← List.append_assoc (C.take i)]
  exact List.take_left' (by simp; omega)
theorem slices_Insert_int64_int64.list2 (R C V more : List Value) (i m n : Nat) (hR : R = C.take i ++ more) (hCl : C.length = n) (hi : i ≤ n) (hV : V.length = m) (hL : n + m ≤ R.length) :
    (((R.take i ++ V ++ R.drop (i + V.length)).take (i + m) ++ C.drop i ++ (R.take i ++ V ++ R.drop (i + V.length)).drop (i + m + (C.drop i).length))).take (n + m) = C.take i ++ (V ++ C.drop i) := by
  have h0 : R.take i = C.take i := by
    rw [hR, List.take_append_of_le_length (by rw [List.length_take]; omega), List.take_take, Nat.min_self]
  have h1 : (R.take i ++ V ++ R.drop (i + V.length)).take (i + m) = C.take i ++ V := by
    rw [h0]
    exact List.take_left' (by simp; omega)
  rw [h1, ← List.append_assoc]
  exact List.take_left' (by simp; omega)
theorem slices_Insert_int64_int64.calls (P0_ : Nat → Prop) (u9000_ : Value) (l0 : List Int) (a1 : Int) (P2_ : Nat → Prop) (u9001_ : Value) (l2 : List Int) (r : List Int) (w0 w : World) (hB : Below w0.heap.size w0 w) (ho0 : Kd.R (Kd.int .i64) 2 w w0.heap.size P0_ u9000_ l0) (hp0_2 : ∀ k_, P0_ k_ → ¬ P2_ k_) (ho2 : Kd.R (Kd.int .i64) 2 w w0.heap.size P2_ u9001_ l2) (hp2_0 : ∀ k_, P2_ k_ → ¬ P0_ k_) (h : slices_Insert_int64_int64.f l0 a1 l2 = some r) :
    Calls Try.prog 101 #[u9000_, .int .i64 a1, u9001_] w fun e w' => ∃ v0_ : Value, e = .returned (v0_) ∧ Kd.R (Kd.int .i64) 2 w' w0.heap.size (fun k_ => ((P0_ k_ ∨ P2_ k_) ∨ w.heap.size ≤ k_)) v0_ r ∧ Below w0.heap.size w0 w' ∧ Kept w w' (fun k_ => P0_ k_ ∨ P2_ k_) := by
  unfold slices_Insert_int64_int64.f at h
  split at h
  · rename_i h0
    split at h
    · rename_i h1
      split at h
      · rename_i hpos
        split at h
        · rename_i hsum
          obtain rfl := Option.some.inj h
          obtain ⟨i, rfl⟩ := Int.eq_ofNat_of_zero_le h0
          rw [Int.toNat_natCast]
          have hp := ho0.1
          have hp2 := ho2.1
          have hown := Kd.own_of_R ho0
          have hown2 := Kd.own_of_R ho2
          have h1e : ∀ (l : List Int), ∀ u ∈ encs (Value.int .i64) l, u.oneCell' = true := by
            intro l u hu
            simp only [encs, List.mem_map] at hu
            obtain ⟨x, _, rfl⟩ := hu
            rfl
          have cells : ∀ (g n cap : Nat) (cur : Array Value) (xs : List Value), w.heap[g]? = some (.cells cur 2 (0, 0)) → cur.toList.take (n * 1) = xs → ∀ j u, xs[j]? = some u → w.cell? ⟨g, j, none⟩ = some u := by
            intro g n cap cur xs hg ht j u hj
            have e : cur.toList[j]? = some u := by
              rw [← ht, List.getElem?_take] at hj
              split at hj
              · exact hj
              · cases hj
            simp only [World.cell?, hg]
            simpa using e
          have hl0 := encs_length (enc := Value.int .i64) l0
          have hl2 := encs_length (enc := Value.int .i64) l2
          rcases hown2.2 with ⟨rfl, hn⟩ | ⟨g2, cap2, cur2, rfl, hb2, hg2, hnc2, hcm2, hcs2, htake2⟩
          · omega
          · have hvs := cells g2 l2.length cap2 cur2 _ hg2 htake2
            by_cases hend : i = l0.length
            · subst hend
              refine (slices_Insert_int64_int64.atEnd u9000_ l0.length g2 l2.length cap2 w0.heap.size _ _ w hB.size hown hpos hl2 hsum hvs (h1e l2)).mono ?_
              rintro e w' ⟨v', rfl, ho', hg', hat⟩
              refine ⟨v', rfl, Kd.R_of_own (h1 := fun _ => rfl) (by simpa [encs] using ho') (fun k hk => ?_), hB.grown hg' hB.size (own_base hown), hg'.size, fun k hk hS => hg'.block k hk (fun he => hS (.inl (hp k he.symm)))⟩
              rcases hat with hat | hat
              · exact .inl (.inl (hp k (hat ▸ hk)))
              · rw [hk] at hat
                injection hat with hat
                exact .inr (Nat.le_of_eq hat.symm)
            · rcases hown.2 with ⟨rfl, hn⟩ | ⟨g, cap, cur, rfl, hb, hg, hnc, hcm, hcs, htake⟩
              · omega
              · have hcc := cells g l0.length cap cur _ hg htake
                have hne : g2 ≠ g := fun he => hp0_2 g (hp g rfl) (he ▸ hp2 g2 rfl)
                have hlt : g < w.heap.size := (Array.getElem?_eq_some_iff.1 hg).1
                have hcm63 : cap ≤ 9223372036854775807 := hcm
                by_cases hroom : l0.length + l2.length ≤ cap
                · refine (slices_Insert_int64_int64.room g l0.length cap i g2 l2.length cap2 _ _ w (by omega) hpos hroom hcm63 hne hl0 hl2 hcc (fun j hj => ?_) (fun j => by simp [World.frozen?, hg]) hvs (h1e l0) (h1e l2) 2 2 cur2.size cur.size (by simp [World.shape?, hg2]) (by simp [World.shape?, hg]) (by omega) (by simp [World.frozen?, hg2]) (by simp [World.frozen?, hg2])).mono ?_
                  · simp only [World.cell?, hg]
                    rw [Array.getElem?_eq_getElem (by omega)]
                    rfl
                  · rintro e w' ⟨rfl, rfl⟩
                    have hdl : ((encs (Value.int .i64) l0).drop i).length = l0.length - i := by rw [List.length_drop, hl0]
                    have hgd : (w.drew).heap[g]? = some (.cells cur 2 (0, 0)) := hg
                    obtain ⟨cur1, a1, a2, a3⟩ := setCells_row ((encs (Value.int .i64) l0).drop i) (i + l2.length) w.drew cur hgd (by rw [hdl]; omega)
                    obtain ⟨cur3, b1, b2, b3⟩ := setCells_row (encs (Value.int .i64) l2) i _ cur1 a1 (by rw [hl2]; omega)
                    obtain ⟨s1, s2, s3, s4⟩ := setCells_same g ((encs (Value.int .i64) l0).drop i) (i + l2.length) w.drew
                    obtain ⟨t1, t2, t3, t4⟩ := setCells_same g (encs (Value.int .i64) l2) i (w.drew.setCells g (i + l2.length) ((encs (Value.int .i64) l0).drop i))
                    have hfar : ∀ k, k ≠ g → ((w.drew.setCells g (i + l2.length) ((encs (Value.int .i64) l0).drop i)).setCells g i (encs (Value.int .i64) l2)).heap[k]? = w.heap[k]? := fun k hk => (setCells_far _ _ k hk).trans (setCells_far _ _ k hk)
                    have hsz : ((w.drew.setCells g (i + l2.length) ((encs (Value.int .i64) l0).drop i)).setCells g i (encs (Value.int .i64) l2)).heap.size = w.heap.size := t4.trans s4
                    have hlist := slices_Insert_int64_int64.list1 cur.toList (encs (Value.int .i64) l0) (encs (Value.int .i64) l2) i l2.length l0.length (by simpa using htake) hl0 (by omega) hl2 (by rw [show cur.toList.length = cur.size from Array.length_toList]; omega)
                    rw [← a3, ← b3] at hlist
                    have hgr : w.grownBy ((w.drew.setCells g (i + l2.length) ((encs (Value.int .i64) l0).drop i)).setCells g i (encs (Value.int .i64) l2)) (some g) := ⟨t1.trans s1, t2.trans s2, t3.trans s3, Nat.le_of_eq hsz.symm, fun k _ hk => hfar k (fun he => hk (by rw [he]))⟩
                    generalize ((w.drew.setCells g (i + l2.length) ((encs (Value.int .i64) l0).drop i)).setCells g i (encs (Value.int .i64) l2)) = w' at *
                    have hll : (l0.take i ++ (l2 ++ l0.drop i)).length = l0.length + l2.length := by simp; omega
                    have hown' : w'.ownsRow w0.heap.size 2 1 (.slice (some ⟨g, 0, none⟩) (l0.length + l2.length) cap) (l0.take i ++ (l2 ++ l0.drop i)).length (encs (Value.int .i64) (l0.take i ++ (l2 ++ l0.drop i))) := by
                      rw [hll]
                      refine ⟨by rw [encs_length, hll]; omega, .inr ⟨g, cap, cur3, rfl, hb, b1, hroom, hcm, by omega, ?_⟩⟩
                      rw [Nat.mul_one, hlist]
                      simp [encs]
                    exact ⟨_, rfl, Kd.R_of_own (h1 := fun _ => rfl) hown' (fun k hk => .inl (.inl (hp k hk))), hB.grown hgr hB.size (fun k hk => by injection hk with hk; omega), hgr.size, fun k hk hS => hfar k (fun he => hS (.inl (by rw [he]; exact hp g rfl)))⟩
                · refine (slices_Insert_int64_int64.grow g l0.length cap i g2 l2.length cap2 _ _ w (by omega) hpos hnc (by omega) hsum hl0 hl2 hcc hvs (h1e l0) (h1e l2)).mono ?_
                  rintro e w' ⟨G, ROW, hG, hGm, hRs, ⟨more, hRm⟩, rfl, rfl⟩
                  have hdl : ((encs (Value.int .i64) l0).drop i).length = l0.length - i := by rw [List.length_drop, hl0]
                  have hgd : ((w.alloc (.cells ROW 2)).drew).heap[w.heap.size]? = some (.cells ROW 2 (0, 0)) := heap_alloc_new w _
                  obtain ⟨cur1, a1, a2, a3⟩ := setCells_row (encs (Value.int .i64) l2) i _ ROW hgd (by rw [hl2]; omega)
                  obtain ⟨cur3, b1, b2, b3⟩ := setCells_row ((encs (Value.int .i64) l0).drop i) (i + l2.length) (((w.alloc (.cells ROW 2)).drew.setCells w.heap.size i (encs (Value.int .i64) l2)).drew) cur1 a1 (by rw [hdl]; omega)
                  obtain ⟨s1, s2, s3, s4⟩ := setCells_same w.heap.size (encs (Value.int .i64) l2) i ((w.alloc (.cells ROW 2)).drew)
                  obtain ⟨t1, t2, t3, t4⟩ := setCells_same w.heap.size ((encs (Value.int .i64) l0).drop i) (i + l2.length) (((w.alloc (.cells ROW 2)).drew.setCells w.heap.size i (encs (Value.int .i64) l2)).drew)
                  have hal : ∀ k, k < w.heap.size → ((w.alloc (.cells ROW 2)).drew).heap[k]? = w.heap[k]? := fun k hk => heap_alloc_old w _ hk
                  have hfar : ∀ k, k < w.heap.size → ((((w.alloc (.cells ROW 2)).drew.setCells w.heap.size i (encs (Value.int .i64) l2)).drew).setCells w.heap.size (i + l2.length) ((encs (Value.int .i64) l0).drop i)).heap[k]? = w.heap[k]? := fun k hk => (setCells_far _ _ k (Nat.ne_of_lt hk)).trans ((setCells_far _ _ k (Nat.ne_of_lt hk)).trans (hal k hk))
                  have hsz : ((((w.alloc (.cells ROW 2)).drew.setCells w.heap.size i (encs (Value.int .i64) l2)).drew).setCells w.heap.size (i + l2.length) ((encs (Value.int .i64) l0).drop i)).heap.size = w.heap.size + 1 := t4.trans (s4.trans (by simp))
                  have hlist := slices_Insert_int64_int64.list2 ROW.toList (encs (Value.int .i64) l0) (encs (Value.int .i64) l2) more i l2.length l0.length hRm hl0 (by omega) hl2 (by rw [show ROW.toList.length = ROW.size from Array.length_toList]; omega)
                  rw [← a3, ← b3] at hlist
                  have hgr : w.grownBy ((((w.alloc (.cells ROW 2)).drew.setCells w.heap.size i (encs (Value.int .i64) l2)).drew).setCells w.heap.size (i + l2.length) ((encs (Value.int .i64) l0).drop i)) none := ⟨t1.trans s1, t2.trans s2, t3.trans s3, by omega, fun k hk _ => hfar k hk⟩
                  generalize ((((w.alloc (.cells ROW 2)).drew.setCells w.heap.size i (encs (Value.int .i64) l2)).drew).setCells w.heap.size (i + l2.length) ((encs (Value.int .i64) l0).drop i)) = w' at *
                  have hll : (l0.take i ++ (l2 ++ l0.drop i)).length = l0.length + l2.length := by simp; omega
                  have hown' : w'.ownsRow w0.heap.size 2 1 (.slice (some ⟨w.heap.size, 0, none⟩) (l0.length + l2.length) G) (l0.take i ++ (l2 ++ l0.drop i)).length (encs (Value.int .i64) (l0.take i ++ (l2 ++ l0.drop i))) := by
                    rw [hll]
                    refine ⟨by rw [encs_length, hll]; omega, .inr ⟨w.heap.size, G, cur3, rfl, hB.size, b1, hG, hGm, by omega, ?_⟩⟩
                    rw [Nat.mul_one, hlist]
                    simp [encs]
                  exact ⟨_, rfl, Kd.R_of_own (h1 := fun _ => rfl) hown' (fun k hk => (by have e : some w.heap.size = some k := hk; injection e with e; exact .inr (Nat.le_of_eq e))), hB.grown hgr hB.size (fun k hk => by cases hk), hgr.size, fun k hk _ => hfar k hk⟩
        · cases h
      · cases h
    · cases h
  · cases h


end Go.Proofs.Ytnhladaobcnmhaa.X
