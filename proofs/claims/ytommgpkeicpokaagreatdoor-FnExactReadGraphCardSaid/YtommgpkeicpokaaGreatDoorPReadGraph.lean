/- ReadGraph: the reference and the program read the same: the graph whose text it is, or nothing. For texts of at most 2^30 bytes, and at most 2^20 types of at most 2^20 bytes. -/
import Derived.Test.YtommgpkeicpokaaGreatDoorPNumT
import Derived.Test.YtommgpkeicpokaaGreatDoorPCutN
namespace Go.Proofs.YtommgpkeicpokaaGreatDoor.Abs.Pu
open Go Go.RowKit
set_option linter.unusedVariables false
set_option linter.unusedSectionVars false
set_option linter.unusedSimpArgs false
def noG : List Int × List (Int × List Int) × Bool := ([], [], false)
theorem take_all {α : Type} (l : List α) : l.take ((l.length : Nat) : Int).toNat = l := List.take_of_length_le (by omega)
/-! ### the program -/
noncomputable def okI (l : List UInt8) : Bool := (numbersR (splitOn 32 l)).2
noncomputable def nodeI (l : List UInt8) : Int × List Int := (rd (numbersR (splitOn 32 l)).1 0, (numbersR (splitOn 32 l)).1.drop 1)
def finI (types : List ByteArray) (s : ByteArray) (r : List Int) (n : List (Int × List Int)) : List Int × List (Int × List Int) × Bool :=
  if (graphTextR types (r, n)).toList = s.toList then (r, n, true) else noG
noncomputable def readI (types : List ByteArray) (l : List UInt8) : List Int × List (Int × List Int) × Bool :=
  if (splitOn 10 l).length < 2 then noG
  else if 402 < (splitOn 10 l).length then noG
  else if (splitOn 10 l).getLast? = some [] then
    if (numbersR ((splitOn 32 ((splitOn 10 l).headD [])).drop 1)).2 = true then
      if (splitOn 32 ((splitOn 10 l).headD [])).headD [] = [114, 111, 111, 116, 115] then
        if ((splitOn 10 l).dropLast.drop 1).all okI = true then finI types (ba l) (numbersR ((splitOn 32 ((splitOn 10 l).headD [])).drop 1)).1 (((splitOn 10 l).dropLast.drop 1).map nodeI) else noG
      else noG
    else noG
  else noG
noncomputable def nodeIF (l : List UInt8) : Int × List Int := (rd (numbersR (splitOn 32 l)).1 0, (numbersR (splitOn 32 l)).1)
def finIF (types : List ByteArray) (s : ByteArray) (r : List Int) (n : List (Int × List Int)) : List Int × List (Int × List Int) × Bool :=
  if (graphTextR types (r, cutN n)).toList = s.toList then (r, n, true) else noG
noncomputable def readIF (types : List ByteArray) (l : List UInt8) : List Int × List (Int × List Int) × Bool :=
  if (splitOn 10 l).length < 2 then noG
  else if 402 < (splitOn 10 l).length then noG
  else if (splitOn 10 l).getLast? = some [] then
    if (numbersR ((splitOn 32 ((splitOn 10 l).headD [])).drop 1)).2 = true then
      if (splitOn 32 ((splitOn 10 l).headD [])).headD [] = [114, 111, 111, 116, 115] then
        if ((splitOn 10 l).dropLast.drop 1).all okI = true then finIF types (ba l) (numbersR ((splitOn 32 ((splitOn 10 l).headD [])).drop 1)).1 (((splitOn 10 l).dropLast.drop 1).map nodeIF) else noG
      else noG
    else noG
  else noG
/-- A graph as it is read. -/
def cutG (g : List Int × List (Int × List Int) × Bool) : List Int × List (Int × List Int) × Bool := (g.1, cutN g.2.1, g.2.2)
theorem cutG_no : cutG noG = noG := rfl
theorem cutG_ite (c : Prop) [Decidable c] (a b : List Int × List (Int × List Int) × Bool) : cutG (if c then a else b) = if c then cutG a else cutG b := by split <;> rfl
theorem cutG_fin (types : List ByteArray) (s : ByteArray) (r : List Int) (n : List (Int × List Int)) : cutG (finIF types s r n) = finI types s r (cutN n) := by
  unfold finIF finI
  rw [cutG_ite]
  rfl
theorem cutN_map {α : Type} (f g : α → Int × List Int) (h : ∀ x, ((f x).1, (f x).2.drop 1) = g x) (l : List α) : cutN (l.map f) = l.map g := by
  unfold cutN
  rw [List.map_map]
  exact List.map_congr_left fun x _ => h x
theorem readIF_cut (types : List ByteArray) (l : List UInt8) : cutG (readIF types l) = readI types l := by
  unfold readIF readI
  simp only [cutG_ite, cutG_no, cutG_fin]
  rw [cutN_map nodeIF nodeI fun _ => rfl]
theorem impl_nodes_read {types : List ByteArray} (hs : ∀ x ∈ types, x.size ≤ 1048576) (s : ByteArray) (r : List Int) (mid : List (List UInt8)) (hl : mid.length ≤ 2000000000) (hm : ∀ x ∈ mid, x.length ≤ 2000000000) :
    Ev (fun k => impl_ReadGraph.p34 k types s r ([] : List (Int × List Int)) (mid.map ba) ((mid.map ba).length : Int) 0) (if mid.all okI = true then finIF types s r (mid.map nodeIF) else noG) := by
  rw [List.length_map]
  have key : ∀ i, i ≤ mid.length → Ev (fun k => impl_ReadGraph.p34 k types s r ((mid.take i).map nodeIF) (mid.map ba) (mid.length : Int) (i : Int)) (if (mid.drop i).all okI = true then finIF types s r (mid.map nodeIF) else noG) := by
    refine down ?_ ?_
    · refine Ev.step (fun k => by rw [impl_ReadGraph.p34]) ?_
      rw [List.drop_eq_nil_of_le (Nat.le_refl _), List.take_of_length_le (Nat.le_refl _), if_pos (show ([] : List (List UInt8)).all okI = true from rfl)]
      rw [cut_eq]
      refine Ev.neg (by omega) (Ev.bind (impl_GraphText_ev types (r, cutN (mid.map nodeIF)) hs) ?_)
      unfold finIF
      by_cases c : (graphTextR types (r, cutN (mid.map nodeIF))).toList = s.toList
      · simp only [if_pos c]
        exact Ev.eq rfl
      · simp only [if_neg c]
        exact Ev.eq rfl
    · intro i hi ih
      have hb := hm _ (List.getElem_mem hi)
      have h1 := splitOn_len 32 mid[i]
      have h2 := splitOn_mem 32 mid[i]
      have h3 : 1 ≤ (splitOn 32 mid[i]).length := List.length_pos_iff.2 (splitOn_ne 32 mid[i])
      refine Ev.step (fun k => by rw [impl_ReadGraph.p34]) ?_
      rw [rdb hi, w64s (by omega), List.drop_eq_getElem_cons hi, List.all_cons, show (⟨#[32]⟩ : ByteArray) = ba [32] from rfl, split_f 32 _ (by omega)]
      refine Ev.pos (by omega) (Ev.pos (by omega) (Ev.pos (by rw [List.length_map]; omega) (Ev.bindo rfl (Ev.bind (numbers_ev _ (by omega) (fun w hw => by have := h2 w hw; omega)) ?_))))
      by_cases c : okI mid[i] = true
      · have hn := numbersR_len _ c
        rw [c, Bool.true_and]
        refine Ev.pos c (Ev.pos (by omega) (Ev.pos (by omega) (Ev.pos (by rw [List.length_map, List.length_take]; omega) ?_)))
        rw [List.take_succ_eq_append_getElem hi, List.map_append] at ih
        rw [set_snoc]
        exact ih
      · rw [Bool.eq_false_iff.2 c, Bool.false_and]
        refine Ev.neg c (Ev.eq ?_)
        rw [if_neg (by simp)]
        rfl
  have := key 0 (Nat.zero_le _)
  rw [List.drop_zero, List.take_zero] at this
  exact this
theorem impl_rest {types : List ByteArray} (hs : ∀ x ∈ types, x.size ≤ 1048576) (s : ByteArray) (r : List Int) (ls : List (List UInt8)) (hl : ls.length ≤ 2000000000) (h2 : 2 ≤ ls.length) (hm : ∀ x ∈ ls, x.length ≤ 2000000000) (b : Bool) :
    Ev (fun k => impl_ReadGraph.p25 k types s (ls.map ba) (((ls.length - 1 : Nat) : Int)) r b) (if b = true then noG else if (ls.dropLast.drop 1).all okI = true then finIF types s r ((ls.dropLast.drop 1).map nodeIF) else noG) := by
  refine Ev.step (fun k => by rw [impl_ReadGraph.p25]) ?_
  by_cases c : b = true
  · rw [if_pos c]
    exact Ev.pos c (Ev.eq rfl)
  · rw [if_neg c]
    have e : (((ls.map ba).take (((ls.length - 1 : Nat) : Int)).toNat).drop 1) = (ls.dropLast.drop 1).map ba := by
      rw [Int.toNat_natCast, ← List.map_take, ← List.map_drop, List.dropLast_eq_take]
    rw [e]
    refine Ev.neg c (Ev.pos (by omega) (Ev.pos (by rw [List.length_map]; omega) (Ev.pos (by omega) ?_)))
    exact impl_nodes_read hs s r _ (by rw [List.length_drop, List.length_dropLast]; omega) (fun x hx => hm x (List.dropLast_subset _ (List.drop_subset _ _ hx)))
theorem impl_ReadGraph_ev (types : List ByteArray) (l : List UInt8) (hs : ∀ x ∈ types, x.size ≤ 1048576) (hl : l.length ≤ 1073741824) : Ev (fun k => impl_ReadGraph.f k types (ba l)) (readIF types l) := by
  unfold impl_ReadGraph.f readIF
  have hlen := splitOn_len 10 l
  have hmem := splitOn_mem 10 l
  have hne := List.length_pos_iff.2 (splitOn_ne 10 l)
  rw [show (⟨#[10]⟩ : ByteArray) = ba [10] from rfl, split_f 10 l (by omega)]
  refine Ev.bindo rfl ?_
  generalize splitOn 10 l = ls at *
  have hw : wrap64 (((ls.map ba).length : Int) - 1) = ((ls.length - 1 : Nat) : Int) := by rw [List.length_map, w64 (by omega) (by omega)]; omega
  rw [hw]
  by_cases c1 : ls.length < 2
  · rw [if_pos c1]
    exact Ev.pos (by omega) (Ev.eq rfl)
  rw [if_neg c1]
  refine Ev.neg (by omega) ?_
  by_cases c2 : 402 < ls.length
  · rw [if_pos c2]
    exact Ev.pos (by omega) (Ev.eq rfl)
  rw [if_neg c2]
  have hlast : rdOf ByteArray.empty (ls.map ba) (((ls.length - 1 : Nat) : Int)) = ba (ls[ls.length - 1]'(by omega)) := rdb (by omega)
  have hfirst : rdOf ByteArray.empty (ls.map ba) 0 = ba (ls[0]'(by omega)) := rdb (i := 0) (by omega)
  have hget : ls.getLast? = some (ls[ls.length - 1]'(by omega)) := by rw [List.getLast?_eq_getElem?, List.getElem?_eq_getElem]
  have hhead : ls.headD [] = ls[0]'(by omega) := by cases ls with
    | nil => simp at hne
    | cons a b => rfl
  rw [hlast, hfirst, hget, hhead]
  refine Ev.neg (by omega) (Ev.pos (by omega) (Ev.pos (by rw [List.length_map]; omega) ?_))
  by_cases c3 : ls[ls.length - 1]'(by omega) = []
  rotate_left
  · rw [if_neg (fun e => c3 (Option.some.inj e))]
    exact Ev.neg (fun e => c3 (ba_ne.1 e)) (Ev.eq rfl)
  rw [if_pos (by rw [c3])]
  have hb := hmem _ (List.getElem_mem (l := ls) (n := 0) (by omega))
  have h1 := splitOn_len 32 (ls[0]'(by omega))
  have h2 := splitOn_mem 32 (ls[0]'(by omega))
  have h3 : 1 ≤ (splitOn 32 (ls[0]'(by omega))).length := List.length_pos_iff.2 (splitOn_ne 32 _)
  rw [show (⟨#[32]⟩ : ByteArray) = ba [32] from rfl, split_f 32 _ (by omega)]
  refine Ev.pos (by rw [c3]; rfl) (Ev.pos (by rw [List.length_map]; omega) (Ev.bindo rfl ?_))
  generalize splitOn 32 (ls[0]'(by omega)) = hw at *
  rw [take_all, ← List.map_drop]
  refine Ev.pos (by rw [List.length_map]; omega) (Ev.bind (numbers_ev (hw.drop 1) (by rw [List.length_drop]; omega) (fun w hx => by have := h2 w (List.drop_subset _ _ hx); omega)) ?_)
  have rest := fun r b => impl_rest hs (ba l) r ls (by omega) (by omega) (fun x hx => by have := hmem x hx; omega) b
  by_cases c4 : (numbersR (hw.drop 1)).2 = true
  · rw [if_pos c4]
    refine Ev.pos c4 (Ev.pos (by rw [List.length_map]; omega) ?_)
    refine (rest _ _).val ?_
    have hh : hw.headD [] = hw[0]'(by omega) := by cases hw with
      | nil => simp at h3
      | cons a b => rfl
    have hr : rdOf ByteArray.empty (hw.map ba) 0 = ba (hw[0]'(by omega)) := rdb (i := 0) (by omega)
    rw [hh, hr, show (⟨#[114, 111, 111, 116, 115]⟩ : ByteArray) = ba [114, 111, 111, 116, 115] from rfl]
    by_cases c5 : hw[0]'(by omega) = [114, 111, 111, 116, 115]
    · rw [if_pos c5, if_neg]
      rw [decide_eq_true (ba_ne.2 c5)]
      simp
    · rw [if_neg c5, if_pos]
      rw [decide_eq_false (fun e => c5 (ba_ne.1 e))]
      rfl
  · rw [if_neg c4]
    refine Ev.neg c4 ((rest _ true).val ?_)
    rw [if_pos rfl]
/-! ### the reference -/
noncomputable def nodeS (l : List UInt8) : Int × List Int := (rd ((splitOn 32 l).map numS) 0, ((splitOn 32 l).map numS).drop 1)
def finS (types : List ByteArray) (l : List UInt8) (r : List Int) (n : List (Int × List Int)) : List Int × List (Int × List Int) × Bool :=
  if l = [] then noG else finI types (ba l) r n
noncomputable def readS (types : List ByteArray) (l : List UInt8) : List Int × List (Int × List Int) × Bool :=
  if 200000 < l.length then noG
  else finS types l (match trimL (splitOn 10 l) with
    | [] => []
    | a :: _ => ((splitOn 32 a).map numS).drop 1) ((((trimL (splitOn 10 l)).take 401).drop 1).map nodeS)
theorem trimL_len (p : List (List UInt8)) : (trimL p).length ≤ p.length := by
  unfold trimL
  split
  · rw [List.length_dropLast]; omega
  · exact Nat.le_refl _
theorem trimL_mem {p : List (List UInt8)} : ∀ x ∈ trimL p, x ∈ p := by
  intro x hx
  unfold trimL at hx
  split at hx
  · exact List.dropLast_subset _ hx
  · exact hx
noncomputable def nodeSF (l : List UInt8) : Int × List Int := (rd ((splitOn 32 l).map numS) 0, (splitOn 32 l).map numS)
def finSF (types : List ByteArray) (l : List UInt8) (r : List Int) (n : List (Int × List Int)) : List Int × List (Int × List Int) × Bool :=
  if l = [] then noG else finIF types (ba l) r n
noncomputable def readSF (types : List ByteArray) (l : List UInt8) : List Int × List (Int × List Int) × Bool :=
  if 200000 < l.length then noG
  else finSF types l (match trimL (splitOn 10 l) with
    | [] => []
    | a :: _ => ((splitOn 32 a).map numS).drop 1) ((((trimL (splitOn 10 l)).take 401).drop 1).map nodeSF)
theorem readSF_cut (types : List ByteArray) (l : List UInt8) : cutG (readSF types l) = readS types l := by
  unfold readSF readS finSF finS
  simp only [cutG_ite, cutG_no, cutG_fin]
  rw [cutN_map nodeSF nodeS fun _ => rfl]
theorem spec_end {types : List ByteArray} (ht : types.length ≤ 1048576) (hs : ∀ x ∈ types, x.size ≤ 1048576) (l : List UInt8) (ls : List ByteArray) (r : List Int) (n : List (Int × List Int)) (i : Int) :
    Ev (fun k => spec_ReadGraph.p22 k types (ba l) ls r n i false) (finSF types l r n) := by
  refine Ev.step (fun k => by rw [spec_ReadGraph.p22]) ?_
  refine Ev.neg (by simp) ?_
  unfold finSF
  by_cases c : l = []
  · subst c
    rw [if_pos rfl]
    exact Ev.pos rfl (Ev.eq rfl)
  · rw [if_neg c]
    rw [cut_eq]
    refine Ev.neg (fun e => c (ba_ne.1 e)) (Ev.bind (spec_GraphText_ev types (r, cutN n) ht hs) ?_)
    unfold finIF
    by_cases d : (graphTextR types (r, cutN n)).toList = (ba l).toList
    · simp only [if_pos d]
      exact Ev.eq rfl
    · simp only [if_neg d]
      exact Ev.eq rfl
theorem spec_ReadGraph_ev (types : List ByteArray) (l : List UInt8) (ht : types.length ≤ 1048576) (hs : ∀ x ∈ types, x.size ≤ 1048576) (hl : l.length ≤ 1073741824) : Ev (fun k => spec_ReadGraph.f k types (ba l)) (readSF types l) := by
  unfold spec_ReadGraph.f readSF
  rw [ba_size]
  by_cases c0 : 200000 < l.length
  · rw [if_pos c0]
    exact Ev.pos (by omega) (Ev.eq rfl)
  rw [if_neg c0]
  refine Ev.neg (by omega) ?_
  obtain ⟨b, hb⟩ := l1Lines_ev l (by omega)
  refine Ev.bind hb ?_
  simp only []
  have hlen := splitOn_len 10 l
  have htl := trimL_len (splitOn 10 l)
  have hmem : ∀ x ∈ trimL (splitOn 10 l), x.length ≤ l.length := fun x hx => splitOn_mem 10 l x (trimL_mem x hx)
  generalize trimL (splitOn 10 l) = ls at *
  have hlast : ∀ (i : Nat) (r : List Int) (n : List (Int × List Int)), (i = ls.length ∨ 401 ≤ i) → Ev (fun k => spec_ReadGraph.p18 k types (ba l) (ls.map ba) r n (i : Int)) (finSF types l r n) := by
    intro i r n hi
    refine Ev.step (fun k => by rw [spec_ReadGraph.p18]) ?_
    rw [List.length_map]
    by_cases c : (i : Int) < (ls.length : Int)
    · refine Ev.pos c ?_
      rw [decide_eq_false (by omega)]
      exact spec_end ht hs l _ r n _
    · exact Ev.neg c (spec_end ht hs l _ r n _)
  have key : ∀ (r : List Int) (i : Nat), i ≤ min ls.length 401 → 1 ≤ i → Ev (fun k => spec_ReadGraph.p18 k types (ba l) (ls.map ba) r (((ls.take i).drop 1).map nodeSF) (i : Int)) (finSF types l r (((ls.take 401).drop 1).map nodeSF)) := by
    intro r
    refine down (n := min ls.length 401) ?_ ?_
    · intro _
      have e : ls.take (min ls.length 401) = ls.take 401 := by
        by_cases c : ls.length ≤ 401
        · rw [Nat.min_eq_left c, List.take_of_length_le (Nat.le_refl _), List.take_of_length_le c]
        · rw [Nat.min_eq_right (by omega)]
      rw [e]
      exact hlast _ _ _ (by omega)
    · intro i hi ih h1
      have hi' : i < ls.length := by omega
      have hbb := hmem _ (List.getElem_mem hi')
      have g1 := splitOn_len 32 ls[i]
      have g2 := splitOn_mem 32 ls[i]
      have g3 : 1 ≤ (splitOn 32 ls[i]).length := List.length_pos_iff.2 (splitOn_ne 32 ls[i])
      refine Ev.step (fun k => by rw [spec_ReadGraph.p18]) ?_
      rw [List.length_map]
      refine Ev.pos (by omega) ?_
      rw [decide_eq_true (by omega)]
      refine Ev.step (fun k => by rw [spec_ReadGraph.p22]) ?_
      rw [rdb hi', w64s (by omega), List.length_map]
      refine Ev.pos rfl (Ev.pos (by omega) (Ev.pos (by omega) (Ev.bind (l1Split_ev ls[i] (by omega)) (Ev.bind (l7Nums_ev _ (by omega) (fun w hw => by have := g2 w hw; omega)) ?_))))
      refine Ev.neg (by omega) (Ev.pos (by rw [List.length_map]; omega) (Ev.pos (by rw [List.length_map]; omega) (Ev.pos (by rw [List.length_map, List.length_drop, List.length_take]; omega) ?_)))
      have ih := ih (by omega)
      rw [List.take_succ_eq_append_getElem hi', List.drop_append_of_le_length (by rw [List.length_take]; omega), List.map_append] at ih
      rw [set_snoc]
      exact ih
  cases hls : ls with
  | nil =>
    have := hlast 0 [] [] (.inl (by rw [hls]; rfl))
    rw [hls] at this
    exact this
  | cons a q =>
    have hbb := hmem a (by rw [hls]; simp)
    have g1 := splitOn_len 32 a
    have g2 := splitOn_mem 32 a
    have g3 : 1 ≤ (splitOn 32 a).length := List.length_pos_iff.2 (splitOn_ne 32 a)
    have hr : rdOf ByteArray.empty ((a :: q).map ba) 0 = ba a := rdb (ws := a :: q) (i := 0) (by simp)
    refine Ev.step (fun k => by rw [spec_ReadGraph.p18]) ?_
    refine Ev.pos (by simp <;> omega) ?_
    rw [decide_eq_true (by omega)]
    refine Ev.step (fun k => by rw [spec_ReadGraph.p22]) ?_
    rw [hr]
    refine Ev.pos rfl (Ev.pos (by omega) (Ev.pos (by simp <;> omega) (Ev.bind (l1Split_ev a (by omega)) (Ev.bind (l7Nums_ev _ (by omega) (fun w hw => by have := g2 w hw; omega)) ?_))))
    refine Ev.pos rfl (Ev.pos (by rw [List.length_map]; omega) ?_)
    refine Ev.pos (by rw [List.length_nil, List.length_drop, List.length_map]; omega) ?_
    rw [List.nil_append]
    have := key (((splitOn 32 a).map numS).drop 1) 1 (by rw [hls, List.length_cons]; omega) (Nat.le_refl _)
    rw [hls] at this
    rw [show wrap64 (0 + 1) = ((1 : Nat) : Int) from by rw [w64 (by omega) (by omega)]; rfl]
    exact this
/-! ### the text of a graph -/
def lineOf (o : Int × List Int) : List UInt8 := Lib.itoa o.1 ++ lineT o.2
def headT (r : List Int) : List UInt8 := [114, 111, 111, 116, 115] ++ lineT r
def joinN : List (List UInt8) → List UInt8
  | [] => []
  | a :: q => a ++ 10 :: joinN q
theorem splitOn_join : ∀ (ls : List (List UInt8)), (∀ p ∈ ls, ∀ b ∈ p, b ≠ 10) → splitOn 10 (joinN ls) = ls ++ [[]]
  | [], _ => rfl
  | a :: q, h => by
    rw [joinN, splitOn_piece 10 a _ (h a (by simp)), splitOn_join q fun p hp => h p (by simp [hp])]
    rfl
theorem nodesT_join : ∀ n : List (Int × List Int), nodesT n = joinN (n.map lineOf)
  | [] => rfl
  | o :: n => by
    rw [nodesT, nodesT_join n, List.map_cons, joinN]
    unfold nodeT lineOf
    simp
theorem graphT_join (g : List Int × List (Int × List Int)) : graphT g = joinN (headT g.1 :: g.2.map lineOf) := by
  unfold graphT
  rw [nodesT_join, joinN]
  unfold rootsT headT
  simp
theorem lineT_in : ∀ (ns : List Int), ∀ b ∈ lineT ns, b ≠ 10
  | [], b, hb => by cases hb
  | n :: ns, b, hb => by
    rw [lineT] at hb
    rcases List.mem_cons.1 hb with rfl | hb
    · decide
    · rcases List.mem_append.1 hb with hb | hb
      · exact (itoa_in n b hb).2
      · exact lineT_in ns b hb
theorem split_line : ∀ (ns : List Int) (w : List UInt8), (∀ b ∈ w, b ≠ 32) → splitOn 32 (w ++ lineT ns) = w :: ns.map Lib.itoa
  | [], w, h => by rw [lineT, List.append_nil, splitOn_last 32 w h]; rfl
  | n :: ns, w, h => by
    rw [lineT, splitOn_piece 32 w _ h, split_line ns _ fun b hb => (itoa_in n b hb).1]
    rfl
theorem lines_in (g : List Int × List (Int × List Int)) : ∀ p ∈ headT g.1 :: g.2.map lineOf, ∀ b ∈ p, b ≠ 10 := by
  intro p hp b hb
  rcases List.mem_cons.1 hp with rfl | hp
  · unfold headT at hb
    rcases List.mem_append.1 hb with hb | hb
    · intro e
      subst e
      revert hb
      decide
    · exact lineT_in _ b hb
  · obtain ⟨o, _, rfl⟩ := List.mem_map.1 hp
    unfold lineOf at hb
    rcases List.mem_append.1 hb with hb | hb
    · exact (itoa_in _ b hb).2
    · exact lineT_in _ b hb
theorem small_itoa (d : Nat) {n : Int} (h0 : 0 ≤ n) (h1 : n.toNat < 10 ^ (d + 1)) : (Lib.itoa n).length ≤ d + 1 := by
  obtain ⟨m, rfl⟩ := Int.eq_ofNat_of_zero_le h0
  rw [itoa_pos]
  exact digits_len d m (by simpa using h1)
theorem lineT_le (c : Nat) : ∀ ns : List Int, (∀ n ∈ ns, (Lib.itoa n).length + 1 ≤ c) → (lineT ns).length ≤ c * ns.length
  | [], _ => Nat.zero_le _
  | n :: ns, h => by
    have := lineT_le c ns fun x hx => h x (by simp [hx])
    have := h n (by simp)
    rw [lineT, List.length_cons, List.length_append, List.length_cons, Nat.mul_succ]
    omega
theorem nodesT_le (c : Nat) : ∀ n : List (Int × List Int), (∀ o ∈ n, (nodeT o).length ≤ c) → (nodesT n).length ≤ c * n.length
  | [], _ => Nat.zero_le _
  | o :: n, h => by
    have := nodesT_le c n fun x hx => h x (by simp [hx])
    have := h o (by simp)
    rw [nodesT, List.length_append, List.length_cons, Nat.mul_succ]
    omega
theorem graphT_len2 {g : List Int × List (Int × List Int)} (hn : Nums g) (hg : g.2.all (fun o => o.2.all inT) = true) : (graphT g).length ≤ 6 + 4 * g.1.length + 394 * g.2.length := by
  have h1 := lineT_le 4 g.1 fun n hx => by
    have := hn.rootsIn n hx
    have := small_itoa 2 (n := n) (by omega) (by have e : (10 : Nat) ^ (2 + 1) = 1000 := by decide
                                                 omega)
    omega
  have h2 := nodesT_le 394 g.2 fun o ho => by
    have hv := List.all_eq_true.1 hg o ho
    have h3 := hn.vals o ho
    have h4 := hn.types o ho
    have h5 := small_itoa 1 (n := o.1) (by omega) (by have e : (10 : Nat) ^ (1 + 1) = 100 := by decide
                                                      omega)
    have h6 := lineT_le 17 o.2 fun n hx => by
      have := itoa_text (List.all_eq_true.1 hv n hx)
      omega
    unfold nodeT
    rw [List.length_append, List.length_append, List.length_singleton]
    omega
  unfold graphT rootsT
  simp only [List.length_append, List.length_cons, List.length_nil]
  omega
theorem graphT_len {g : List Int × List (Int × List Int)} (hn : Nums g) (hg : g.2.all (fun o => o.2.all inT) = true) : (graphT g).length ≤ 200000 := by
  have h1 := graphT_len2 hn hg
  have h3 := hn.roots
  have h4 := hn.nodes
  omega
theorem graphTextR_len (types : List ByteArray) (g : List Int × List (Int × List Int)) : (graphTextR types g).size ≤ 6 + 4 * g.1.length + 394 * g.2.length := by
  unfold graphTextR
  split
  · rename_i c
    split
    · rename_i c2
      rw [ba_size]
      exact graphT_len2 (nums_of c) c2
    · exact Nat.zero_le _
  · exact Nat.zero_le _
/-! ### there and back -/
theorem read_back {types : List ByteArray} {g : List Int × List (Int × List Int)} {l : List UInt8} (h : graphTextR types g = ba l) (hl : l ≠ []) : readI types l = (g.1, g.2, true) ∧ readS types l = (g.1, g.2, true) := by
  have hx := h
  unfold graphTextR at hx
  by_cases c : graphOk types g = true
  rotate_left
  · rw [if_neg c] at hx
    exact absurd ((ba_ne (a := []) (b := l)).1 (by rw [hx])).symm hl
  rw [if_pos c] at hx
  by_cases c2 : g.2.all (fun o => o.2.all inT) = true
  rotate_left
  · rw [if_neg c2] at hx
    exact absurd ((ba_ne (a := []) (b := l)).1 (by rw [hx])).symm hl
  rw [if_pos c2] at hx
  have el : graphT g = l := ba_ne.1 (by rw [hx])
  have hn := nums_of c
  have hlen := graphT_len hn c2
  have hr : g.1.all inT = true := by
    rw [List.all_eq_true]
    intro n hx
    have := hn.rootsIn n hx
    unfold inT
    rw [decide_eq_true (by omega), decide_eq_true (by omega)]
    rfl
  have ho : ∀ o ∈ g.2, (o.1 :: o.2).all inT = true := fun o hx => by
    have := hn.types o hx
    rw [List.all_cons, List.all_eq_true.1 c2 o hx]
    unfold inT
    rw [decide_eq_true (by omega), decide_eq_true (by omega)]
    rfl
  have hs : splitOn 10 l = (headT g.1 :: g.2.map lineOf) ++ [[]] := by rw [← el, graphT_join, splitOn_join _ (lines_in g)]
  have hnodes := hn.nodes
  have hhead : splitOn 32 (headT g.1) = [114, 111, 111, 116, 115] :: g.1.map Lib.itoa := split_line g.1 _ (by decide)
  have hline : ∀ o : Int × List Int, splitOn 32 (lineOf o) = (o.1 :: o.2).map Lib.itoa := fun o => split_line o.2 _ fun b hb => (itoa_in _ b hb).1
  have hfin : finI types (ba l) g.1 g.2 = (g.1, g.2, true) := by
    unfold finI
    rw [if_pos (by rw [h])]
  constructor
  · unfold readI
    rw [hs]
    have e1 : ((headT g.1 :: g.2.map lineOf) ++ [[]]).length = g.2.length + 2 := by simp
    rw [e1, if_neg (by omega), if_neg (by omega), List.getLast?_concat, if_pos rfl, List.dropLast_concat]
    have hh0 : ((headT g.1 :: g.2.map lineOf) ++ [[]]).headD [] = headT g.1 := rfl
    rw [hh0, hhead]
    rw [show ([114, 111, 111, 116, 115] :: g.1.map Lib.itoa).drop 1 = g.1.map Lib.itoa from rfl, numbersR_itoa g.1 hr, if_pos rfl]
    rw [show ([114, 111, 111, 116, 115] :: g.1.map Lib.itoa).headD [] = [114, 111, 111, 116, 115] from rfl, if_pos rfl]
    rw [show (headT g.1 :: g.2.map lineOf).drop 1 = g.2.map lineOf from rfl]
    rw [if_pos, List.map_map]
    · have e2 : g.2.map (nodeI ∘ lineOf) = g.2 := by
        conv => rhs; rw [← List.map_id g.2]
        refine List.map_congr_left fun o hx => ?_
        show nodeI (lineOf o) = o
        unfold nodeI
        rw [hline, numbersR_itoa _ (ho o hx)]
        rfl
      rw [e2]
      exact hfin
    · rw [List.all_map, List.all_eq_true]
      intro o hx
      show okI (lineOf o) = true
      unfold okI
      rw [hline, numbersR_itoa _ (ho o hx)]
  · unfold readS
    rw [if_neg (by rw [← el]; omega), hs]
    have e1 : trimL ((headT g.1 :: g.2.map lineOf) ++ [[]]) = headT g.1 :: g.2.map lineOf := by
      unfold trimL
      rw [List.getLast?_concat, if_pos rfl, List.dropLast_concat]
    rw [e1, List.take_of_length_le (by simp; omega)]
    simp only []
    rw [hhead, show (([114, 111, 111, 116, 115] :: g.1.map Lib.itoa).map numS).drop 1 = (g.1.map Lib.itoa).map numS from rfl, numS_map g.1 hr, show (headT g.1 :: g.2.map lineOf).drop 1 = g.2.map lineOf from rfl, List.map_map]
    have e2 : g.2.map (nodeS ∘ lineOf) = g.2 := by
      conv => rhs; rw [← List.map_id g.2]
      refine List.map_congr_left fun o hx => ?_
      show nodeS (lineOf o) = o
      unfold nodeS
      rw [hline, numS_map _ (ho o hx)]
      rfl
    rw [e2]
    unfold finS
    rw [if_neg hl]
    exact hfin
theorem finI_or (types : List ByteArray) (l : List UInt8) (r : List Int) (n : List (Int × List Int)) : finI types (ba l) r n = noG ∨ (finI types (ba l) r n = (r, n, true) ∧ graphTextR types (r, n) = ba l) := by
  unfold finI
  split
  · rename_i h
    exact .inr ⟨rfl, toList_inj.1 h⟩
  · exact .inl rfl
/-- What is read has that text. -/
theorem readI_or (types : List ByteArray) (l : List UInt8) : readI types l = noG ∨ ∃ g : List Int × List (Int × List Int), readI types l = (g.1, g.2, true) ∧ graphTextR types g = ba l ∧ l ≠ [] := by
  by_cases hl : l = []
  · left
    subst hl
    rfl
  unfold readI
  split
  · exact .inl rfl
  split
  · exact .inl rfl
  split
  · split
    · split
      · split
        · rcases finI_or types l (numbersR ((splitOn 32 ((splitOn 10 l).headD [])).drop 1)).1 (((splitOn 10 l).dropLast.drop 1).map nodeI) with h | ⟨h1, h2⟩
          · exact .inl h
          · exact .inr ⟨(_, _), h1, h2, hl⟩
        · exact .inl rfl
      · exact .inl rfl
    · exact .inl rfl
  · exact .inl rfl
theorem readS_or (types : List ByteArray) (l : List UInt8) : readS types l = noG ∨ ∃ g : List Int × List (Int × List Int), readS types l = (g.1, g.2, true) ∧ graphTextR types g = ba l ∧ l ≠ [] := by
  unfold readS
  split
  · exact .inl rfl
  unfold finS
  split
  · exact .inl rfl
  · rename_i hl
    rcases finI_or types l _ _ with h | ⟨h1, h2⟩
    · exact .inl h
    · exact .inr ⟨(_, _), h1, h2, hl⟩
theorem read_eq (types : List ByteArray) (l : List UInt8) : readI types l = readS types l := by
  rcases readI_or types l with h | ⟨g, h, h1, h2⟩
  · rcases readS_or types l with h' | ⟨g', h', h1', h2'⟩
    · rw [h, h']
    · rw [(read_back h1' h2').1, (read_back h1' h2').2]
  · rw [(read_back h1 h2).1, (read_back h1 h2).2]
end Go.Proofs.YtommgpkeicpokaaGreatDoor.Abs.Pu
