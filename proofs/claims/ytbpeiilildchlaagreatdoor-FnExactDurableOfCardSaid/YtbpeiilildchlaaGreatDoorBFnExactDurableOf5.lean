/- Durable graphs: what the program comes to. For types of at most 2^20 bytes. (Merged out of this claim's own texts.) -/
import Derived.Test.YtbpeiilildchlaaGreatDoorBFnExactDurableOf4
import Derived.Test.YtbpeiilildchlaaGreatDoorProg
import Derived.Shelf.Strings.Builder1
import Derived.Shelf.Strings.Builder2
import Derived.Shelf.Strings.Trim
import Derived.Shelf.Small.Utf8
import Derived.Shelf.Small.Strs
import Derived.Shelf.Strings.BuilderF
import Derived.Shelf.Strings.BuilderK
import Derived.Shelf.Strings.Builder2Cap
import Derived.Shelf.Strings.Search1
import Derived.Shelf.Strings.Prefix
import Derived.Shelf.Unicode.Decode
import Derived.Shelf.Strings.Runes
import Derived.Shelf.Strings.AsciiSet
import Derived.Shelf.Bits.Mul64
import Derived.Shelf.Strings.Repeat
import Derived.Shelf.Unicode.DecodeSlow
import Derived.Shelf.Unicode.DecodeAny
import Derived.Shelf.Unicode.DecodeLast
import Derived.Shelf.Strings.BuilderCap
import Derived.Ground.SlgfProg
import Derived.Shelf.SlicesE.IndexFunc
import Derived.Shelf.Strings.SlTrimAscii
import Derived.Lib.Repeat
namespace Go.Proofs.YtbpeiilildchlaaGreatDoor.Abs.Pu
open Go Go.RowKit
set_option linter.unusedVariables false
set_option linter.unusedSectionVars false
set_option linter.unusedSimpArgs false
theorem oldRef_f {x : Int} (h0 : 1 ≤ x) (h1 : x ≤ 127) : impl_OldRef.f x = some (2 * x) := by
  unfold impl_OldRef.f
  have e : impl_within.f x 1 127 = some true := by
    unfold impl_within.f
    rw [if_pos (by omega), decide_eq_true (by omega)]
  rw [e, Option.bind_some, if_pos rfl, w64 (by omega) (by omega)]
/-- The map of the program tells what the reference finds among the lines. -/
def MapIs (f : Int → Option Int) (L : List Int) : Prop := ∀ v : Int, 0 ≤ v → v % 2 = 0 → (f v).getD 0 = toldR L v
theorem MapIs.nil : MapIs (fun (_ : Int) => (none : Option Int)) [] := by
  intro v _ _
  unfold toldR
  simp
theorem MapIs.snoc {f : Int → Option Int} {L : List Int} {x : Int} (h : MapIs f L) (hx : x ∉ L) (x0 : 1 ≤ x) : MapIs (mput f (2 * x) ((L.length : Int) + 1)) (L ++ [x]) := by
  intro v h0 h1
  rw [toldR_snoc L x v hx x0 h0 h1]
  unfold mput
  by_cases e : v = 2 * x
  · rw [if_pos e, if_pos e]
    rfl
  · rw [if_neg e, if_neg e]
    exact h v h0 h1
set_option maxHeartbeats 1000000 in
theorem impl_DurableOf_ev (c : Cfg) (s : ByteArray) (hs : ∀ x ∈ c.2.2.2, x.size ≤ 1048576) : Ev (fun k => impl_DurableOf.f k c.1 c.2.1 c.2.2.1 c.2.2.2 s) (durR c s) := by
  unfold impl_DurableOf.f durR
  refine Ev.bind (impl_RootsOf_ev c s hs) (Ev.cases (fun h => ?_) (fun h => by rw [if_neg h]; exact Ev.eq rfl))
  rw [if_pos h]
  obtain ⟨hi, hd⟩ := rootsR_yes h
  have hrl := rootsR_length c s
  generalize (rootsR c s).1 = r at *
  refine Ev.bind (impl_walked_ev c s r hs (by omega)) ?_
  cases hw : walkR c s r with
  | none => exact Ev.neg (by simp [fin3]) (Ev.eq rfl)
  | some w =>
    obtain ⟨L, O, M⟩ := w
    have wp := walkP hw
    have hL := wp.le
    have hO := wp.eq
    have hlen := outF_length L O
    have hget : ∀ (i : Nat) (h : i < L.length), rdOf (0, (0, [])) (outF L O) (i : Int) = (L[i], O[i]'(hO ▸ h)) := fun i h => by
      rw [rdg (by omega), outF_get, List.getD_eq_getElem?_getD, List.getElem?_eq_getElem (by omega)]
      rfl
    refine Ev.pos rfl ?_
    show Ev (fun k => impl_DurableOf.p28 k c.1 c.2.1 c.2.2.1 c.2.2.2 r (outF L O) (fun (_ : Int) => (none : Option Int)) ((outF L O).length : Int) 0) (r.map (toldR L), O.map (nodeR c L), true)
    suffices key : ∀ out : List (Int × Int × List Int), out.length = L.length → (∀ (i : Nat) (h : i < L.length), rdOf (0, (0, [])) out (i : Int) = (L[i], O[i]'(hO ▸ h))) → Ev (fun k => impl_DurableOf.p28 k c.1 c.2.1 c.2.2.1 c.2.2.2 r out (fun (_ : Int) => (none : Option Int)) (out.length : Int) 0) (r.map (toldR L), O.map (nodeR c L), true) from key _ hlen hget
    intro out hlen hget
    -- the nodes
    have nodes : ∀ f : Int → Option Int, MapIs f L → ∀ i, i ≤ O.length → ∀ fr : Nat, fr ≤ i → Ev (fun k => impl_DurableOf.p64 k c.1 c.2.1 c.2.2.1 c.2.2.2 f (r.map (toldR L)) ((O.take i).map (nodeR c L)) fr out (out.length : Int) (i : Int)) (r.map (toldR L), O.map (nodeR c L), true) := by
      intro f hf
      refine down ?_ ?_
      · intro fr _
        refine Ev.step (fun k => by rw [impl_DurableOf.p64]) ?_
        rw [List.take_length]
        exact Ev.neg (by omega) (Ev.eq rfl)
      · intro i hi ih fr hfr
        refine Ev.step (fun k => by rw [impl_DurableOf.p64]) ?_
        have op := wp.ob _ (List.getElem_mem hi)
        have ih := ih (i + 1) (Nat.le_refl _)
        rw [hget i (by omega)]
        rw [take_snoc2 O i hi, List.map_append] at ih
        have hlen2 : ((O.take i).map (nodeR c L)).length ≤ 128 := by rw [List.length_map, List.length_take]; omega
        generalize (O.take i).map (nodeR c L) = N at *
        generalize O[i] = o at *
        simp only [Int.toNat_natCast]
        refine Ev.pos (by omega) (Ev.pos (by omega) (Ev.pos (by omega) (Ev.pos hfr ?_)))
        obtain ⟨t0, t1, sz, ln, rf⟩ := op
        have inner : ∀ (l : List Int) (q : Nat) (a : List Int), q + l.length = o.2.length → a.length = q → refsB (dataRefB c) (kdO c o) q l = true → a ++ tolV (kdO c o) L q l = tolV (kdO c o) L 0 o.2 → Ev (fun k => impl_DurableOf.p79 k c.1 c.2.1 c.2.2.1 c.2.2.2 f (r.map (toldR L)) N L[i] o.1 (a ++ l) (i + 1) out (out.length : Int) (i : Int) (o.2.length : Int) (q : Int)) (r.map (toldR L), O.map (nodeR c L), true) := by
          intro l
          induction l with
          | nil =>
            intro q a hq ha hr2 hv
            rw [List.length_nil] at hq
            refine Ev.step (fun k => by rw [impl_DurableOf.p79]) ?_
            rw [tolV] at hv
            rw [hv, set_snoc, w64s (i := i) (by omega)]
            exact Ev.neg (by omega) (Ev.pos (by omega) ih)
          | cons v l ihl =>
            intro q a hq ha hr2 hv
            rw [List.length_cons] at hq
            have hal : (a ++ v :: l).length = o.2.length := by rw [List.length_append, List.length_cons]; omega
            have hrd : rd (a ++ v :: l) (q : Int) = v := by
              rw [rd_get (by omega), List.getElem_append_right (by omega)]
              simp [ha]
            have hset : ∀ u : Int, (a ++ v :: l).set q u = (a ++ [u]) ++ l := fun u => by
              rw [List.set_append_right _ _ (by omega), show q - a.length = 0 from by omega, List.append_assoc]
              rfl
            rw [refsB] at hr2
            rw [tolV, ← List.singleton_append, ← List.append_assoc] at hv
            refine Ev.step (fun k => by rw [impl_DurableOf.p79]) ?_
            rw [hrd, w64s (i := q) (by omega), Int.toNat_natCast]
            have hsz : ((rdOf ByteArray.empty c.2.2.2 o.1).size : Int) = o.2.length := by rw [sz]; rfl
            refine Ev.pos (by omega) (Ev.pos (by omega) (Ev.pos (by omega) (Ev.pos t0 (Ev.pos t1 (Ev.pos (by omega) (Ev.pos (by omega) ?_))))))
            by_cases k4 : bt (kdO c o) (q : Int) = 114
            · rw [if_pos k4] at hv hr2
              rw [Bool.and_eq_true] at hr2
              have hv3 := dataRef_all hr2.1
              rw [hf v (by omega) (by omega), hset]
              exact Ev.pos k4 (Ev.pos (by omega) (Ev.pos (by omega) (ihl (q + 1) _ (by omega) (by rw [List.length_append, List.length_singleton]; omega) hr2.2 hv)))
            · rw [if_neg k4] at hv hr2
              rw [show a ++ v :: l = (a ++ [v]) ++ l from by rw [List.append_assoc]; rfl]
              exact Ev.neg k4 (ihl (q + 1) _ (by omega) (by rw [List.length_append, List.length_singleton]; omega) hr2 hv)
        exact inner o.2 0 [] (by omega) rfl rf rfl
    -- the roots
    have roots : ∀ f : Int → Option Int, MapIs f L → ∀ i, i ≤ r.length → Ev (fun k => impl_DurableOf.p47 k c.1 c.2.1 c.2.2.1 c.2.2.2 out f ((r.take i).map (toldR L)) r (r.length : Int) (i : Int)) (r.map (toldR L), O.map (nodeR c L), true) := by
      intro f hf
      refine down ?_ ?_
      · refine Ev.step (fun k => by rw [impl_DurableOf.p47]) ?_
        rw [List.take_length]
        exact Ev.neg (by omega) (by simpa using nodes f hf 0 (Nat.zero_le _) 0 (Nat.zero_le _))
      · intro i hi ih
        refine Ev.step (fun k => by rw [impl_DurableOf.p47]) ?_
        have hv3 := dataRef_all (List.all_eq_true.1 hd _ (List.getElem_mem hi))
        rw [take_snoc2 r i hi, List.map_append] at ih
        have hlen : ((r.take i).map (toldR L)).length ≤ 8 := by rw [List.length_map, List.length_take]; omega
        rw [rd_get hi, w64s (i := i) (by omega), hf _ (by omega) (by omega)]
        exact Ev.pos (by omega) (Ev.pos (by omega) (Ev.pos (by omega) (Ev.pos (by omega) ih)))
    -- the map
    have mp : ∀ i, i ≤ L.length → ∀ f : Int → Option Int, MapIs f (L.take i) → Ev (fun k => impl_DurableOf.p28 k c.1 c.2.1 c.2.2.1 c.2.2.2 r out f (out.length : Int) (i : Int)) (r.map (toldR L), O.map (nodeR c L), true) := by
      refine down ?_ ?_
      · intro f hf
        rw [List.take_length] at hf
        refine Ev.step (fun k => by rw [impl_DurableOf.p28]) ?_
        exact Ev.neg (by omega) (by simpa using roots f hf 0 (Nat.zero_le _))
      · intro i hi ih f hf
        refine Ev.step (fun k => by rw [impl_DurableOf.p28]) ?_
        have hx := wp.rg _ (List.getElem_mem hi)
        have hno : L[i] ∉ L.take i := fun hm => by
          have nd := wp.nd
          rw [← List.take_append_drop i L, List.nodup_append] at nd
          exact nd.2.2 _ hm _ (by rw [List.drop_eq_getElem_cons hi]; exact List.mem_cons_self) rfl
        have hio : i < out.length := by omega
        have same : out.set i (rdOf (0, (0, [])) out (i : Int)) = out := by
          rw [rdg hio]
          exact List.set_getElem_self hio
        have hf2 := hf.snoc hno (by omega)
        rw [← take_snoc2 L i hi, List.length_take, Nat.min_eq_left (by omega)] at hf2
        rw [Int.toNat_natCast, same, hget i hi, w64s (i := i) (by omega)]
        exact Ev.pos (by omega) (Ev.pos (by omega) (Ev.pos (by omega) (Ev.bindo (oldRef_f (by omega) (by omega)) (ih _ hf2))))
    exact mp 0 (Nat.zero_le _) _ (by simpa using MapIs.nil)
end Go.Proofs.YtbpeiilildchlaaGreatDoor.Abs.Pu
namespace Go.Proofs.YtbpeiilildchlaaGreatDoor.Abs.Pu
open Go Go.RowKit
set_option linter.unusedVariables false
set_option linter.unusedSectionVars false
set_option linter.unusedSimpArgs false
theorem markInt64S_ev (l : List Int) (m : Int) (h0 : 1 ≤ m) (h1 : m ≤ 2305843009213693952) (hl : l.length ≤ 1048576) : Ev (fun k => laws_markInt64S.f k l m) (marks m l.length, m + (l.length : Int)) := by
  have key : ∀ i, i ≤ l.length → ∀ out : List Int, out.length = l.length → (∀ j : Nat, j < i → out[j]? = some (m + (j : Int))) → Ev (fun k => laws_markInt64S.p6 k out (m + (i : Int)) (i : Int)) (marks m l.length, m + (l.length : Int)) := by
    refine down ?_ ?_
    · intro out ho ht
      refine Ev.step (fun k => by rw [laws_markInt64S.p6]) ?_
      refine Ev.neg (by omega) (Ev.eq ?_)
      congr 1
      refine List.ext_getElem? fun j => ?_
      by_cases h : j < l.length
      · rw [ht j h]
        simp [marks, List.getElem?_map, List.getElem?_range h]
      · rw [List.getElem?_eq_none (by omega), List.getElem?_eq_none (by rw [marks_length]; omega)]
    · intro i hi ih out ho ht
      have h2 := ih (out.set i (m + (i : Int))) (by rw [List.length_set]; exact ho) (fun j hj => by
        by_cases e : j = i
        · subst e; rw [List.getElem?_set_self (by omega)]
        · rw [List.getElem?_set_ne (fun h => e h.symm)]; exact ht j (by omega))
      refine Ev.step (fun k => by rw [laws_markInt64S.p6]) ?_
      rw [w64s (i := i) (by omega), show wrap64 (m + (i : Int) + 1) = m + ((i + 1 : Nat) : Int) from by rw [w64 (by omega) (by omega)]; omega, Int.toNat_natCast]
      exact Ev.pos (by omega) (Ev.pos (by omega) (Ev.pos (by omega) h2))
  unfold laws_markInt64S.f
  have := key 0 (Nat.zero_le _) l rfl (fun j hj => by omega)
  rwa [show m + ((0 : Nat) : Int) = m from by omega] at this
theorem heldInt64S_ev (m : Int) (n : Nat) (h0 : 1 ≤ m) (h1 : m ≤ 1099511627776) (hn : n ≤ 1048576) : Ev (fun k => laws_heldInt64S.f k (marks m n) m) (m + (n : Int)) := by
  have hl := marks_length m n
  have key : ∀ i, i ≤ n → Ev (fun k => laws_heldInt64S.p6 k (marks m n) (m + (i : Int)) (i : Int)) (m + (n : Int)) := by
    refine down ?_ ?_
    · refine Ev.step (fun k => by rw [laws_heldInt64S.p6]) ?_
      exact Ev.neg (by omega) (Ev.eq rfl)
    · intro i hi ih
      refine Ev.step (fun k => by rw [laws_heldInt64S.p6]) ?_
      rw [w64s (i := i) (by omega), show wrap64 (m + (i : Int) + 1) = m + ((i + 1 : Nat) : Int) from by rw [w64 (by omega) (by omega)]; omega, marks_get m n i hi]
      exact Ev.pos (by omega) (Ev.pos (by omega) (Ev.pos (by omega) (Ev.pos rfl ih)))
  unfold laws_heldInt64S.f
  have := key 0 (Nat.zero_le _)
  rwa [show m + ((0 : Nat) : Int) = m from by omega] at this
end Go.Proofs.YtbpeiilildchlaaGreatDoor.Abs.Pu
namespace Go.Proofs.YtbpeiilildchlaaGreatDoor.Abs.Pu
open Go Go.RowKit
set_option linter.unusedVariables false
set_option linter.unusedSectionVars false
set_option linter.unusedSimpArgs false
/-- Nodes that bear the marks from m on. -/
def Held : Int → List (Int × List Int) → Int → Prop
  | m, [], m' => m' = m
  | m, x :: l, m' => x.1 = m ∧ x.2 = marks (m + 1) x.2.length ∧ x.2.length ≤ 1000 ∧ Held (m + 1 + (x.2.length : Int)) l m'
theorem Held.le : {l : List (Int × List Int)} → {m m' : Int} → Held m l m' → m ≤ m' ∧ m' ≤ m + 1001 * (l.length : Int)
  | [], _, _, h => by have : _ = _ := h; simp only [List.length_nil]; omega
  | x :: l, m, m', ⟨_, _, h1, h2⟩ => by
    have := h2.le
    rw [List.length_cons]
    omega
theorem heldObjS_ev (l : List (Int × List Int)) (m m' : Int) (h0 : 1 ≤ m) (h1 : m ≤ 1048576) (hl : l.length ≤ 1000) (h : Held m l m') : Ev (fun k => laws_heldObjS.f k l m) m' := by
  have key : ∀ i, i ≤ l.length → ∀ x : Int, 1 ≤ x → x ≤ m + 1001 * (i : Int) → Held x (l.drop i) m' → Ev (fun k => laws_heldObjS.p6 k l x (i : Int)) m' := by
    refine down ?_ ?_
    · intro x _ _ hx
      rw [List.drop_eq_nil_of_le (Nat.le_refl _)] at hx
      obtain rfl : m' = x := hx
      exact Ev.step (fun k => by rw [laws_heldObjS.p6]) (Ev.neg (by omega) (Ev.eq rfl))
    · intro i hi ih x a0 a1 hx
      rw [List.drop_eq_getElem_cons hi] at hx
      obtain ⟨e1, e2, e3, e4⟩ := hx
      refine Ev.step (fun k => by rw [laws_heldObjS.p6]) ?_
      rw [rdg hi, w64s (by omega), w64 (x := x + 1) (by omega) (by omega)]
      refine Ev.pos (by omega) (Ev.pos (by omega) (Ev.pos (by omega) (Ev.pos e1 (Ev.pos (by omega) (Ev.pos (by omega) ?_)))))
      have hh := heldInt64S_ev (x + 1) (l[i]).2.length (by omega) (by omega) (by omega)
      rw [← e2] at hh
      exact Ev.bind hh (Ev.neg (by omega) (ih _ (by omega) (by omega) e4))
  unfold laws_heldObjS.f
  exact key 0 (Nat.zero_le _) m h0 (by omega) (by simpa using h)
end Go.Proofs.YtbpeiilildchlaaGreatDoor.Abs.Pu
namespace Go.Proofs.YtbpeiilildchlaaGreatDoor.Abs.Pu
open Go Go.RowKit
set_option linter.unusedVariables false
set_option linter.unusedSectionVars false
set_option linter.unusedSimpArgs false
theorem markObjS_held (l : List (Int × List Int)) (m : Int) (h0 : 1 ≤ m) (h1 : m ≤ 1048576) (hl : l.length ≤ 1000) (hs : ∀ x ∈ l, x.2.length ≤ 1000) : ∃ l' m', Ev (fun k => laws_markObjS.f k l m) (l', m') ∧ l'.length = l.length ∧ Held m l' m' := by
  have key : ∀ i, i ≤ l.length → ∀ (h : List (Int × List Int)) (x1 : Int), h.length = l.length → (∀ x ∈ h, x.2.length ≤ 1000) → 1 ≤ x1 → x1 ≤ m + 1001 * (i : Int) → ∃ l' m', Ev (fun k => laws_markObjS.p6 k h x1 (i : Int)) (l', m') ∧ l'.length = l.length ∧ l'.take i = h.take i ∧ Held x1 (l'.drop i) m' := by
    refine down ?_ ?_
    · intro h x1 hh _ a0 _
      refine ⟨h, x1, Ev.step (fun k => by rw [laws_markObjS.p6]) (Ev.neg (by omega) (Ev.eq rfl)), hh, rfl, ?_⟩
      rw [List.drop_eq_nil_of_le (by omega)]
      rfl
    · intro i hi ih h x1 hh hx a0 a1
      have hih : i < h.length := by omega
      have ho := hx _ (List.getElem_mem hih)
      have e1 : rdOf (0, []) h (i : Int) = h[i] := rdg hih
      generalize h[i] = o at *
      have e2 : rdOf (0, []) (h.set i (x1, o.2)) (i : Int) = (x1, o.2) := by
        rw [rdg (by rw [List.length_set]; exact hih)]
        exact List.getElem_set_self _
      have mk := markInt64S_ev o.2 (x1 + 1) (by omega) (by omega) (by omega)
      obtain ⟨l', m', hr, hl', htk, hm⟩ := ih ((h.set i (x1, o.2)).set i (x1, marks (x1 + 1) o.2.length)) (x1 + 1 + (o.2.length : Int)) (by rw [List.length_set, List.length_set]; exact hh) (fun x hx' => by
        rcases List.mem_or_eq_of_mem_set hx' with hx' | hx'
        · rcases List.mem_or_eq_of_mem_set hx' with hx' | hx'
          · exact hx x hx'
          · rw [hx']; exact ho
        · rw [hx']; simp only [marks_length]; omega) (by omega) (by omega)
      have hil : i < l'.length := by omega
      have hel : l'[i] = (x1, marks (x1 + 1) o.2.length) := by
        have : (l'.take (i + 1))[i]? = (((h.set i (x1, o.2)).set i (x1, marks (x1 + 1) o.2.length)).take (i + 1))[i]? := by rw [htk]
        rw [List.getElem?_take_of_lt (by omega), List.getElem?_take_of_lt (by omega), List.getElem?_eq_getElem hil, List.getElem?_set_self (by rw [List.length_set]; exact hih)] at this
        exact Option.some.inj this
      refine ⟨l', m', Ev.step (fun k => by rw [laws_markObjS.p6]) ?_, hl', ?_, ?_⟩
      · rw [e1, Int.toNat_natCast, e2, w64s (i := i) (by omega), w64 (x := x1 + 1) (by omega) (by omega)]
        refine Ev.pos (by omega) (Ev.pos (by omega) (Ev.pos (by omega) (Ev.pos (by omega) (Ev.pos (by rw [List.length_set]; omega) (Ev.bind mk ?_)))))
        exact hr
      · have := congrArg (List.take i) htk
        rw [List.take_take, List.take_take, Nat.min_eq_left (by omega), List.take_set_of_le (Nat.le_refl _), List.take_set_of_le (Nat.le_refl _)] at this
        exact this
      · rw [List.drop_eq_getElem_cons hil, hel]
        refine ⟨rfl, ?_, ?_, ?_⟩
        · simp only [marks_length]
        · simp only [marks_length]; exact ho
        · simp only [marks_length]; exact hm
  unfold laws_markObjS.f
  obtain ⟨l', m', e, h2, _, h3⟩ := key 0 (Nat.zero_le _) l m rfl hs h0 (by omega)
  exact ⟨l', m', e, h2, by simpa using h3⟩
theorem markGraph_held (r : List Int) (n : List (Int × List Int)) (a : r.length ≤ 1000) (b : n.length ≤ 1000) (c : ∀ x ∈ n, x.2.length ≤ 1000) : ∃ s m', Ev (fun k => laws_markGraph.f k r n 1) (marks 1 r.length, s, m') ∧ 1 ≤ m' ∧ Ev (fun k => laws_heldGraph.f k (marks 1 r.length) s 1) m' := by
  have e1 := markInt64S_ev r 1 (by omega) (by omega) (by omega)
  obtain ⟨l', m', e2, hl, hm⟩ := markObjS_held n (1 + (r.length : Int)) (by omega) (by omega) b c
  have hle := hm.le
  refine ⟨l', m', ?_, by omega, ?_⟩
  · unfold laws_markGraph.f
    exact Ev.bind e1 (Ev.bind e2 (Ev.eq rfl))
  · unfold laws_heldGraph.f
    have e3 := heldInt64S_ev 1 r.length (by omega) (by omega) (by omega)
    have e4 := heldObjS_ev l' (1 + (r.length : Int)) m' (by omega) (by omega) (by omega) hm
    exact Ev.bind e3 (Ev.neg (by omega) (Ev.bind e4 (Ev.neg (by omega) (Ev.eq rfl))))
end Go.Proofs.YtbpeiilildchlaaGreatDoor.Abs.Pu
namespace Go.Proofs.YtbpeiilildchlaaGreatDoor.Abs
open Go Go.RowKit
set_option linter.unusedVariables false
set_option linter.unusedSectionVars false
set_option linter.unusedSimpArgs false
theorem eqInt64S_ev (l : List Int) (hl : l.length ≤ 1048576) : Ev (fun k => laws_eqInt64S.f k l l) true := by
  unfold laws_eqInt64S.f
  refine Ev.pos rfl ?_
  refine each_ev (n := l.length) (g := fun k i => laws_eqInt64S.p14 k l l i) (fun i hi hr => ?_) ?_
  · refine Ev.step (fun k => by rw [laws_eqInt64S.p14]) ?_
    rw [w64s (by omega)]
    exact Ev.pos (by omega) (Ev.pos (by omega) (Ev.pos (by omega) (Ev.pos (by omega) (Ev.pos (by omega) (Ev.pos rfl hr)))))
  · refine Ev.step (fun k => by rw [laws_eqInt64S.p14]) ?_
    exact Ev.neg (by omega) (Ev.eq rfl)
end Go.Proofs.YtbpeiilildchlaaGreatDoor.Abs
namespace Go.Proofs.YtbpeiilildchlaaGreatDoor.Abs
open Go Go.RowKit
set_option linter.unusedVariables false
set_option linter.unusedSectionVars false
set_option linter.unusedSimpArgs false
theorem eqObj_ev (o : Int × List Int) (hl : o.2.length ≤ 1048576) : Ev (fun k => laws_eqObj.f k o.1 o.2 o.1 o.2) true := by
  unfold laws_eqObj.f
  exact Ev.pos rfl (Ev.bind (eqInt64S_ev o.2 hl) (Ev.pos rfl (Ev.eq rfl)))
theorem eqObjS_ev (l : List (Int × List Int)) (hl : l.length ≤ 1048576) (hs : ∀ x ∈ l, x.2.length ≤ 1048576) : Ev (fun k => laws_eqObjS.f k l l) true := by
  unfold laws_eqObjS.f
  refine Ev.pos rfl ?_
  refine each_ev (n := l.length) (g := fun k i => laws_eqObjS.p14 k l l i) (fun i hi hr => ?_) ?_
  · refine Ev.step (fun k => by rw [laws_eqObjS.p14]) ?_
    rw [w64s (by omega), rdg hi]
    exact Ev.pos (by omega) (Ev.pos (by omega) (Ev.pos (by omega) (Ev.pos (by omega) (Ev.pos (by omega) (Ev.bind (eqObj_ev l[i] (hs _ (List.getElem_mem hi))) (Ev.pos rfl hr))))))
  · refine Ev.step (fun k => by rw [laws_eqObjS.p14]) ?_
    exact Ev.neg (by omega) (Ev.eq rfl)
theorem eqGraph_ev (g : List Int × List (Int × List Int)) (h1 : g.1.length ≤ 1048576) (h2 : g.2.length ≤ 1048576) (hs : ∀ x ∈ g.2, x.2.length ≤ 1048576) : Ev (fun k => laws_eqGraph.f k g.1 g.2 g.1 g.2) true := by
  unfold laws_eqGraph.f
  exact Ev.bind (eqInt64S_ev g.1 h1) (Ev.pos rfl (Ev.bind (eqObjS_ev g.2 h2 hs) (Ev.pos rfl (Ev.eq rfl))))
end Go.Proofs.YtbpeiilildchlaaGreatDoor.Abs
namespace Go.Proofs.YtbpeiilildchlaaGreatDoor.Abs.Pu
open Go Go.RowKit
set_option linter.unusedVariables false
set_option linter.unusedSectionVars false
set_option linter.unusedSimpArgs false
theorem FnExactDurableOf : laws_FnExactDurableOf.Pure := by
  intro c s oc os
  obtain ⟨_, _, _, tl, ts⟩ := oc
  refine Ev.rounds ?_
  unfold laws_FnExactDurableOf.f
  refine Ev.cases (fun _ => Ev.eq rfl) (fun c0 => ?_)
  obtain ⟨r, e, hr⟩ := szConfig_ev c tl ts 1048576 (by omega) (by omega)
  refine Ev.bind e (Ev.cases (fun _ => Ev.eq rfl) (fun c1 => ?_))
  obtain ⟨_, hl, hs⟩ := hr (by omega)
  have t1 := toConfig_ev c hl
  have e1 := spec_DurableOf_ev c s hl hs
  have e2 := impl_DurableOf_ev c s hs
  obtain ⟨b1, b2, b3⟩ := durR_small c s
  generalize durR c s = R at *
  have q := eqGraph_ev (R.1, R.2.1) (by simp only []; omega) (by simp only []; omega) (fun x hx => by have := b3 x hx; omega)
  obtain ⟨l', m1⟩ := markStringS_ev c.2.2.2 1 (by omega) (by omega) hl
  obtain ⟨n', m', m2, hm', m3⟩ := markGraph_held R.1 R.2.1 b1 b2 b3
  have last : Ev (fun k => laws_FnExactDurableOf.p51 k s c.1 c.2.1 c.2.2.1 c.2.2.2 R.1 R.2.1 R.2.2 R.1 R.2.1 false) true := by
    refine Ev.step (fun k => by rw [laws_FnExactDurableOf.p51]) (Ev.neg (by simp) ?_)
    exact Ev.bind m2 (Ev.bind m3 (Ev.neg (by omega) (Ev.pos rfl (Ev.bind t1 (Ev.bind e2 (Ev.bind q (Ev.pos rfl (Ev.pos rfl (Ev.bind m3 (Ev.neg (by omega) (Ev.pos rfl (Ev.eq rfl))))))))))))
  have first : Ev (fun k => laws_FnExactDurableOf.p31 k s c.1 c.2.1 c.2.2.1 c.2.2.2 R.1 R.2.1 R.2.2 c.1 c.2.1 c.2.2.1 c.2.2.2 R.1 R.2.1 R.2.2 false) true := by
    refine Ev.step (fun k => by rw [laws_FnExactDurableOf.p31]) (Ev.neg (by simp) ?_)
    refine Ev.bind t1 (Ev.bind (eqConfig_ev c hl) (Ev.pos rfl (Ev.bind (a := (l', 1 + (c.2.2.2.length : Int))) ?_ (Ev.neg (by simp only []; omega) (Ev.bind q (Ev.pos rfl ?_))))))
    · unfold laws_markConfig.f
      exact Ev.bind m1 (Ev.eq rfl)
    · have e : (!decide (R.2.2 = R.2.2)) = false := by simp
      rw [e]
      exact last
  refine Ev.bind t1 (Ev.bind e1 (Ev.bind t1 (Ev.bind e2 (Ev.bind q (Ev.pos rfl ?_)))))
  have e : (!decide (R.2.2 = R.2.2)) = false := by simp
  rw [e]
  exact first
end Go.Proofs.YtbpeiilildchlaaGreatDoor.Abs.Pu
namespace Go.Proofs
open Go.Shelf
def Tryz.lays231_ren : Go.Shelf.Ren := ⟨fun | 231 => 104 | n => n, fun | 9 => 9 | 5 => 5 | 3 => 3 | 4 => 4 | n => n, fun | n => n⟩
theorem Tryz.lays231 : Go.Proofs.Lays.n231 Tryz.prog Tryz.lays231_ren := {
  mixed := by kernel_rfl
  f231 := Tryz.func104.trans (congrArg some (by kernel_rfl))
  t3 := Tryz.underlying3
  a3 := Tryz.isAgg3
  z3 := Tryz.sizeOf3
  v3 := Tryz.zeroValue3
  t4 := Tryz.underlying4
  a4 := Tryz.isAgg4
  z4 := Tryz.sizeOf4
  v4 := Tryz.zeroValue4
  t5 := Tryz.underlying5
  a5 := Tryz.isAgg5
  z5 := Tryz.sizeOf5
  v5 := Tryz.zeroValue5
  t9 := Tryz.underlying9
  a9 := Tryz.isAgg9
  z9 := Tryz.sizeOf9
  v9 := Tryz.zeroValue9 }
open Go.RowKit in
/-- strings.trimLeftByte (no doc; what TrimLeft and Trim call at a cutset of one ASCII byte): the leading bytes that are c are cut off. The world is as it was. (LAID: no walk: one application.) -/
theorem Tryz.strings_trimLeftByte (s : ByteArray) (c : UInt8) (w : World) :
    Calls Tryz.prog 104 #[.string s, .int .u8 c.toNat] w fun e w' => e = .returned (.string ⟨(Lib.trimLeftB s.data.toList c).toArray⟩) ∧ w' = w := Any.strings_trimLeftByte Tryz.lays231 s c w
def Tryz.lays232_ren : Go.Shelf.Ren := ⟨fun | 232 => 105 | n => n, fun | 9 => 9 | 5 => 5 | 3 => 3 | 4 => 4 | n => n, fun | n => n⟩
theorem Tryz.lays232 : Go.Proofs.Lays.n232 Tryz.prog Tryz.lays232_ren := {
  mixed := by kernel_rfl
  f232 := Tryz.func105.trans (congrArg some (by kernel_rfl))
  t3 := Tryz.underlying3
  a3 := Tryz.isAgg3
  z3 := Tryz.sizeOf3
  v3 := Tryz.zeroValue3
  t4 := Tryz.underlying4
  a4 := Tryz.isAgg4
  z4 := Tryz.sizeOf4
  v4 := Tryz.zeroValue4
  t5 := Tryz.underlying5
  a5 := Tryz.isAgg5
  z5 := Tryz.sizeOf5
  v5 := Tryz.zeroValue5
  t9 := Tryz.underlying9
  a9 := Tryz.isAgg9
  z9 := Tryz.sizeOf9
  v9 := Tryz.zeroValue9 }
open Go.RowKit in
/-- strings.trimRightByte (no doc; what TrimRight and Trim call at a cutset of one ASCII byte): the trailing bytes that are c are cut off. The world is as it was. ('hs': a string's length is a number that an int holds.) (LAID: no walk: one application.) -/
theorem Tryz.strings_trimRightByte (s : ByteArray) (c : UInt8) (w : World) (hs : s.size ≤ 9223372036854775807) :
    Calls Tryz.prog 105 #[.string s, .int .u8 c.toNat] w fun e w' => e = .returned (.string ⟨(Lib.trimRightB s.data.toList c).toArray⟩) ∧ w' = w := Any.strings_trimRightByte Tryz.lays232 s c w hs
def Tryz.lays160_ren : Go.Shelf.Ren := ⟨fun | 160 => 99 | 232 => 105 | 231 => 104 | 227 => 106 | 234 => 108 | 233 => 107 | 236 => 110 | 235 => 109 | 228 => 112 | 271 => 115 | 151 => 114 | 197 => 113 | 120 => 118 | 152 => 117 | 260 => 116 | 137 => 119 | 119 => 120 | 224 => 121 | 225 => 122 | 217 => 123 | 266 => 124 | n => n, fun | 9 => 9 | 4 => 4 | 3 => 3 | 5 => 5 | 117 => 127 | 116 => 126 | 0 => 0 | 124 => 130 | 21 => 21 | 105 => 133 | 46 => 92 | 119 => 137 | 139 => 140 | 138 => 139 | n => n, fun | 3 => 1 | 4 => 2 | n => n⟩
theorem Tryz.lays160 : Go.Proofs.Lays.n160 Tryz.prog Tryz.lays160_ren := {
  mixed := by kernel_rfl
  f119 := Tryz.func120.trans (congrArg some (by kernel_rfl))
  f120 := Tryz.func118.trans (congrArg some (by kernel_rfl))
  f137 := Tryz.func119.trans (congrArg some (by kernel_rfl))
  f151 := Tryz.func114.trans (congrArg some (by kernel_rfl))
  f152 := Tryz.func117.trans (congrArg some (by kernel_rfl))
  f160 := Tryz.func99.trans (congrArg some (by kernel_rfl))
  f197 := Tryz.func113.trans (congrArg some (by kernel_rfl))
  f217 := Tryz.func123.trans (congrArg some (by kernel_rfl))
  f224 := Tryz.func121.trans (congrArg some (by kernel_rfl))
  f225 := Tryz.func122.trans (congrArg some (by kernel_rfl))
  f227 := Tryz.func106.trans (congrArg some (by kernel_rfl))
  f228 := Tryz.func112.trans (congrArg some (by kernel_rfl))
  f231 := Tryz.func104.trans (congrArg some (by kernel_rfl))
  f232 := Tryz.func105.trans (congrArg some (by kernel_rfl))
  f233 := Tryz.func107.trans (congrArg some (by kernel_rfl))
  f234 := Tryz.func108.trans (congrArg some (by kernel_rfl))
  f235 := Tryz.func109.trans (congrArg some (by kernel_rfl))
  f236 := Tryz.func110.trans (congrArg some (by kernel_rfl))
  f260 := Tryz.func116.trans (congrArg some (by kernel_rfl))
  f266 := Tryz.func124.trans (congrArg some (by kernel_rfl))
  f271 := Tryz.func115.trans (congrArg some (by kernel_rfl))
  t0 := Tryz.underlying0
  a0 := Tryz.isAgg0
  z0 := Tryz.sizeOf0
  v0 := Tryz.zeroValue0
  t3 := Tryz.underlying3
  a3 := Tryz.isAgg3
  z3 := Tryz.sizeOf3
  v3 := Tryz.zeroValue3
  t4 := Tryz.underlying4
  a4 := Tryz.isAgg4
  z4 := Tryz.sizeOf4
  v4 := Tryz.zeroValue4
  t5 := Tryz.underlying5
  a5 := Tryz.isAgg5
  z5 := Tryz.sizeOf5
  v5 := Tryz.zeroValue5
  t9 := Tryz.underlying9
  a9 := Tryz.isAgg9
  z9 := Tryz.sizeOf9
  v9 := Tryz.zeroValue9
  t21 := Tryz.underlying21
  a21 := Tryz.isAgg21
  z21 := Tryz.sizeOf21
  v21 := Tryz.zeroValue21
  t46 := Tryz.underlying92
  a46 := Tryz.isAgg92
  z46 := Tryz.sizeOf92
  v46 := Tryz.zeroValue92
  t105 := Tryz.underlying133
  a105 := Tryz.isAgg133
  z105 := Tryz.sizeOf133
  v105 := Tryz.zeroValue133
  t116 := Tryz.underlying126
  a116 := Tryz.isAgg126
  z116 := Tryz.sizeOf126
  t117 := Tryz.underlying127
  a117 := Tryz.isAgg127
  z117 := Tryz.sizeOf127
  v117 := Tryz.zeroValue127
  t119 := Tryz.underlying137
  a119 := Tryz.isAgg137
  z119 := Tryz.sizeOf137
  t124 := Tryz.underlying130
  a124 := Tryz.isAgg130
  z124 := Tryz.sizeOf130
  v124 := Tryz.zeroValue130
  t138 := Tryz.underlying139
  a138 := Tryz.isAgg139
  z138 := Tryz.sizeOf139
  v138 := Tryz.zeroValue139
  t139 := Tryz.underlying140
  a139 := Tryz.isAgg140
  z139 := Tryz.sizeOf140
  v139 := Tryz.zeroValue140
  g3 := by kernel_rfl
  g4 := by kernel_rfl }
open Go.RowKit in
/-- strings.Trim: "Trim returns a slice of the string s with all leading and trailing Unicode code points contained in cutset removed.": AT A cutset OF ONE ASCII BYTE. THE WORLD BEHIND IT: as it was, or (where s is not empty) with ONE DRAW MORE off the tape: the statement 'return trimLeftByte(trimRightByte(s, c), c)' draws its order of evaluation. (LAID: no walk: one application.) -/
theorem Tryz.strings_Trim_one (s : ByteArray) (c : UInt8) (hc : c.toNat < 128) (w : World) (hs : s.size ≤ 9223372036854775807) :
    Calls Tryz.prog 99 #[.string s, .string ⟨#[c]⟩] w fun e w' => e = .returned (.string ⟨(Lib.trimB s.data.toList c).toArray⟩) ∧ (w' = w ∨ w' = w.drew) := Any.strings_Trim_one Tryz.lays160 s c hc w hs
def Tryz.lays119_ren : Go.Shelf.Ren := ⟨fun | 119 => 120 | n => n, fun | 21 => 21 | 4 => 4 | n => n, fun | n => n⟩
theorem Tryz.lays119 : Go.Proofs.Lays.n119 Tryz.prog Tryz.lays119_ren := {
  mixed := by kernel_rfl
  f119 := Tryz.func120.trans (congrArg some (by kernel_rfl))
  t4 := Tryz.underlying4
  a4 := Tryz.isAgg4
  z4 := Tryz.sizeOf4
  v4 := Tryz.zeroValue4
  t21 := Tryz.underlying21
  a21 := Tryz.isAgg21
  z21 := Tryz.sizeOf21
  v21 := Tryz.zeroValue21 }
/-- utf8.ValidRune: "ValidRune reports whether r can be legally encoded as UTF-8. Code points that are out of range or a surrogate half are illegal.": IT RETURNS 'Lib.validRune r'; the world is as it was. (LAID: no walk: one application.) -/
theorem Tryz.utf8_ValidRune (r : Int) (w : World) :
    Calls Tryz.prog 120 #[.int .i32 r] w fun e w' => e = .returned (.bool (Lib.validRune r)) ∧ w' = w := Any.utf8_ValidRune Tryz.lays119 r w
def Tryz.lays120_ren : Go.Shelf.Ren := ⟨fun | 120 => 118 | n => n, fun | 5 => 5 | 4 => 4 | n => n, fun | n => n⟩
theorem Tryz.lays120 : Go.Proofs.Lays.n120 Tryz.prog Tryz.lays120_ren := {
  mixed := by kernel_rfl
  f120 := Tryz.func118.trans (congrArg some (by kernel_rfl))
  t4 := Tryz.underlying4
  a4 := Tryz.isAgg4
  z4 := Tryz.sizeOf4
  v4 := Tryz.zeroValue4
  t5 := Tryz.underlying5
  a5 := Tryz.isAgg5
  z5 := Tryz.sizeOf5
  v5 := Tryz.zeroValue5 }
/-- utf8.RuneStart: "RuneStart reports whether the byte could be the first byte of an encoded, possibly invalid rune. Second and subsequent bytes always have the top two bits set to 10.": IT RETURNS 'Lib.runeStart b'; the world is as it was. ('h0', 'h1': b is a byte: a caller has it of every byte that it was handed.) (LAID: no walk: one application.) -/
theorem Tryz.utf8_RuneStart (b : Int) (w : World) (h0 : 0 ≤ b) (h1 : b < 256) :
    Calls Tryz.prog 118 #[.int .u8 b] w fun e w' => e = .returned (.bool (Lib.runeStart b)) ∧ w' = w := Any.utf8_RuneStart Tryz.lays120 b w h0 h1
def Tryz.lays137_ren : Go.Shelf.Ren := ⟨fun | 137 => 119 | 217 => 123 | 266 => 124 | n => n, fun | 9 => 9 | 5 => 5 | 3 => 3 | n => n, fun | n => n⟩
theorem Tryz.lays137 : Go.Proofs.Lays.n137 Tryz.prog Tryz.lays137_ren := {
  mixed := by kernel_rfl
  f137 := Tryz.func119.trans (congrArg some (by kernel_rfl))
  f217 := Tryz.func123.trans (congrArg some (by kernel_rfl))
  f266 := Tryz.func124.trans (congrArg some (by kernel_rfl))
  t3 := Tryz.underlying3
  a3 := Tryz.isAgg3
  z3 := Tryz.sizeOf3
  v3 := Tryz.zeroValue3
  t5 := Tryz.underlying5
  a5 := Tryz.isAgg5
  z5 := Tryz.sizeOf5
  v5 := Tryz.zeroValue5
  t9 := Tryz.underlying9
  a9 := Tryz.isAgg9
  z9 := Tryz.sizeOf9
  v9 := Tryz.zeroValue9 }
open Go.RowKit in
/-- strings.IndexByte: "IndexByte returns the index of the first instance of c in s, or -1 if c is not present in s.": IT RETURNS 'Lib.indexByte s c'; the world is as it was. (LAID: no walk: one application.) -/
theorem Tryz.strings_IndexByte (s : ByteArray) (c : Int) (w : World) :
    Calls Tryz.prog 119 #[.string s, .int .u8 c] w fun e w' => e = .returned (.int .i64 (Lib.indexByte s.data.toList c.toNat.toUInt8)) ∧ w' = w := Any.strings_IndexByte Tryz.lays137 s c w
def Tryz.lays217_ren : Go.Shelf.Ren := ⟨fun | 217 => 123 | 266 => 124 | n => n, fun | 9 => 9 | 5 => 5 | 3 => 3 | n => n, fun | n => n⟩
theorem Tryz.lays217 : Go.Proofs.Lays.n217 Tryz.prog Tryz.lays217_ren := {
  mixed := by kernel_rfl
  f217 := Tryz.func123.trans (congrArg some (by kernel_rfl))
  f266 := Tryz.func124.trans (congrArg some (by kernel_rfl))
  t3 := Tryz.underlying3
  a3 := Tryz.isAgg3
  z3 := Tryz.sizeOf3
  v3 := Tryz.zeroValue3
  t5 := Tryz.underlying5
  a5 := Tryz.isAgg5
  z5 := Tryz.sizeOf5
  v5 := Tryz.zeroValue5
  t9 := Tryz.underlying9
  a9 := Tryz.isAgg9
  z9 := Tryz.sizeOf9
  v9 := Tryz.zeroValue9 }
open Go.RowKit Go.Lib in
/-- internal/stringslite.IndexByte (what strings.IndexByte calls): IT RETURNS 'Lib.indexByte s c'; the world is as it was. (LAID: no walk: one application.) -/
theorem Tryz.stringslite_IndexByte (s : ByteArray) (c : Int) (w : World) :
    Calls Tryz.prog 123 #[.string s, .int .u8 c] w fun e w' => e = .returned (.int .i64 (Lib.indexByte s.data.toList c.toNat.toUInt8)) ∧ w' = w := Any.stringslite_IndexByte Tryz.lays217 s c w
def Tryz.lays224_ren : Go.Shelf.Ren := ⟨fun | 224 => 121 | n => n, fun | 3 => 3 | n => n, fun | n => n⟩
theorem Tryz.lays224 : Go.Proofs.Lays.n224 Tryz.prog Tryz.lays224_ren := {
  mixed := by kernel_rfl
  f224 := Tryz.func121.trans (congrArg some (by kernel_rfl))
  t3 := Tryz.underlying3
  a3 := Tryz.isAgg3
  z3 := Tryz.sizeOf3
  v3 := Tryz.zeroValue3 }
open Go.RowKit Go.Lib in
/-- internal/bytealg.Cutover: "Cutover reports the number of failures of IndexByte we should tolerate before switching over to Index. n is the number of bytes processed so far.": on amd64: (n + 16) / 8. (LAID: no walk: one application.) -/
theorem Tryz.bytealg_Cutover (n : Int) (h0 : 0 ≤ n) (h1 : n < 4611686018427387904) (w : World) :
    Calls Tryz.prog 121 #[.int .i64 n] w fun e w' => e = .returned (.int .i64 ((n + 16) / 8)) ∧ w' = w := Any.bytealg_Cutover Tryz.lays224 n h0 h1 w
def Tryz.lays206_ren : Go.Shelf.Ren := ⟨fun | 206 => 90 | n => n, fun | 9 => 9 | 4 => 4 | 3 => 3 | n => n, fun | n => n⟩
theorem Tryz.lays206 : Go.Proofs.Lays.n206 Tryz.prog Tryz.lays206_ren := {
  mixed := by kernel_rfl
  f206 := Tryz.func90.trans (congrArg some (by kernel_rfl))
  t3 := Tryz.underlying3
  a3 := Tryz.isAgg3
  z3 := Tryz.sizeOf3
  v3 := Tryz.zeroValue3
  t4 := Tryz.underlying4
  a4 := Tryz.isAgg4
  z4 := Tryz.sizeOf4
  v4 := Tryz.zeroValue4
  t9 := Tryz.underlying9
  a9 := Tryz.isAgg9
  z9 := Tryz.sizeOf9
  v9 := Tryz.zeroValue9 }
open Go.RowKit Go.Lib in
/-- internal/stringslite.HasPrefix (what strings.HasPrefix calls). (LAID: no walk: one application.) -/
theorem Tryz.stringslite_HasPrefix (s p : ByteArray) (w : World) :
    Calls Tryz.prog 90 #[.string s, .string p] w fun e w' => e = .returned (.bool (Lib.hasPrefix s.data.toList p.data.toList)) ∧ w' = w := Any.stringslite_HasPrefix Tryz.lays206 s p w
def Tryz.lays99_ren : Go.Shelf.Ren := ⟨fun | 99 => 75 | 206 => 90 | n => n, fun | 9 => 9 | 4 => 4 | 3 => 3 | n => n, fun | n => n⟩
theorem Tryz.lays99 : Go.Proofs.Lays.n99 Tryz.prog Tryz.lays99_ren := {
  mixed := by kernel_rfl
  f99 := Tryz.func75.trans (congrArg some (by kernel_rfl))
  f206 := Tryz.func90.trans (congrArg some (by kernel_rfl))
  t3 := Tryz.underlying3
  a3 := Tryz.isAgg3
  z3 := Tryz.sizeOf3
  v3 := Tryz.zeroValue3
  t4 := Tryz.underlying4
  a4 := Tryz.isAgg4
  z4 := Tryz.sizeOf4
  v4 := Tryz.zeroValue4
  t9 := Tryz.underlying9
  a9 := Tryz.isAgg9
  z9 := Tryz.sizeOf9
  v9 := Tryz.zeroValue9 }
open Go.RowKit Go.Lib in
/-- strings.HasPrefix: "HasPrefix reports whether the string s begins with prefix.": IT RETURNS 'Lib.hasPrefix s prefix'; the world is as it was. (LAID: no walk: one application.) -/
theorem Tryz.strings_HasPrefix (s p : ByteArray) (w : World) :
    Calls Tryz.prog 75 #[.string s, .string p] w fun e w' => e = .returned (.bool (Lib.hasPrefix s.data.toList p.data.toList)) ∧ w' = w := Any.strings_HasPrefix Tryz.lays99 s p w
def Tryz.lays197_ren : Go.Shelf.Ren := ⟨fun | 197 => 113 | 260 => 116 | n => n, fun | 9 => 9 | 21 => 21 | 3 => 3 | 4 => 4 | 5 => 5 | 105 => 133 | 119 => 137 | 0 => 0 | 46 => 92 | 139 => 140 | 138 => 139 | n => n, fun | 3 => 1 | 4 => 2 | n => n⟩
theorem Tryz.lays197 : Go.Proofs.Lays.n197 Tryz.prog Tryz.lays197_ren := {
  mixed := by kernel_rfl
  f197 := Tryz.func113.trans (congrArg some (by kernel_rfl))
  f260 := Tryz.func116.trans (congrArg some (by kernel_rfl))
  t0 := Tryz.underlying0
  a0 := Tryz.isAgg0
  z0 := Tryz.sizeOf0
  v0 := Tryz.zeroValue0
  t3 := Tryz.underlying3
  a3 := Tryz.isAgg3
  z3 := Tryz.sizeOf3
  v3 := Tryz.zeroValue3
  t4 := Tryz.underlying4
  a4 := Tryz.isAgg4
  z4 := Tryz.sizeOf4
  v4 := Tryz.zeroValue4
  t5 := Tryz.underlying5
  a5 := Tryz.isAgg5
  z5 := Tryz.sizeOf5
  v5 := Tryz.zeroValue5
  t9 := Tryz.underlying9
  a9 := Tryz.isAgg9
  z9 := Tryz.sizeOf9
  v9 := Tryz.zeroValue9
  t21 := Tryz.underlying21
  a21 := Tryz.isAgg21
  z21 := Tryz.sizeOf21
  v21 := Tryz.zeroValue21
  t46 := Tryz.underlying92
  a46 := Tryz.isAgg92
  z46 := Tryz.sizeOf92
  v46 := Tryz.zeroValue92
  t105 := Tryz.underlying133
  a105 := Tryz.isAgg133
  z105 := Tryz.sizeOf133
  v105 := Tryz.zeroValue133
  t119 := Tryz.underlying137
  a119 := Tryz.isAgg137
  z119 := Tryz.sizeOf137
  t138 := Tryz.underlying139
  a138 := Tryz.isAgg139
  z138 := Tryz.sizeOf139
  v138 := Tryz.zeroValue139
  t139 := Tryz.underlying140
  a139 := Tryz.isAgg140
  z139 := Tryz.sizeOf140
  v139 := Tryz.zeroValue140
  g3 := by kernel_rfl
  g4 := by kernel_rfl }
open Go.RowKit Go.Lib in
/-- unicode/utf8.DecodeRuneInString: "DecodeRuneInString is like DecodeRune but its input is a string.": ("DecodeRune unpacks the first UTF-8 encoding in p and returns the rune and its width in bytes."): WHERE s BEGINS WITH AN ASCII BYTE x: (x, 1). (LAID: no walk: one application.) -/
theorem Tryz.utf8_DecodeRuneInString_ascii (s : ByteArray) (x : UInt8) (w : World) (h0 : s.data.toList[0]? = some x) (hx : x.toNat < 128) :
    Calls Tryz.prog 113 #[.string s] w fun e w' => e = .returned (.tuple #[.int .i32 x.toNat, .int .i64 1]) ∧ w' = w := Any.utf8_DecodeRuneInString_ascii Tryz.lays197 s x w h0 hx
def Tryz.lays152_ren : Go.Shelf.Ren := ⟨fun | 152 => 117 | 137 => 119 | 119 => 120 | 224 => 121 | 225 => 122 | 217 => 123 | 266 => 124 | n => n, fun | 9 => 9 | 21 => 21 | 3 => 3 | 4 => 4 | 5 => 5 | 0 => 0 | 46 => 92 | n => n, fun | n => n⟩
theorem Tryz.lays152 : Go.Proofs.Lays.n152 Tryz.prog Tryz.lays152_ren := {
  mixed := by kernel_rfl
  f119 := Tryz.func120.trans (congrArg some (by kernel_rfl))
  f137 := Tryz.func119.trans (congrArg some (by kernel_rfl))
  f152 := Tryz.func117.trans (congrArg some (by kernel_rfl))
  f217 := Tryz.func123.trans (congrArg some (by kernel_rfl))
  f224 := Tryz.func121.trans (congrArg some (by kernel_rfl))
  f225 := Tryz.func122.trans (congrArg some (by kernel_rfl))
  f266 := Tryz.func124.trans (congrArg some (by kernel_rfl))
  t0 := Tryz.underlying0
  a0 := Tryz.isAgg0
  z0 := Tryz.sizeOf0
  v0 := Tryz.zeroValue0
  t3 := Tryz.underlying3
  a3 := Tryz.isAgg3
  z3 := Tryz.sizeOf3
  v3 := Tryz.zeroValue3
  t4 := Tryz.underlying4
  a4 := Tryz.isAgg4
  z4 := Tryz.sizeOf4
  v4 := Tryz.zeroValue4
  t5 := Tryz.underlying5
  a5 := Tryz.isAgg5
  z5 := Tryz.sizeOf5
  v5 := Tryz.zeroValue5
  t9 := Tryz.underlying9
  a9 := Tryz.isAgg9
  z9 := Tryz.sizeOf9
  v9 := Tryz.zeroValue9
  t21 := Tryz.underlying21
  a21 := Tryz.isAgg21
  z21 := Tryz.sizeOf21
  v21 := Tryz.zeroValue21
  t46 := Tryz.underlying92
  a46 := Tryz.isAgg92
  z46 := Tryz.sizeOf92
  v46 := Tryz.zeroValue92 }
open Go.RowKit Go.Lib in
theorem Tryz.strings_IndexRune_ascii (s : ByteArray) (r : Int) (w : World) (h0 : 0 ≤ r) (h1 : r < 128) :
    Calls Tryz.prog 117 #[.string s, .int .i32 r] w fun e w' => e = .returned (.int .i64 (Lib.indexByte s.data.toList r.toNat.toUInt8)) ∧ w' = w := Any.strings_IndexRune_ascii Tryz.lays152 s r w h0 h1
def Tryz.lays151_ren : Go.Shelf.Ren := ⟨fun | 151 => 114 | 152 => 117 | 137 => 119 | 119 => 120 | 224 => 121 | 225 => 122 | 217 => 123 | 266 => 124 | n => n, fun | 9 => 9 | 21 => 21 | 4 => 4 | 3 => 3 | 5 => 5 | 0 => 0 | 46 => 92 | n => n, fun | n => n⟩
theorem Tryz.lays151 : Go.Proofs.Lays.n151 Tryz.prog Tryz.lays151_ren := {
  mixed := by kernel_rfl
  f119 := Tryz.func120.trans (congrArg some (by kernel_rfl))
  f137 := Tryz.func119.trans (congrArg some (by kernel_rfl))
  f151 := Tryz.func114.trans (congrArg some (by kernel_rfl))
  f152 := Tryz.func117.trans (congrArg some (by kernel_rfl))
  f217 := Tryz.func123.trans (congrArg some (by kernel_rfl))
  f224 := Tryz.func121.trans (congrArg some (by kernel_rfl))
  f225 := Tryz.func122.trans (congrArg some (by kernel_rfl))
  f266 := Tryz.func124.trans (congrArg some (by kernel_rfl))
  t0 := Tryz.underlying0
  a0 := Tryz.isAgg0
  z0 := Tryz.sizeOf0
  v0 := Tryz.zeroValue0
  t3 := Tryz.underlying3
  a3 := Tryz.isAgg3
  z3 := Tryz.sizeOf3
  v3 := Tryz.zeroValue3
  t4 := Tryz.underlying4
  a4 := Tryz.isAgg4
  z4 := Tryz.sizeOf4
  v4 := Tryz.zeroValue4
  t5 := Tryz.underlying5
  a5 := Tryz.isAgg5
  z5 := Tryz.sizeOf5
  v5 := Tryz.zeroValue5
  t9 := Tryz.underlying9
  a9 := Tryz.isAgg9
  z9 := Tryz.sizeOf9
  v9 := Tryz.zeroValue9
  t21 := Tryz.underlying21
  a21 := Tryz.isAgg21
  z21 := Tryz.sizeOf21
  v21 := Tryz.zeroValue21
  t46 := Tryz.underlying92
  a46 := Tryz.isAgg92
  z46 := Tryz.sizeOf92
  v46 := Tryz.zeroValue92 }
open Go.RowKit Go.Lib in
theorem Tryz.strings_ContainsRune_ascii (s : ByteArray) (r : Int) (w : World) (h0 : 0 ≤ r) (h1 : r < 128) :
    Calls Tryz.prog 114 #[.string s, .int .i32 r] w fun e w' => e = .returned (.bool (decide (0 ≤ Lib.indexByte s.data.toList r.toNat.toUInt8))) ∧ w' = w := Any.strings_ContainsRune_ascii Tryz.lays151 s r w h0 h1
def Tryz.lays227_ren : Go.Shelf.Ren := ⟨fun | 227 => 106 | n => n, fun | 9 => 9 | 116 => 126 | 4 => 4 | 0 => 0 | 3 => 3 | 5 => 5 | n => n, fun | n => n⟩
theorem Tryz.lays227 : Go.Proofs.Lays.n227 Tryz.prog Tryz.lays227_ren := {
  mixed := by kernel_rfl
  f227 := Tryz.func106.trans (congrArg some (by kernel_rfl))
  t0 := Tryz.underlying0
  a0 := Tryz.isAgg0
  z0 := Tryz.sizeOf0
  v0 := Tryz.zeroValue0
  t3 := Tryz.underlying3
  a3 := Tryz.isAgg3
  z3 := Tryz.sizeOf3
  v3 := Tryz.zeroValue3
  t4 := Tryz.underlying4
  a4 := Tryz.isAgg4
  z4 := Tryz.sizeOf4
  v4 := Tryz.zeroValue4
  t5 := Tryz.underlying5
  a5 := Tryz.isAgg5
  z5 := Tryz.sizeOf5
  v5 := Tryz.zeroValue5
  t9 := Tryz.underlying9
  a9 := Tryz.isAgg9
  z9 := Tryz.sizeOf9
  v9 := Tryz.zeroValue9
  t116 := Tryz.underlying126
  a116 := Tryz.isAgg126
  z116 := Tryz.sizeOf126 }
open Go.RowKit Go.Lib in
theorem Tryz.strings_makeASCIISet (hv116 : ∀ w, (zeroValue 126).run Tryz.prog w = .ok (.agg (Array.replicate 256 (.bool false))) w) (chars : ByteArray) (w : World) (hs : chars.size < 4294967281) (hascii : ∀ (j : Nat) b, chars.data.toList[j]? = some b → b.toNat < 128) :
    Calls Tryz.prog 106 #[.string chars] w fun e w' => e = .returned (.tuple #[.agg (Lib.setCells chars.data.toList), .bool true]) ∧ w' = w.alloc (.cells (Lib.setCells chars.data.toList) 126) := Any.strings_makeASCIISet Tryz.lays227 hv116 (by kernel_rfl) chars w hs hascii
def Tryz.lays228_ren : Go.Shelf.Ren := ⟨fun | 228 => 112 | n => n, fun | 124 => 130 | 5 => 5 | 4 => 4 | 0 => 0 | 116 => 126 | n => n, fun | n => n⟩
theorem Tryz.lays228 : Go.Proofs.Lays.n228 Tryz.prog Tryz.lays228_ren := {
  mixed := by kernel_rfl
  f228 := Tryz.func112.trans (congrArg some (by kernel_rfl))
  t0 := Tryz.underlying0
  a0 := Tryz.isAgg0
  z0 := Tryz.sizeOf0
  v0 := Tryz.zeroValue0
  t4 := Tryz.underlying4
  a4 := Tryz.isAgg4
  z4 := Tryz.sizeOf4
  v4 := Tryz.zeroValue4
  t5 := Tryz.underlying5
  a5 := Tryz.isAgg5
  z5 := Tryz.sizeOf5
  v5 := Tryz.zeroValue5
  t116 := Tryz.underlying126
  a116 := Tryz.isAgg126
  z116 := Tryz.sizeOf126
  t124 := Tryz.underlying130
  a124 := Tryz.isAgg130
  z124 := Tryz.sizeOf130
  v124 := Tryz.zeroValue130 }
open Go.RowKit Go.Lib in
/-- '(as *asciiSet) contains(c)': 'as[c]': the set lies at block b, whole. (LAID: no walk: one application.) -/
theorem Tryz.asciiSet_contains (b : Nat) (x : UInt8) (v : Bool) (w : World) (hc : w.cell? ⟨b, x.toNat, none⟩ = some (.bool v)) :
    Calls Tryz.prog 112 #[.pointer (some ⟨b, 0, none⟩), .int .u8 x.toNat] w fun e w' => e = .returned (.bool v) ∧ w' = w := Any.asciiSet_contains Tryz.lays228 b x v w hc
def Tryz.lays264_ren : Go.Shelf.Ren := ⟨fun | 264 => 89 | n => n, fun | 53 => 109 | 46 => 92 | n => n, fun | n => n⟩
theorem Tryz.lays264 : Go.Proofs.Lays.n264 Tryz.prog Tryz.lays264_ren := {
  mixed := by kernel_rfl
  f264 := Tryz.func89.trans (congrArg some (by kernel_rfl))
  t46 := Tryz.underlying92
  a46 := Tryz.isAgg92
  z46 := Tryz.sizeOf92
  v46 := Tryz.zeroValue92
  t53 := Tryz.underlying109
  a53 := Tryz.isAgg109
  z53 := Tryz.sizeOf109
  v53 := Tryz.zeroValue109 }
open Go.RowKit Go.Lib in
theorem Tryz.bits_Mul64 (x y : Nat) (hx : x < 18446744073709551616) (hy : y < 18446744073709551616) (w : World) :
    Calls Tryz.prog 89 #[.int .u64 x, .int .u64 y] w fun e w' => e = .returned (.tuple #[.int .u64 ((x * y / 18446744073709551616 : Nat) : Int), .int .u64 ((x * y % 18446744073709551616 : Nat) : Int)]) ∧ w' = w := Any.bits_Mul64 Tryz.lays264 x y hx hy w
def Tryz.lays212_ren : Go.Shelf.Ren := ⟨fun | 212 => 74 | 263 => 88 | 264 => 89 | n => n, fun | 46 => 92 | 51 => 111 | 146 => 112 | 53 => 109 | 148 => 114 | n => n, fun | n => n⟩
theorem Tryz.lays212 : Go.Proofs.Lays.n212 Tryz.prog Tryz.lays212_ren := {
  mixed := by kernel_rfl
  f212 := Tryz.func74.trans (congrArg some (by kernel_rfl))
  f263 := Tryz.func88.trans (congrArg some (by kernel_rfl))
  f264 := Tryz.func89.trans (congrArg some (by kernel_rfl))
  t46 := Tryz.underlying92
  a46 := Tryz.isAgg92
  z46 := Tryz.sizeOf92
  v46 := Tryz.zeroValue92
  t51 := Tryz.underlying111
  a51 := Tryz.isAgg111
  z51 := Tryz.sizeOf111
  v51 := Tryz.zeroValue111
  t53 := Tryz.underlying109
  a53 := Tryz.isAgg109
  z53 := Tryz.sizeOf109
  v53 := Tryz.zeroValue109
  t146 := Tryz.underlying112
  a146 := Tryz.isAgg112
  z146 := Tryz.sizeOf112
  v146 := Tryz.zeroValue112
  t148 := Tryz.underlying114
  a148 := Tryz.isAgg114
  z148 := Tryz.sizeOf114
  v148 := Tryz.zeroValue114 }
open Go.RowKit Go.Lib in
/-- math/bits.Mul: "Mul returns the full-width product of x and y": on a machine of 64 bits: Mul64's. (LAID: no walk: one application.) -/
theorem Tryz.bits_Mul (x y : Nat) (hx : x < 18446744073709551616) (hy : y < 18446744073709551616) (w : World) :
    Calls Tryz.prog 74 #[.int .u64 x, .int .u64 y] w fun e w' => e = .returned (.tuple #[.int .u64 ((x * y / 18446744073709551616 : Nat) : Int), .int .u64 ((x * y % 18446744073709551616 : Nat) : Int)]) ∧ w' = w := Any.bits_Mul Tryz.lays212 x y hx hy w
def Tryz.lays105_ren : Go.Shelf.Ren := ⟨fun | 105 => 59 | 212 => 74 | 99 => 75 | 165 => 76 | 166 => 77 | 170 => 78 | 169 => 79 | 263 => 88 | 264 => 89 | 206 => 90 | 240 => 91 | 241 => 92 | 276 => 100 | 277 => 101 | n => n, fun | 9 => 9 | 3 => 3 | 4 => 4 | 20 => 20 | 0 => 0 | 46 => 92 | 109 => 93 | 5 => 5 | 72 => 98 | 76 => 102 | 51 => 111 | 146 => 112 | 53 => 109 | 148 => 114 | 70 => 96 | 37 => 88 | 75 => 101 | 127 => 116 | 164 => 121 | 80 => 105 | n => n, fun | n => n⟩
theorem Tryz.lays105 : Go.Proofs.Lays.n105 Tryz.prog Tryz.lays105_ren := {
  mixed := by kernel_rfl
  f99 := Tryz.func75.trans (congrArg some (by kernel_rfl))
  f105 := Tryz.func59.trans (congrArg some (by kernel_rfl))
  f165 := Tryz.func76.trans (congrArg some (by kernel_rfl))
  f166 := Tryz.func77.trans (congrArg some (by kernel_rfl))
  f169 := Tryz.func79.trans (congrArg some (by kernel_rfl))
  f170 := Tryz.func78.trans (congrArg some (by kernel_rfl))
  f206 := Tryz.func90.trans (congrArg some (by kernel_rfl))
  f212 := Tryz.func74.trans (congrArg some (by kernel_rfl))
  f240 := Tryz.func91.trans (congrArg some (by kernel_rfl))
  f241 := Tryz.func92.trans (congrArg some (by kernel_rfl))
  f263 := Tryz.func88.trans (congrArg some (by kernel_rfl))
  f264 := Tryz.func89.trans (congrArg some (by kernel_rfl))
  f276 := Tryz.func100.trans (congrArg some (by kernel_rfl))
  f277 := Tryz.func101.trans (congrArg some (by kernel_rfl))
  t0 := Tryz.underlying0
  a0 := Tryz.isAgg0
  z0 := Tryz.sizeOf0
  v0 := Tryz.zeroValue0
  t3 := Tryz.underlying3
  a3 := Tryz.isAgg3
  z3 := Tryz.sizeOf3
  v3 := Tryz.zeroValue3
  t4 := Tryz.underlying4
  a4 := Tryz.isAgg4
  z4 := Tryz.sizeOf4
  v4 := Tryz.zeroValue4
  t5 := Tryz.underlying5
  a5 := Tryz.isAgg5
  z5 := Tryz.sizeOf5
  v5 := Tryz.zeroValue5
  t9 := Tryz.underlying9
  a9 := Tryz.isAgg9
  z9 := Tryz.sizeOf9
  v9 := Tryz.zeroValue9
  t20 := Tryz.underlying20
  a20 := Tryz.isAgg20
  z20 := Tryz.sizeOf20
  v20 := Tryz.zeroValue20
  t37 := Tryz.underlying88
  a37 := Tryz.isAgg88
  z37 := Tryz.sizeOf88
  v37 := Tryz.zeroValue88
  t46 := Tryz.underlying92
  a46 := Tryz.isAgg92
  z46 := Tryz.sizeOf92
  v46 := Tryz.zeroValue92
  t51 := Tryz.underlying111
  a51 := Tryz.isAgg111
  z51 := Tryz.sizeOf111
  v51 := Tryz.zeroValue111
  t53 := Tryz.underlying109
  a53 := Tryz.isAgg109
  z53 := Tryz.sizeOf109
  v53 := Tryz.zeroValue109
  t70 := Tryz.underlying96
  a70 := Tryz.isAgg96
  z70 := Tryz.sizeOf96
  v70 := Tryz.zeroValue96
  t72 := Tryz.underlying98
  a72 := Tryz.isAgg98
  z72 := Tryz.sizeOf98
  v72 := Tryz.zeroValue98
  t75 := Tryz.underlying101
  a75 := Tryz.isAgg101
  z75 := Tryz.sizeOf101
  v75 := Tryz.zeroValue101
  t76 := Tryz.underlying102
  a76 := Tryz.isAgg102
  z76 := Tryz.sizeOf102
  v76 := Tryz.zeroValue102
  t109 := Tryz.underlying93
  a109 := Tryz.isAgg93
  z109 := Tryz.sizeOf93
  v109 := Tryz.zeroValue93
  t127 := Tryz.underlying116
  a127 := Tryz.isAgg116
  z127 := Tryz.sizeOf116
  v127 := Tryz.zeroValue116
  t146 := Tryz.underlying112
  a146 := Tryz.isAgg112
  z146 := Tryz.sizeOf112
  v146 := Tryz.zeroValue112
  t148 := Tryz.underlying114
  a148 := Tryz.isAgg114
  z148 := Tryz.sizeOf114
  v148 := Tryz.zeroValue114
  t164 := Tryz.underlying121
  a164 := Tryz.isAgg121
  z164 := Tryz.sizeOf121
  v164 := Tryz.zeroValue121 }
theorem Tryz.Builder_Extra_105 : Builder.Extra Tryz.prog Tryz.lays105_ren := {
  sizeBuilder := by kernel_rfl
  liesBuilder := by kernel_rfl
  t5 := Tryz.underlying5
  a5 := Tryz.isAgg5
  z5 := Tryz.sizeOf5
  v5 := Tryz.zeroValue5
  infoByte := by kernel_rfl
  cellsByte := by kernel_rfl
  sizeByte := by kernel_rfl
  neB5 := by decide }
open Go.RowKit Go.Lib in
/-- THE MAIN CASE: at least two copies of a string that is not empty. (LAID: no walk: one application.) -/
theorem Tryz.strings_Repeat_main (s : ByteArray) (c : Nat) (w : World) (hc2 : 2 ≤ c) (hc : c ≤ 9223372036854775807) (hlen : s.size * c ≤ 140737488355328) (h0 : 0 < s.size) :
    Calls Tryz.prog 59 #[.string s, .int .i64 c] w fun e w' => e = .returned (.string ⟨(Lib.repeatL s.data.toList c).toArray⟩) ∧ Below w.heap.size w w' := Any.strings_Repeat_main Tryz.lays105 Tryz.Builder_Extra_105 s c w hc2 hc hlen h0
open Go.RowKit Go.Lib in
theorem Tryz.strings_Repeat_zero (s : ByteArray) (w : World) :
    Calls Tryz.prog 59 #[.string s, .int .i64 0] w fun e w' => e = .returned (.string ⟨#[]⟩) ∧ w' = w := Any.strings_Repeat_zero Tryz.lays105 s w
open Go.RowKit Go.Lib in
theorem Tryz.strings_Repeat_one (s : ByteArray) (w : World) :
    Calls Tryz.prog 59 #[.string s, .int .i64 1] w fun e w' => e = .returned (.string s) ∧ w' = w := Any.strings_Repeat_one Tryz.lays105 s w
open Go.RowKit Go.Lib in
/-- Copies of the empty string. (LAID: no walk: one application.) -/
theorem Tryz.strings_Repeat_empty (s : ByteArray) (c : Nat) (w : World) (hc2 : 2 ≤ c) (hc : c ≤ 9223372036854775807) (h0 : s.size = 0) :
    Calls Tryz.prog 59 #[.string s, .int .i64 c] w fun e w' => e = .returned (.string ⟨#[]⟩) ∧ w' = w := Any.strings_Repeat_empty Tryz.lays105 s c w hc2 hc h0
open Go.RowKit Go.Lib in
/-- count < 0: "It panics if count is negative". (LAID: no walk: one application.) -/
theorem Tryz.strings_Repeat_negative (s : ByteArray) (c : Int) (w : World) (hc : c < 0) :
    Calls Tryz.prog 59 #[.string s, .int .i64 c] w fun e w' => e = .panicked [{ v := repeatPanic Tryz.lays105_ren "strings: negative Repeat count", recovered := false }] ∧ w' = w := Any.strings_Repeat_negative Tryz.lays105 s c w hc
open Go.RowKit Go.Lib in
/-- len(s) * count is no int: ".. or if the result of (len(s) * count) overflows". (LAID: no walk: one application.) -/
theorem Tryz.strings_Repeat_overflow (s : ByteArray) (c : Nat) (w : World) (hc : c ≤ 9223372036854775807) (hs : s.size ≤ 9223372036854775807) (hbig : 9223372036854775807 < s.size * c) :
    Calls Tryz.prog 59 #[.string s, .int .i64 c] w fun e w' => e = .panicked [{ v := repeatPanic Tryz.lays105_ren "strings: Repeat output length overflow", recovered := false }] ∧ w' = w := Any.strings_Repeat_overflow Tryz.lays105 s c w hc hs hbig
open Go.RowKit Go.Lib in
/-- **strings.Repeat: count ≥ 0, the result within one allocation: count copies of s.** (LAID: no walk: one application.) -/
theorem Tryz.strings_Repeat (s : ByteArray) (c : Nat) (w : World) (hc : c ≤ 9223372036854775807) (hlen : s.size * c ≤ 140737488355328) :
    Calls Tryz.prog 59 #[.string s, .int .i64 c] w fun e w' => e = .returned (.string ⟨(Lib.repeatL s.data.toList c).toArray⟩) ∧ Below w.heap.size w w' := Any.strings_Repeat Tryz.lays105 Tryz.Builder_Extra_105 s c w hc hlen
def Tryz.lays260_ren : Go.Shelf.Ren := ⟨fun | 260 => 116 | n => n, fun | 9 => 9 | 21 => 21 | 3 => 3 | 4 => 4 | 5 => 5 | 119 => 137 | 0 => 0 | 46 => 92 | 139 => 140 | 138 => 139 | n => n, fun | 3 => 1 | 4 => 2 | n => n⟩
theorem Tryz.lays260 : Go.Proofs.Lays.n260 Tryz.prog Tryz.lays260_ren := {
  mixed := by kernel_rfl
  f260 := Tryz.func116.trans (congrArg some (by kernel_rfl))
  t0 := Tryz.underlying0
  a0 := Tryz.isAgg0
  z0 := Tryz.sizeOf0
  v0 := Tryz.zeroValue0
  t3 := Tryz.underlying3
  a3 := Tryz.isAgg3
  z3 := Tryz.sizeOf3
  v3 := Tryz.zeroValue3
  t4 := Tryz.underlying4
  a4 := Tryz.isAgg4
  z4 := Tryz.sizeOf4
  v4 := Tryz.zeroValue4
  t5 := Tryz.underlying5
  a5 := Tryz.isAgg5
  z5 := Tryz.sizeOf5
  v5 := Tryz.zeroValue5
  t9 := Tryz.underlying9
  a9 := Tryz.isAgg9
  z9 := Tryz.sizeOf9
  v9 := Tryz.zeroValue9
  t21 := Tryz.underlying21
  a21 := Tryz.isAgg21
  z21 := Tryz.sizeOf21
  v21 := Tryz.zeroValue21
  t46 := Tryz.underlying92
  a46 := Tryz.isAgg92
  z46 := Tryz.sizeOf92
  v46 := Tryz.zeroValue92
  t119 := Tryz.underlying137
  a119 := Tryz.isAgg137
  z119 := Tryz.sizeOf137
  t138 := Tryz.underlying139
  a138 := Tryz.isAgg139
  z138 := Tryz.sizeOf139
  v138 := Tryz.zeroValue139
  t139 := Tryz.underlying140
  a139 := Tryz.isAgg140
  z139 := Tryz.sizeOf140
  v139 := Tryz.zeroValue140
  g3 := by kernel_rfl
  g4 := by kernel_rfl }
open Go.RowKit Go.Lib in
theorem Tryz.utf8_decodeRuneInStringSlow (s : ByteArray) (w : World) (hT : Lib.Utf8Tabs 1 2 w) :
    Calls Tryz.prog 116 #[.string s] w fun e w' => e = .returned (.tuple #[.int .i32 (Lib.decodeGo s).1, .int .i64 (Lib.decodeGo s).2]) ∧ Below w.heap.size w w' := Any.utf8_decodeRuneInStringSlow Tryz.lays260 s w hT
open Go.RowKit Go.Lib in
/-- **unicode/utf8.DecodeRuneInString AT EVERY STRING.** (LAID: no walk: one application.) -/
theorem Tryz.utf8_DecodeRuneInString (s : ByteArray) (w : World) (hT : Lib.Utf8Tabs 1 2 w) :
    Calls Tryz.prog 113 #[.string s] w fun e w' => e = .returned (.tuple #[.int .i32 (Lib.decodeGo s).1, .int .i64 (Lib.decodeGo s).2]) ∧ Below w.heap.size w w' := Any.utf8_DecodeRuneInString Tryz.lays197 s w hT
def Tryz.lays271_ren : Go.Shelf.Ren := ⟨fun | 271 => 115 | 120 => 118 | 197 => 113 | 260 => 116 | n => n, fun | 9 => 9 | 21 => 21 | 3 => 3 | 4 => 4 | 5 => 5 | 105 => 133 | 119 => 137 | 0 => 0 | 46 => 92 | 139 => 140 | 138 => 139 | n => n, fun | 3 => 1 | 4 => 2 | n => n⟩
theorem Tryz.lays271 : Go.Proofs.Lays.n271 Tryz.prog Tryz.lays271_ren := {
  mixed := by kernel_rfl
  f120 := Tryz.func118.trans (congrArg some (by kernel_rfl))
  f197 := Tryz.func113.trans (congrArg some (by kernel_rfl))
  f260 := Tryz.func116.trans (congrArg some (by kernel_rfl))
  f271 := Tryz.func115.trans (congrArg some (by kernel_rfl))
  t0 := Tryz.underlying0
  a0 := Tryz.isAgg0
  z0 := Tryz.sizeOf0
  v0 := Tryz.zeroValue0
  t3 := Tryz.underlying3
  a3 := Tryz.isAgg3
  z3 := Tryz.sizeOf3
  v3 := Tryz.zeroValue3
  t4 := Tryz.underlying4
  a4 := Tryz.isAgg4
  z4 := Tryz.sizeOf4
  v4 := Tryz.zeroValue4
  t5 := Tryz.underlying5
  a5 := Tryz.isAgg5
  z5 := Tryz.sizeOf5
  v5 := Tryz.zeroValue5
  t9 := Tryz.underlying9
  a9 := Tryz.isAgg9
  z9 := Tryz.sizeOf9
  v9 := Tryz.zeroValue9
  t21 := Tryz.underlying21
  a21 := Tryz.isAgg21
  z21 := Tryz.sizeOf21
  v21 := Tryz.zeroValue21
  t46 := Tryz.underlying92
  a46 := Tryz.isAgg92
  z46 := Tryz.sizeOf92
  v46 := Tryz.zeroValue92
  t105 := Tryz.underlying133
  a105 := Tryz.isAgg133
  z105 := Tryz.sizeOf133
  v105 := Tryz.zeroValue133
  t119 := Tryz.underlying137
  a119 := Tryz.isAgg137
  z119 := Tryz.sizeOf137
  t138 := Tryz.underlying139
  a138 := Tryz.isAgg139
  z138 := Tryz.sizeOf139
  v138 := Tryz.zeroValue139
  t139 := Tryz.underlying140
  a139 := Tryz.isAgg140
  z139 := Tryz.sizeOf140
  v139 := Tryz.zeroValue140
  g3 := by kernel_rfl
  g4 := by kernel_rfl }
open Go.RowKit Go.Lib in
/-- **unicode/utf8.DecodeLastRuneInString AT EVERY STRING.** (LAID: no walk: one application.) -/
theorem Tryz.utf8_DecodeLastRuneInString (s : ByteArray) (w : World) (hs : s.size ≤ 9223372036854775807) (hT : Lib.Utf8Tabs 1 2 w) :
    Calls Tryz.prog 115 #[.string s] w fun e w' => e = .returned (.tuple #[.int .i32 (Lib.decodeLastL s.data.toList).1, .int .i64 (Lib.decodeLastL s.data.toList).2]) ∧ Below w.heap.size w w' := Any.utf8_DecodeLastRuneInString Tryz.lays271 s w hs hT
end Go.Proofs
namespace Go.Proofs.YtbpeiilildchlaaGreatDoor.Abs
open Go Go.RowKit
set_option linter.unusedVariables false
set_option linter.unusedSectionVars false
set_option linter.unusedSimpArgs false
noncomputable section
def laws_szStringS.a : FnA (Int) := ⟨28, [.tmp 4], .val, [], [⟨16, [0, 1, 5], [.con .str, .val, .val], []⟩], fun x H => match x, H with
  | .v (.int .i64 r), [] => some r
  | _, _ => none⟩
def laws_szStringS.s : Spec := mkS [.con .str, .val] (fun k avs H => match avs, H with
  | [.con .str a0, .v (.int .i64 a1)], [] => some (laws_szStringS.f k a0 a1)
  | _, _ => none) (fun r => (.v (.int .i64 r), []))
def laws_szStringS.E : Env := []
def laws_szStringS.G16 (k : Nat) (avs : List AV) (H : List HE) : Option (Int) := match avs, H with
  | [.con .str x0, .v (.int .i64 x1), .v (.int .i64 x5)], [] => laws_szStringS.p16 k x0 x1 x5
  | _, _ => none
def laws_szStringS.G (k p : Nat) (avs : List AV) (H : List HE) : Option (Int) := (pick1 16 (laws_szStringS.G16 k avs H) none p)
set_option maxRecDepth 100000 in
theorem laws_szStringS.eq (k : Nat) (a0 : List ByteArray) (a1 : Int) : fromTop Tryz.prog laws_szStringS.E k laws_szStringS.a (laws_szStringS.G k) 1000 (bodyOf Tryz.prog 13) [.con .str a0, .v (.int .i64 a1)] [] = laws_szStringS.f k a0 a1 := by kernel_rfl
set_option maxRecDepth 100000 in
theorem laws_szStringS.eq16 (k : Nat) (x0 : List ByteArray) (x1 : Int) (x5 : Int) : fromPt Tryz.prog laws_szStringS.E k laws_szStringS.a (laws_szStringS.G k) 1000 (bodyOf Tryz.prog 13) 16 [.con .str x0, .v (.int .i64 x1), .v (.int .i64 x5)] [] = laws_szStringS.p16 (k + 1) x0 x1 x5 := by kernel_rfl
theorem laws_szStringS.G16_0 {avs : List AV} {H : List HE} : laws_szStringS.G16 0 avs H = none := by unfold laws_szStringS.G16; split <;> rfl
theorem laws_szStringS.G16_s (k : Nat) {avs : List AV} {H : List HE} {x : Int} (h : laws_szStringS.G16 (k + 1) avs H = some x) : fromPt Tryz.prog laws_szStringS.E k laws_szStringS.a (laws_szStringS.G k) 1000 (bodyOf Tryz.prog 13) 16 avs H = some x := by
  unfold laws_szStringS.G16 at h
  split at h
  · rw [← h]; exact laws_szStringS.eq16 _ _ _ _
  · cases h
theorem laws_szStringS.E_ok : EnvOk Tryz.prog laws_szStringS.E := trivial
theorem laws_szStringS.sound : Sound Tryz.prog 13 laws_szStringS.s := by
  refine func_sound (f := laws_szStringS.a) (G := laws_szStringS.G) (fn := Tryz.f13) (body := bodyOf Tryz.prog 13) 1000 (by kernel_rfl) laws_szStringS.E_ok Tryz.func13 (by kernel_rfl) (by kernel_rfl) (by kernel_rfl) (ptsOk_of (by kernel_rfl)) ?_ ?_ ?_ ?_
  · intro r H x h
    unfold laws_szStringS.a at h
    simp only at h
    split at h
    · cases h; rfl
    · cases h
  · exact fun q avs H => pick1_none laws_szStringS.G16_0 (rfl)
  · intro k q pt avs H x _ h
    rcases pick1_some h with ⟨rfl, h⟩ | h
    · exact laws_szStringS.G16_s _ h
    cases h
  · intro k avs H o h
    try dsimp only at h
    split at h
    · cases h; exact laws_szStringS.eq _ _ _
    · cases h

def laws_szConfig.a : FnA (Int) := ⟨12, [.tmp 4], .val, [], [], fun x H => match x, H with
  | .v (.int .i64 r), [] => some r
  | _, _ => none⟩
def laws_szConfig.s : Spec := mkS [.agg [.val, .val, .val, .con .str], .val] (fun k avs H => match avs, H with
  | [.agg [.v (.int .i64 a0_0), .v (.int .i64 a0_1), .v (.int .i64 a0_2), .con .str a0_3], .v (.int .i64 a1)], [] => some (laws_szConfig.f k a0_0 a0_1 a0_2 a0_3 a1)
  | _, _ => none) (fun r => (.v (.int .i64 r), []))
def laws_szConfig.E : Env := [((13, []), laws_szStringS.s)]
def laws_szConfig.G (k p : Nat) (avs : List AV) (H : List HE) : Option (Int) := none
set_option maxRecDepth 100000 in
theorem laws_szConfig.eq (k : Nat) (a0_0 : Int) (a0_1 : Int) (a0_2 : Int) (a0_3 : List ByteArray) (a1 : Int) : fromTop Tryz.prog laws_szConfig.E k laws_szConfig.a (laws_szConfig.G k) 1000 (bodyOf Tryz.prog 4) [.agg [.v (.int .i64 a0_0), .v (.int .i64 a0_1), .v (.int .i64 a0_2), .con .str a0_3], .v (.int .i64 a1)] [] = laws_szConfig.f k a0_0 a0_1 a0_2 a0_3 a1 := by kernel_rfl
theorem laws_szConfig.E_ok : EnvOk Tryz.prog laws_szConfig.E := ⟨⟨laws_szStringS.sound, callable_of (by kernel_rfl)⟩, trivial⟩
theorem laws_szConfig.sound : Sound Tryz.prog 4 laws_szConfig.s := by
  refine func_sound (f := laws_szConfig.a) (G := laws_szConfig.G) (fn := Tryz.f4) (body := bodyOf Tryz.prog 4) 1000 (by kernel_rfl) laws_szConfig.E_ok Tryz.func4 (by kernel_rfl) (by kernel_rfl) (by kernel_rfl) (ptsOk_of (by kernel_rfl)) ?_ ?_ ?_ ?_
  · intro r H x h
    unfold laws_szConfig.a at h
    simp only at h
    split at h
    · cases h; rfl
    · cases h
  · intro q avs H; rfl
  · intro k q pt avs H x _ h; cases h
  · intro k avs H o h
    try dsimp only at h
    split at h
    · cases h; exact laws_szConfig.eq _ _ _ _ _ _
    · cases h

def laws_toStringS.a : FnA (List ByteArray) := ⟨22, [.tmp 2], .row 9 .str, [], [⟨8, [0, 3, 4], [.con .str, .row 9 .str, .val], []⟩], fun x H => match x, H with
  | .own 0, [.row 9 .str r] => some r
  | _, _ => none⟩
def laws_toStringS.s : Spec := mkS [.con .str] (fun k avs H => match avs, H with
  | [.con .str a0], [] => some (laws_toStringS.f k a0)
  | _, _ => none) (fun r => (.own 0, [.row 9 .str r]))
def laws_toStringS.E : Env := []
def laws_toStringS.G8 (k : Nat) (avs : List AV) (H : List HE) : Option (List ByteArray) := match avs, H with
  | [.con .str x0, .own 0, .v (.int .i64 x4)], [.row 9 .str x3] => laws_toStringS.p8 k x0 x3 x4
  | _, _ => none
def laws_toStringS.G (k p : Nat) (avs : List AV) (H : List HE) : Option (List ByteArray) := (pick1 8 (laws_toStringS.G8 k avs H) none p)
set_option maxRecDepth 100000 in
theorem laws_toStringS.eq (k : Nat) (a0 : List ByteArray) : fromTop Tryz.prog laws_toStringS.E k laws_toStringS.a (laws_toStringS.G k) 1000 (bodyOf Tryz.prog 17) [.con .str a0] [] = laws_toStringS.f k a0 := by kernel_rfl
set_option maxRecDepth 100000 in
theorem laws_toStringS.eq8 (k : Nat) (x0 : List ByteArray) (x3 : List ByteArray) (x4 : Int) : fromPt Tryz.prog laws_toStringS.E k laws_toStringS.a (laws_toStringS.G k) 1000 (bodyOf Tryz.prog 17) 8 [.con .str x0, .own 0, .v (.int .i64 x4)] [.row 9 .str x3] = laws_toStringS.p8 (k + 1) x0 x3 x4 := by kernel_rfl
theorem laws_toStringS.G8_0 {avs : List AV} {H : List HE} : laws_toStringS.G8 0 avs H = none := by unfold laws_toStringS.G8; split <;> rfl
theorem laws_toStringS.G8_s (k : Nat) {avs : List AV} {H : List HE} {x : List ByteArray} (h : laws_toStringS.G8 (k + 1) avs H = some x) : fromPt Tryz.prog laws_toStringS.E k laws_toStringS.a (laws_toStringS.G k) 1000 (bodyOf Tryz.prog 17) 8 avs H = some x := by
  unfold laws_toStringS.G8 at h
  split at h
  · rw [← h]; exact laws_toStringS.eq8 _ _ _ _
  · cases h
theorem laws_toStringS.E_ok : EnvOk Tryz.prog laws_toStringS.E := trivial
theorem laws_toStringS.sound : Sound Tryz.prog 17 laws_toStringS.s := by
  refine func_sound (f := laws_toStringS.a) (G := laws_toStringS.G) (fn := Tryz.f17) (body := bodyOf Tryz.prog 17) 1000 (by kernel_rfl) laws_toStringS.E_ok Tryz.func17 (by kernel_rfl) (by kernel_rfl) (by kernel_rfl) (ptsOk_of (by kernel_rfl)) ?_ ?_ ?_ ?_
  · intro r H x h
    unfold laws_toStringS.a at h
    simp only at h
    split at h
    · cases h; rfl
    · cases h
  · exact fun q avs H => pick1_none laws_toStringS.G8_0 (rfl)
  · intro k q pt avs H x _ h
    rcases pick1_some h with ⟨rfl, h⟩ | h
    · exact laws_toStringS.G8_s _ h
    cases h
  · intro k avs H o h
    try dsimp only at h
    split at h
    · cases h; exact laws_toStringS.eq _ _
    · cases h

def laws_toConfig.a : FnA (Int × Int × Int × List ByteArray) := ⟨18, [.cell 2 32], .agg [.val, .val, .val, .row 9 .str], [], [], fun x H => match x, H with
  | .agg [.v (.int .i64 r_0), .v (.int .i64 r_1), .v (.int .i64 r_2), .own 0], [.row 9 .str r_3] => some (r_0, r_1, r_2, r_3)
  | _, _ => none⟩
def laws_toConfig.s : Spec := mkS [.agg [.val, .val, .val, .con .str]] (fun k avs H => match avs, H with
  | [.agg [.v (.int .i64 a0_0), .v (.int .i64 a0_1), .v (.int .i64 a0_2), .con .str a0_3]], [] => some (laws_toConfig.f k a0_0 a0_1 a0_2 a0_3)
  | _, _ => none) (fun r => (.agg [.v (.int .i64 r.1), .v (.int .i64 r.2.1), .v (.int .i64 r.2.2.1), .own 0], [.row 9 .str r.2.2.2]))
def laws_toConfig.E : Env := [((17, []), laws_toStringS.s)]
def laws_toConfig.G (k p : Nat) (avs : List AV) (H : List HE) : Option (Int × Int × Int × List ByteArray) := none
set_option maxRecDepth 100000 in
theorem laws_toConfig.eq (k : Nat) (a0_0 : Int) (a0_1 : Int) (a0_2 : Int) (a0_3 : List ByteArray) : fromTop Tryz.prog laws_toConfig.E k laws_toConfig.a (laws_toConfig.G k) 1000 (bodyOf Tryz.prog 6) [.agg [.v (.int .i64 a0_0), .v (.int .i64 a0_1), .v (.int .i64 a0_2), .con .str a0_3]] [] = laws_toConfig.f k a0_0 a0_1 a0_2 a0_3 := by kernel_rfl
theorem laws_toConfig.E_ok : EnvOk Tryz.prog laws_toConfig.E := ⟨⟨laws_toStringS.sound, callable_of (by kernel_rfl)⟩, trivial⟩
theorem laws_toConfig.sound : Sound Tryz.prog 6 laws_toConfig.s := by
  refine func_sound (f := laws_toConfig.a) (G := laws_toConfig.G) (fn := Tryz.f6) (body := bodyOf Tryz.prog 6) 1000 (by kernel_rfl) laws_toConfig.E_ok Tryz.func6 (by kernel_rfl) (by kernel_rfl) (by kernel_rfl) (ptsOk_of (by kernel_rfl)) ?_ ?_ ?_ ?_
  · intro r H x h
    unfold laws_toConfig.a at h
    simp only at h
    split at h
    · cases h; rfl
    · cases h
  · intro q avs H; rfl
  · intro k q pt avs H x _ h; cases h
  · intro k avs H o h
    try dsimp only at h
    split at h
    · cases h; exact laws_toConfig.eq _ _ _ _ _
    · cases h

def spec_l1In.a : FnA (Bool) := ⟨15, [.tmp 6], .bool, [], [], fun x H => match x, H with
  | .bs false r, [] => some r
  | _, _ => none⟩
def spec_l1In.s : Spec := mkS [.val, .val, .val] (fun k avs H => match avs, H with
  | [.v (.int .i64 a0), .v (.int .i64 a1), .v (.int .i64 a2)], [] => some (spec_l1In.f a0 a1 a2)
  | _, _ => none) (fun r => (.bs false r, []))
def spec_l1In.E : Env := []
def spec_l1In.G (k p : Nat) (avs : List AV) (H : List HE) : Option (Bool) := none
set_option maxRecDepth 100000 in
theorem spec_l1In.eq (k : Nat) (a0 : Int) (a1 : Int) (a2 : Int) : fromTop Tryz.prog spec_l1In.E k spec_l1In.a (spec_l1In.G k) 1000 (bodyOf Tryz.prog 66) [.v (.int .i64 a0), .v (.int .i64 a1), .v (.int .i64 a2)] [] = spec_l1In.f a0 a1 a2 := by kernel_rfl
theorem spec_l1In.E_ok : EnvOk Tryz.prog spec_l1In.E := trivial
theorem spec_l1In.sound : Sound Tryz.prog 66 spec_l1In.s := by
  refine func_sound (f := spec_l1In.a) (G := spec_l1In.G) (fn := Tryz.f66) (body := bodyOf Tryz.prog 66) 1000 (by kernel_rfl) spec_l1In.E_ok Tryz.func66 (by kernel_rfl) (by kernel_rfl) (by kernel_rfl) (ptsOk_of (by kernel_rfl)) ?_ ?_ ?_ ?_
  · intro r H x h
    unfold spec_l1In.a at h
    simp only at h
    split at h
    · cases h; rfl
    · cases h
  · intro q avs H; rfl
  · intro k q pt avs H x _ h; cases h
  · intro k avs H o h
    try dsimp only at h
    split at h
    · cases h; exact spec_l1In.eq _ _ _ _
    · cases h

def spec_l3Type.a : FnA (Bool) := ⟨23, [.tmp 2], .bool, [], [⟨6, [0, 3], [.val, .val], []⟩], fun x H => match x, H with
  | .bs false r, [] => some r
  | _, _ => none⟩
def spec_l3Type.s : Spec := mkS [.val] (fun k avs H => match avs, H with
  | [.v (.string a0)], [] => some (spec_l3Type.f k a0)
  | _, _ => none) (fun r => (.bs false r, []))
def spec_l3Type.E : Env := [((66, []), spec_l1In.s)]
def spec_l3Type.G6 (k : Nat) (avs : List AV) (H : List HE) : Option (Bool) := match avs, H with
  | [.v (.string x0), .v (.int .i64 x3)], [] => spec_l3Type.p6 k x0 x3
  | _, _ => none
def spec_l3Type.G (k p : Nat) (avs : List AV) (H : List HE) : Option (Bool) := (pick1 6 (spec_l3Type.G6 k avs H) none p)
set_option maxRecDepth 100000 in
theorem spec_l3Type.eq (k : Nat) (a0 : ByteArray) : fromTop Tryz.prog spec_l3Type.E k spec_l3Type.a (spec_l3Type.G k) 1000 (bodyOf Tryz.prog 53) [.v (.string a0)] [] = spec_l3Type.f k a0 := by kernel_rfl
set_option maxRecDepth 100000 in
theorem spec_l3Type.eq6 (k : Nat) (x0 : ByteArray) (x3 : Int) : fromPt Tryz.prog spec_l3Type.E k spec_l3Type.a (spec_l3Type.G k) 1000 (bodyOf Tryz.prog 53) 6 [.v (.string x0), .v (.int .i64 x3)] [] = spec_l3Type.p6 (k + 1) x0 x3 := by kernel_rfl
theorem spec_l3Type.G6_0 {avs : List AV} {H : List HE} : spec_l3Type.G6 0 avs H = none := by unfold spec_l3Type.G6; split <;> rfl
theorem spec_l3Type.G6_s (k : Nat) {avs : List AV} {H : List HE} {x : Bool} (h : spec_l3Type.G6 (k + 1) avs H = some x) : fromPt Tryz.prog spec_l3Type.E k spec_l3Type.a (spec_l3Type.G k) 1000 (bodyOf Tryz.prog 53) 6 avs H = some x := by
  unfold spec_l3Type.G6 at h
  split at h
  · rw [← h]; exact spec_l3Type.eq6 _ _ _
  · cases h
theorem spec_l3Type.E_ok : EnvOk Tryz.prog spec_l3Type.E := ⟨⟨spec_l1In.sound, callable_of (by kernel_rfl)⟩, trivial⟩
theorem spec_l3Type.sound : Sound Tryz.prog 53 spec_l3Type.s := by
  refine func_sound (f := spec_l3Type.a) (G := spec_l3Type.G) (fn := Tryz.f53) (body := bodyOf Tryz.prog 53) 1000 (by kernel_rfl) spec_l3Type.E_ok Tryz.func53 (by kernel_rfl) (by kernel_rfl) (by kernel_rfl) (ptsOk_of (by kernel_rfl)) ?_ ?_ ?_ ?_
  · intro r H x h
    unfold spec_l3Type.a at h
    simp only at h
    split at h
    · cases h; rfl
    · cases h
  · exact fun q avs H => pick1_none spec_l3Type.G6_0 (rfl)
  · intro k q pt avs H x _ h
    rcases pick1_some h with ⟨rfl, h⟩ | h
    · exact spec_l3Type.G6_s _ h
    cases h
  · intro k avs H o h
    try dsimp only at h
    split at h
    · cases h; exact spec_l3Type.eq _ _
    · cases h

def spec_TypesOk.a : FnA (Bool) := ⟨20, [.tmp 2], .bool, [], [⟨14, [0, 3], [.con .str, .val], []⟩], fun x H => match x, H with
  | .bs false r, [] => some r
  | _, _ => none⟩
def spec_TypesOk.s : Spec := mkS [.con .str] (fun k avs H => match avs, H with
  | [.con .str a0], [] => some (spec_TypesOk.f k a0)
  | _, _ => none) (fun r => (.bs false r, []))
def spec_TypesOk.E : Env := [((66, []), spec_l1In.s), ((53, []), spec_l3Type.s)]
def spec_TypesOk.G14 (k : Nat) (avs : List AV) (H : List HE) : Option (Bool) := match avs, H with
  | [.con .str x0, .v (.int .i64 x3)], [] => spec_TypesOk.p14 k x0 x3
  | _, _ => none
def spec_TypesOk.G (k p : Nat) (avs : List AV) (H : List HE) : Option (Bool) := (pick1 14 (spec_TypesOk.G14 k avs H) none p)
set_option maxRecDepth 100000 in
theorem spec_TypesOk.eq (k : Nat) (a0 : List ByteArray) : fromTop Tryz.prog spec_TypesOk.E k spec_TypesOk.a (spec_TypesOk.G k) 1000 (bodyOf Tryz.prog 67) [.con .str a0] [] = spec_TypesOk.f k a0 := by kernel_rfl
set_option maxRecDepth 100000 in
theorem spec_TypesOk.eq14 (k : Nat) (x0 : List ByteArray) (x3 : Int) : fromPt Tryz.prog spec_TypesOk.E k spec_TypesOk.a (spec_TypesOk.G k) 1000 (bodyOf Tryz.prog 67) 14 [.con .str x0, .v (.int .i64 x3)] [] = spec_TypesOk.p14 (k + 1) x0 x3 := by kernel_rfl
theorem spec_TypesOk.G14_0 {avs : List AV} {H : List HE} : spec_TypesOk.G14 0 avs H = none := by unfold spec_TypesOk.G14; split <;> rfl
theorem spec_TypesOk.G14_s (k : Nat) {avs : List AV} {H : List HE} {x : Bool} (h : spec_TypesOk.G14 (k + 1) avs H = some x) : fromPt Tryz.prog spec_TypesOk.E k spec_TypesOk.a (spec_TypesOk.G k) 1000 (bodyOf Tryz.prog 67) 14 avs H = some x := by
  unfold spec_TypesOk.G14 at h
  split at h
  · rw [← h]; exact spec_TypesOk.eq14 _ _ _
  · cases h
theorem spec_TypesOk.E_ok : EnvOk Tryz.prog spec_TypesOk.E := ⟨⟨spec_l1In.sound, callable_of (by kernel_rfl)⟩, ⟨spec_l3Type.sound, callable_of (by kernel_rfl)⟩, trivial⟩
theorem spec_TypesOk.sound : Sound Tryz.prog 67 spec_TypesOk.s := by
  refine func_sound (f := spec_TypesOk.a) (G := spec_TypesOk.G) (fn := Tryz.f67) (body := bodyOf Tryz.prog 67) 1000 (by kernel_rfl) spec_TypesOk.E_ok Tryz.func67 (by kernel_rfl) (by kernel_rfl) (by kernel_rfl) (ptsOk_of (by kernel_rfl)) ?_ ?_ ?_ ?_
  · intro r H x h
    unfold spec_TypesOk.a at h
    simp only at h
    split at h
    · cases h; rfl
    · cases h
  · exact fun q avs H => pick1_none spec_TypesOk.G14_0 (rfl)
  · intro k q pt avs H x _ h
    rcases pick1_some h with ⟨rfl, h⟩ | h
    · exact spec_TypesOk.G14_s _ h
    cases h
  · intro k avs H o h
    try dsimp only at h
    split at h
    · cases h; exact spec_TypesOk.eq _ _
    · cases h

def spec_ConfigOk.a : FnA (Bool) := ⟨29, [.tmp 2], .bool, [], [], fun x H => match x, H with
  | .bs false r, [] => some r
  | _, _ => none⟩
def spec_ConfigOk.s : Spec := mkS [.agg [.val, .val, .val, .con .str]] (fun k avs H => match avs, H with
  | [.agg [.v (.int .i64 a0_0), .v (.int .i64 a0_1), .v (.int .i64 a0_2), .con .str a0_3]], [] => some (spec_ConfigOk.f k a0_0 a0_1 a0_2 a0_3)
  | _, _ => none) (fun r => (.bs false r, []))
def spec_ConfigOk.E : Env := [((66, []), spec_l1In.s), ((67, []), spec_TypesOk.s)]
def spec_ConfigOk.G (k p : Nat) (avs : List AV) (H : List HE) : Option (Bool) := none
set_option maxRecDepth 100000 in
theorem spec_ConfigOk.eq (k : Nat) (a0_0 : Int) (a0_1 : Int) (a0_2 : Int) (a0_3 : List ByteArray) : fromTop Tryz.prog spec_ConfigOk.E k spec_ConfigOk.a (spec_ConfigOk.G k) 1000 (bodyOf Tryz.prog 49) [.agg [.v (.int .i64 a0_0), .v (.int .i64 a0_1), .v (.int .i64 a0_2), .con .str a0_3]] [] = spec_ConfigOk.f k a0_0 a0_1 a0_2 a0_3 := by kernel_rfl
theorem spec_ConfigOk.E_ok : EnvOk Tryz.prog spec_ConfigOk.E := ⟨⟨spec_l1In.sound, callable_of (by kernel_rfl)⟩, ⟨spec_TypesOk.sound, callable_of (by kernel_rfl)⟩, trivial⟩
theorem spec_ConfigOk.sound : Sound Tryz.prog 49 spec_ConfigOk.s := by
  refine func_sound (f := spec_ConfigOk.a) (G := spec_ConfigOk.G) (fn := Tryz.f49) (body := bodyOf Tryz.prog 49) 1000 (by kernel_rfl) spec_ConfigOk.E_ok Tryz.func49 (by kernel_rfl) (by kernel_rfl) (by kernel_rfl) (ptsOk_of (by kernel_rfl)) ?_ ?_ ?_ ?_
  · intro r H x h
    unfold spec_ConfigOk.a at h
    simp only at h
    split at h
    · cases h; rfl
    · cases h
  · intro q avs H; rfl
  · intro k q pt avs H x _ h; cases h
  · intro k avs H o h
    try dsimp only at h
    split at h
    · cases h; exact spec_ConfigOk.eq _ _ _ _ _
    · cases h

def spec_l5Image.a : FnA (Bool) := ⟨15, [.tmp 4], .bool, [], [], fun x H => match x, H with
  | .bs false r, [] => some r
  | _, _ => none⟩
def spec_l5Image.s : Spec := mkS [.agg [.val, .val, .val, .con .str], .val] (fun k avs H => match avs, H with
  | [.agg [.v (.int .i64 a0_0), .v (.int .i64 a0_1), .v (.int .i64 a0_2), .con .str a0_3], .v (.string a1)], [] => some (spec_l5Image.f k a0_0 a0_1 a0_2 a0_3 a1)
  | _, _ => none) (fun r => (.bs false r, []))
def spec_l5Image.E : Env := [((49, []), spec_ConfigOk.s)]
def spec_l5Image.G (k p : Nat) (avs : List AV) (H : List HE) : Option (Bool) := none
set_option maxRecDepth 100000 in
theorem spec_l5Image.eq (k : Nat) (a0_0 : Int) (a0_1 : Int) (a0_2 : Int) (a0_3 : List ByteArray) (a1 : ByteArray) : fromTop Tryz.prog spec_l5Image.E k spec_l5Image.a (spec_l5Image.G k) 1000 (bodyOf Tryz.prog 29) [.agg [.v (.int .i64 a0_0), .v (.int .i64 a0_1), .v (.int .i64 a0_2), .con .str a0_3], .v (.string a1)] [] = spec_l5Image.f k a0_0 a0_1 a0_2 a0_3 a1 := by kernel_rfl
theorem spec_l5Image.E_ok : EnvOk Tryz.prog spec_l5Image.E := ⟨⟨spec_ConfigOk.sound, callable_of (by kernel_rfl)⟩, trivial⟩
theorem spec_l5Image.sound : Sound Tryz.prog 29 spec_l5Image.s := by
  refine func_sound (f := spec_l5Image.a) (G := spec_l5Image.G) (fn := Tryz.f29) (body := bodyOf Tryz.prog 29) 1000 (by kernel_rfl) spec_l5Image.E_ok Tryz.func29 (by kernel_rfl) (by kernel_rfl) (by kernel_rfl) (ptsOk_of (by kernel_rfl)) ?_ ?_ ?_ ?_
  · intro r H x h
    unfold spec_l5Image.a at h
    simp only at h
    split at h
    · cases h; rfl
    · cases h
  · intro q avs H; rfl
  · intro k q pt avs H x _ h; cases h
  · intro k avs H o h
    try dsimp only at h
    split at h
    · cases h; exact spec_l5Image.eq _ _ _ _ _ _
    · cases h

def spec_ReadWord.a : FnA (Int × Bool) := ⟨22, [.tmp 2, .tmp 3], .tup [.val, .bool], [], [⟨16, [0, 4, 5], [.val, .val, .val], []⟩], fun x H => match x, H with
  | .tup [.v (.int .i64 r_0), .bs false r_1], [] => some (r_0, r_1)
  | _, _ => none⟩
def spec_ReadWord.s : Spec := mkS [.val] (fun k avs H => match avs, H with
  | [.v (.string a0)], [] => some (spec_ReadWord.f k a0)
  | _, _ => none) (fun r => (.tup [.v (.int .i64 r.1), .bs false r.2], []))
def spec_ReadWord.E : Env := []
def spec_ReadWord.G16 (k : Nat) (avs : List AV) (H : List HE) : Option (Int × Bool) := match avs, H with
  | [.v (.string x0), .v (.int .u64 x4), .v (.int .i64 x5)], [] => spec_ReadWord.p16 k x0 x4 x5
  | _, _ => none
def spec_ReadWord.G (k p : Nat) (avs : List AV) (H : List HE) : Option (Int × Bool) := (pick1 16 (spec_ReadWord.G16 k avs H) none p)
set_option maxRecDepth 100000 in
theorem spec_ReadWord.eq (k : Nat) (a0 : ByteArray) : fromTop Tryz.prog spec_ReadWord.E k spec_ReadWord.a (spec_ReadWord.G k) 1000 (bodyOf Tryz.prog 70) [.v (.string a0)] [] = spec_ReadWord.f k a0 := by kernel_rfl
set_option maxRecDepth 100000 in
theorem spec_ReadWord.eq16 (k : Nat) (x0 : ByteArray) (x4 : Int) (x5 : Int) : fromPt Tryz.prog spec_ReadWord.E k spec_ReadWord.a (spec_ReadWord.G k) 1000 (bodyOf Tryz.prog 70) 16 [.v (.string x0), .v (.int .u64 x4), .v (.int .i64 x5)] [] = spec_ReadWord.p16 (k + 1) x0 x4 x5 := by kernel_rfl
theorem spec_ReadWord.G16_0 {avs : List AV} {H : List HE} : spec_ReadWord.G16 0 avs H = none := by unfold spec_ReadWord.G16; split <;> rfl
theorem spec_ReadWord.G16_s (k : Nat) {avs : List AV} {H : List HE} {x : Int × Bool} (h : spec_ReadWord.G16 (k + 1) avs H = some x) : fromPt Tryz.prog spec_ReadWord.E k spec_ReadWord.a (spec_ReadWord.G k) 1000 (bodyOf Tryz.prog 70) 16 avs H = some x := by
  unfold spec_ReadWord.G16 at h
  split at h
  · rw [← h]; exact spec_ReadWord.eq16 _ _ _ _
  · cases h
theorem spec_ReadWord.E_ok : EnvOk Tryz.prog spec_ReadWord.E := trivial
theorem spec_ReadWord.sound : Sound Tryz.prog 70 spec_ReadWord.s := by
  refine func_sound (f := spec_ReadWord.a) (G := spec_ReadWord.G) (fn := Tryz.f70) (body := bodyOf Tryz.prog 70) 1000 (by kernel_rfl) spec_ReadWord.E_ok Tryz.func70 (by kernel_rfl) (by kernel_rfl) (by kernel_rfl) (ptsOk_of (by kernel_rfl)) ?_ ?_ ?_ ?_
  · intro r H x h
    unfold spec_ReadWord.a at h
    simp only at h
    split at h
    · cases h; rfl
    · cases h
  · exact fun q avs H => pick1_none spec_ReadWord.G16_0 (rfl)
  · intro k q pt avs H x _ h
    rcases pick1_some h with ⟨rfl, h⟩ | h
    · exact spec_ReadWord.G16_s _ h
    cases h
  · intro k avs H o h
    try dsimp only at h
    split at h
    · cases h; exact spec_ReadWord.eq _ _
    · cases h

def spec_l9Word.a : FnA (Int) := ⟨19, [.tmp 4], .val, [], [], fun x H => match x, H with
  | .v (.int .i64 r), [] => some r
  | _, _ => none⟩
def spec_l9Word.s : Spec := mkS [.val, .val] (fun k avs H => match avs, H with
  | [.v (.string a0), .v (.int .i64 a1)], [] => some (spec_l9Word.f k a0 a1)
  | _, _ => none) (fun r => (.v (.int .i64 r), []))
def spec_l9Word.E : Env := [((70, []), spec_ReadWord.s)]
def spec_l9Word.G (k p : Nat) (avs : List AV) (H : List HE) : Option (Int) := none
set_option maxRecDepth 100000 in
theorem spec_l9Word.eq (k : Nat) (a0 : ByteArray) (a1 : Int) : fromTop Tryz.prog spec_l9Word.E k spec_l9Word.a (spec_l9Word.G k) 1000 (bodyOf Tryz.prog 51) [.v (.string a0), .v (.int .i64 a1)] [] = spec_l9Word.f k a0 a1 := by kernel_rfl
theorem spec_l9Word.E_ok : EnvOk Tryz.prog spec_l9Word.E := ⟨⟨spec_ReadWord.sound, callable_of (by kernel_rfl)⟩, trivial⟩
theorem spec_l9Word.sound : Sound Tryz.prog 51 spec_l9Word.s := by
  refine func_sound (f := spec_l9Word.a) (G := spec_l9Word.G) (fn := Tryz.f51) (body := bodyOf Tryz.prog 51) 1000 (by kernel_rfl) spec_l9Word.E_ok Tryz.func51 (by kernel_rfl) (by kernel_rfl) (by kernel_rfl) (ptsOk_of (by kernel_rfl)) ?_ ?_ ?_ ?_
  · intro r H x h
    unfold spec_l9Word.a at h
    simp only at h
    split at h
    · cases h; rfl
    · cases h
  · intro q avs H; rfl
  · intro k q pt avs H x _ h; cases h
  · intro k avs H o h
    try dsimp only at h
    split at h
    · cases h; exact spec_l9Word.eq _ _ _
    · cases h

def spec_l10Slots.a : FnA (List Int) := ⟨18, [.tmp 2], .row 2 (.int .i64), [], [⟨8, [0, 3, 4], [.val, .row 2 (.int .i64), .val], []⟩], fun x H => match x, H with
  | .own 0, [.row 2 (.int .i64) r] => some r
  | _, _ => none⟩
def spec_l10Slots.s : Spec := mkS [.val] (fun k avs H => match avs, H with
  | [.v (.string a0)], [] => some (spec_l10Slots.f k a0)
  | _, _ => none) (fun r => (.own 0, [.row 2 (.int .i64) r]))
def spec_l10Slots.E : Env := [((51, []), spec_l9Word.s)]
def spec_l10Slots.G8 (k : Nat) (avs : List AV) (H : List HE) : Option (List Int) := match avs, H with
  | [.v (.string x0), .own 0, .v (.int .i64 x4)], [.row 2 (.int .i64) x3] => spec_l10Slots.p8 k x0 x3 x4
  | _, _ => none
def spec_l10Slots.G (k p : Nat) (avs : List AV) (H : List HE) : Option (List Int) := (pick1 8 (spec_l10Slots.G8 k avs H) none p)
set_option maxRecDepth 100000 in
theorem spec_l10Slots.eq (k : Nat) (a0 : ByteArray) : fromTop Tryz.prog spec_l10Slots.E k spec_l10Slots.a (spec_l10Slots.G k) 1000 (bodyOf Tryz.prog 31) [.v (.string a0)] [] = spec_l10Slots.f k a0 := by kernel_rfl
set_option maxRecDepth 100000 in
theorem spec_l10Slots.eq8 (k : Nat) (x0 : ByteArray) (x3 : List Int) (x4 : Int) : fromPt Tryz.prog spec_l10Slots.E k spec_l10Slots.a (spec_l10Slots.G k) 1000 (bodyOf Tryz.prog 31) 8 [.v (.string x0), .own 0, .v (.int .i64 x4)] [.row 2 (.int .i64) x3] = spec_l10Slots.p8 (k + 1) x0 x3 x4 := by kernel_rfl
theorem spec_l10Slots.G8_0 {avs : List AV} {H : List HE} : spec_l10Slots.G8 0 avs H = none := by unfold spec_l10Slots.G8; split <;> rfl
theorem spec_l10Slots.G8_s (k : Nat) {avs : List AV} {H : List HE} {x : List Int} (h : spec_l10Slots.G8 (k + 1) avs H = some x) : fromPt Tryz.prog spec_l10Slots.E k spec_l10Slots.a (spec_l10Slots.G k) 1000 (bodyOf Tryz.prog 31) 8 avs H = some x := by
  unfold spec_l10Slots.G8 at h
  split at h
  · rw [← h]; exact spec_l10Slots.eq8 _ _ _ _
  · cases h
theorem spec_l10Slots.E_ok : EnvOk Tryz.prog spec_l10Slots.E := ⟨⟨spec_l9Word.sound, callable_of (by kernel_rfl)⟩, trivial⟩
theorem spec_l10Slots.sound : Sound Tryz.prog 31 spec_l10Slots.s := by
  refine func_sound (f := spec_l10Slots.a) (G := spec_l10Slots.G) (fn := Tryz.f31) (body := bodyOf Tryz.prog 31) 1000 (by kernel_rfl) spec_l10Slots.E_ok Tryz.func31 (by kernel_rfl) (by kernel_rfl) (by kernel_rfl) (ptsOk_of (by kernel_rfl)) ?_ ?_ ?_ ?_
  · intro r H x h
    unfold spec_l10Slots.a at h
    simp only at h
    split at h
    · cases h; rfl
    · cases h
  · exact fun q avs H => pick1_none spec_l10Slots.G8_0 (rfl)
  · intro k q pt avs H x _ h
    rcases pick1_some h with ⟨rfl, h⟩ | h
    · exact spec_l10Slots.G8_s _ h
    cases h
  · intro k avs H o h
    try dsimp only at h
    split at h
    · cases h; exact spec_l10Slots.eq _ _
    · cases h

def spec_RefKind.a : FnA (Int) := ⟨22, [.tmp 2], .val, [], [], fun x H => match x, H with
  | .v (.int .i64 r), [] => some r
  | _, _ => none⟩
def spec_RefKind.s : Spec := mkS [.val] (fun k avs H => match avs, H with
  | [.v (.int .i64 a0)], [] => some (spec_RefKind.f a0)
  | _, _ => none) (fun r => (.v (.int .i64 r), []))
def spec_RefKind.E : Env := [((66, []), spec_l1In.s)]
def spec_RefKind.G (k p : Nat) (avs : List AV) (H : List HE) : Option (Int) := none
set_option maxRecDepth 100000 in
theorem spec_RefKind.eq (k : Nat) (a0 : Int) : fromTop Tryz.prog spec_RefKind.E k spec_RefKind.a (spec_RefKind.G k) 1000 (bodyOf Tryz.prog 68) [.v (.int .i64 a0)] [] = spec_RefKind.f a0 := by kernel_rfl
theorem spec_RefKind.E_ok : EnvOk Tryz.prog spec_RefKind.E := ⟨⟨spec_l1In.sound, callable_of (by kernel_rfl)⟩, trivial⟩
theorem spec_RefKind.sound : Sound Tryz.prog 68 spec_RefKind.s := by
  refine func_sound (f := spec_RefKind.a) (G := spec_RefKind.G) (fn := Tryz.f68) (body := bodyOf Tryz.prog 68) 1000 (by kernel_rfl) spec_RefKind.E_ok Tryz.func68 (by kernel_rfl) (by kernel_rfl) (by kernel_rfl) (ptsOk_of (by kernel_rfl)) ?_ ?_ ?_ ?_
  · intro r H x h
    unfold spec_RefKind.a at h
    simp only at h
    split at h
    · cases h; rfl
    · cases h
  · intro q avs H; rfl
  · intro k q pt avs H x _ h; cases h
  · intro k avs H o h
    try dsimp only at h
    split at h
    · cases h; exact spec_RefKind.eq _ _
    · cases h

def spec_l10Line.a : FnA (Bool) := ⟨13, [.tmp 4], .bool, [], [], fun x H => match x, H with
  | .bs false r, [] => some r
  | _, _ => none⟩
def spec_l10Line.s : Spec := mkS [.agg [.val, .val, .val, .con .str], .val] (fun k avs H => match avs, H with
  | [.agg [.v (.int .i64 a0_0), .v (.int .i64 a0_1), .v (.int .i64 a0_2), .con .str a0_3], .v (.int .i64 a1)], [] => some (spec_l10Line.f a0_0 a0_1 a0_2 a0_3 a1)
  | _, _ => none) (fun r => (.bs false r, []))
def spec_l10Line.E : Env := [((66, []), spec_l1In.s)]
def spec_l10Line.G (k p : Nat) (avs : List AV) (H : List HE) : Option (Bool) := none
set_option maxRecDepth 100000 in
theorem spec_l10Line.eq (k : Nat) (a0_0 : Int) (a0_1 : Int) (a0_2 : Int) (a0_3 : List ByteArray) (a1 : Int) : fromTop Tryz.prog spec_l10Line.E k spec_l10Line.a (spec_l10Line.G k) 1000 (bodyOf Tryz.prog 69) [.agg [.v (.int .i64 a0_0), .v (.int .i64 a0_1), .v (.int .i64 a0_2), .con .str a0_3], .v (.int .i64 a1)] [] = spec_l10Line.f a0_0 a0_1 a0_2 a0_3 a1 := by kernel_rfl
theorem spec_l10Line.E_ok : EnvOk Tryz.prog spec_l10Line.E := ⟨⟨spec_l1In.sound, callable_of (by kernel_rfl)⟩, trivial⟩
theorem spec_l10Line.sound : Sound Tryz.prog 69 spec_l10Line.s := by
  refine func_sound (f := spec_l10Line.a) (G := spec_l10Line.G) (fn := Tryz.f69) (body := bodyOf Tryz.prog 69) 1000 (by kernel_rfl) spec_l10Line.E_ok Tryz.func69 (by kernel_rfl) (by kernel_rfl) (by kernel_rfl) (ptsOk_of (by kernel_rfl)) ?_ ?_ ?_ ?_
  · intro r H x h
    unfold spec_l10Line.a at h
    simp only at h
    split at h
    · cases h; rfl
    · cases h
  · intro q avs H; rfl
  · intro k q pt avs H x _ h; cases h
  · intro k avs H o h
    try dsimp only at h
    split at h
    · cases h; exact spec_l10Line.eq _ _ _ _ _ _
    · cases h

def spec_l10Ref.a : FnA (Bool) := ⟨18, [.tmp 4], .bool, [], [], fun x H => match x, H with
  | .bs false r, [] => some r
  | _, _ => none⟩
def spec_l10Ref.s : Spec := mkS [.agg [.val, .val, .val, .con .str], .val] (fun k avs H => match avs, H with
  | [.agg [.v (.int .i64 a0_0), .v (.int .i64 a0_1), .v (.int .i64 a0_2), .con .str a0_3], .v (.int .i64 a1)], [] => some (spec_l10Ref.f a0_0 a0_1 a0_2 a0_3 a1)
  | _, _ => none) (fun r => (.bs false r, []))
def spec_l10Ref.E : Env := [((68, []), spec_RefKind.s), ((69, []), spec_l10Line.s)]
def spec_l10Ref.G (k p : Nat) (avs : List AV) (H : List HE) : Option (Bool) := none
set_option maxRecDepth 100000 in
theorem spec_l10Ref.eq (k : Nat) (a0_0 : Int) (a0_1 : Int) (a0_2 : Int) (a0_3 : List ByteArray) (a1 : Int) : fromTop Tryz.prog spec_l10Ref.E k spec_l10Ref.a (spec_l10Ref.G k) 1000 (bodyOf Tryz.prog 50) [.agg [.v (.int .i64 a0_0), .v (.int .i64 a0_1), .v (.int .i64 a0_2), .con .str a0_3], .v (.int .i64 a1)] [] = spec_l10Ref.f a0_0 a0_1 a0_2 a0_3 a1 := by kernel_rfl
theorem spec_l10Ref.E_ok : EnvOk Tryz.prog spec_l10Ref.E := ⟨⟨spec_RefKind.sound, callable_of (by kernel_rfl)⟩, ⟨spec_l10Line.sound, callable_of (by kernel_rfl)⟩, trivial⟩
theorem spec_l10Ref.sound : Sound Tryz.prog 50 spec_l10Ref.s := by
  refine func_sound (f := spec_l10Ref.a) (G := spec_l10Ref.G) (fn := Tryz.f50) (body := bodyOf Tryz.prog 50) 1000 (by kernel_rfl) spec_l10Ref.E_ok Tryz.func50 (by kernel_rfl) (by kernel_rfl) (by kernel_rfl) (ptsOk_of (by kernel_rfl)) ?_ ?_ ?_ ?_
  · intro r H x h
    unfold spec_l10Ref.a at h
    simp only at h
    split at h
    · cases h; rfl
    · cases h
  · intro q avs H; rfl
  · intro k q pt avs H x _ h; cases h
  · intro k avs H o h
    try dsimp only at h
    split at h
    · cases h; exact spec_l10Ref.eq _ _ _ _ _ _
    · cases h

def spec_l10Refs.a : FnA (Bool) := ⟨19, [.tmp 4], .bool, [], [⟨6, [1, 2, 5], [.con (.int .i64), .box [.val, .val, .val, .con .str], .val], []⟩], fun x H => match x, H with
  | .bs false r, [] => some r
  | _, _ => none⟩
def spec_l10Refs.s : Spec := mkS [.agg [.val, .val, .val, .con .str], .con (.int .i64)] (fun k avs H => match avs, H with
  | [.agg [.v (.int .i64 a0_0), .v (.int .i64 a0_1), .v (.int .i64 a0_2), .con .str a0_3], .con (.int .i64) a1], [] => some (spec_l10Refs.f k a0_0 a0_1 a0_2 a0_3 a1)
  | _, _ => none) (fun r => (.bs false r, []))
def spec_l10Refs.E : Env := [((50, []), spec_l10Ref.s)]
def spec_l10Refs.G6 (k : Nat) (avs : List AV) (H : List HE) : Option (Bool) := match avs, H with
  | [.con (.int .i64) x1, .box 0 0, .v (.int .i64 x5)], [.box [.v (.int .i64 x2_0), .v (.int .i64 x2_1), .v (.int .i64 x2_2), .con .str x2_3]] => spec_l10Refs.p6 k x1 x2_0 x2_1 x2_2 x2_3 x5
  | _, _ => none
def spec_l10Refs.G (k p : Nat) (avs : List AV) (H : List HE) : Option (Bool) := (pick1 6 (spec_l10Refs.G6 k avs H) none p)
set_option maxRecDepth 100000 in
theorem spec_l10Refs.eq (k : Nat) (a0_0 : Int) (a0_1 : Int) (a0_2 : Int) (a0_3 : List ByteArray) (a1 : List Int) : fromTop Tryz.prog spec_l10Refs.E k spec_l10Refs.a (spec_l10Refs.G k) 1000 (bodyOf Tryz.prog 30) [.agg [.v (.int .i64 a0_0), .v (.int .i64 a0_1), .v (.int .i64 a0_2), .con .str a0_3], .con (.int .i64) a1] [] = spec_l10Refs.f k a0_0 a0_1 a0_2 a0_3 a1 := by kernel_rfl
set_option maxRecDepth 100000 in
theorem spec_l10Refs.eq6 (k : Nat) (x1 : List Int) (x2_0 : Int) (x2_1 : Int) (x2_2 : Int) (x2_3 : List ByteArray) (x5 : Int) : fromPt Tryz.prog spec_l10Refs.E k spec_l10Refs.a (spec_l10Refs.G k) 1000 (bodyOf Tryz.prog 30) 6 [.con (.int .i64) x1, .box 0 0, .v (.int .i64 x5)] [.box [.v (.int .i64 x2_0), .v (.int .i64 x2_1), .v (.int .i64 x2_2), .con .str x2_3]] = spec_l10Refs.p6 (k + 1) x1 x2_0 x2_1 x2_2 x2_3 x5 := by kernel_rfl
theorem spec_l10Refs.G6_0 {avs : List AV} {H : List HE} : spec_l10Refs.G6 0 avs H = none := by unfold spec_l10Refs.G6; split <;> rfl
theorem spec_l10Refs.G6_s (k : Nat) {avs : List AV} {H : List HE} {x : Bool} (h : spec_l10Refs.G6 (k + 1) avs H = some x) : fromPt Tryz.prog spec_l10Refs.E k spec_l10Refs.a (spec_l10Refs.G k) 1000 (bodyOf Tryz.prog 30) 6 avs H = some x := by
  unfold spec_l10Refs.G6 at h
  split at h
  · rw [← h]; exact spec_l10Refs.eq6 _ _ _ _ _ _ _
  · cases h
theorem spec_l10Refs.E_ok : EnvOk Tryz.prog spec_l10Refs.E := ⟨⟨spec_l10Ref.sound, callable_of (by kernel_rfl)⟩, trivial⟩
theorem spec_l10Refs.sound : Sound Tryz.prog 30 spec_l10Refs.s := by
  refine func_sound (f := spec_l10Refs.a) (G := spec_l10Refs.G) (fn := Tryz.f30) (body := bodyOf Tryz.prog 30) 1000 (by kernel_rfl) spec_l10Refs.E_ok Tryz.func30 (by kernel_rfl) (by kernel_rfl) (by kernel_rfl) (ptsOk_of (by kernel_rfl)) ?_ ?_ ?_ ?_
  · intro r H x h
    unfold spec_l10Refs.a at h
    simp only at h
    split at h
    · cases h; rfl
    · cases h
  · exact fun q avs H => pick1_none spec_l10Refs.G6_0 (rfl)
  · intro k q pt avs H x _ h
    rcases pick1_some h with ⟨rfl, h⟩ | h
    · exact spec_l10Refs.G6_s _ h
    cases h
  · intro k avs H o h
    try dsimp only at h
    split at h
    · cases h; exact spec_l10Refs.eq _ _ _ _ _ _
    · cases h

def spec_RootsOf.a : FnA (List Int × Bool) := ⟨19, [.tmp 4, .tmp 5], .tup [.row 2 (.int .i64), .bool], [], [], fun x H => match x, H with
  | .tup [.own 0, .bs false r_1], [.row 2 (.int .i64) r_0] => some (r_0, r_1)
  | _, _ => none⟩
def spec_RootsOf.s : Spec := mkS [.agg [.val, .val, .val, .con .str], .val] (fun k avs H => match avs, H with
  | [.agg [.v (.int .i64 a0_0), .v (.int .i64 a0_1), .v (.int .i64 a0_2), .con .str a0_3], .v (.string a1)], [] => some (spec_RootsOf.f k a0_0 a0_1 a0_2 a0_3 a1)
  | _, _ => none) (fun r => (.tup [.own 0, .bs false r.2], [.row 2 (.int .i64) r.1]))
def spec_RootsOf.E : Env := [((29, []), spec_l5Image.s), ((31, []), spec_l10Slots.s), ((30, []), spec_l10Refs.s)]
def spec_RootsOf.G (k p : Nat) (avs : List AV) (H : List HE) : Option (List Int × Bool) := none
set_option maxRecDepth 100000 in
theorem spec_RootsOf.eq (k : Nat) (a0_0 : Int) (a0_1 : Int) (a0_2 : Int) (a0_3 : List ByteArray) (a1 : ByteArray) : fromTop Tryz.prog spec_RootsOf.E k spec_RootsOf.a (spec_RootsOf.G k) 1000 (bodyOf Tryz.prog 14) [.agg [.v (.int .i64 a0_0), .v (.int .i64 a0_1), .v (.int .i64 a0_2), .con .str a0_3], .v (.string a1)] [] = spec_RootsOf.f k a0_0 a0_1 a0_2 a0_3 a1 := by kernel_rfl
theorem spec_RootsOf.E_ok : EnvOk Tryz.prog spec_RootsOf.E := ⟨⟨spec_l5Image.sound, callable_of (by kernel_rfl)⟩, ⟨spec_l10Slots.sound, callable_of (by kernel_rfl)⟩, ⟨spec_l10Refs.sound, callable_of (by kernel_rfl)⟩, trivial⟩
theorem spec_RootsOf.sound : Sound Tryz.prog 14 spec_RootsOf.s := by
  refine func_sound (f := spec_RootsOf.a) (G := spec_RootsOf.G) (fn := Tryz.f14) (body := bodyOf Tryz.prog 14) 1000 (by kernel_rfl) spec_RootsOf.E_ok Tryz.func14 (by kernel_rfl) (by kernel_rfl) (by kernel_rfl) (ptsOk_of (by kernel_rfl)) ?_ ?_ ?_ ?_
  · intro r H x h
    unfold spec_RootsOf.a at h
    simp only at h
    split at h
    · cases h; rfl
    · cases h
  · intro q avs H; rfl
  · intro k q pt avs H x _ h; cases h
  · intro k avs H o h
    try dsimp only at h
    split at h
    · cases h; exact spec_RootsOf.eq _ _ _ _ _ _
    · cases h

def spec_l7Place.a : FnA (Int) := ⟨19, [.tmp 4], .val, [], [⟨6, [0, 1, 5], [.con (.int .i64), .val, .val], []⟩], fun x H => match x, H with
  | .v (.int .i64 r), [] => some r
  | _, _ => none⟩
def spec_l7Place.s : Spec := mkS [.con (.int .i64), .val] (fun k avs H => match avs, H with
  | [.con (.int .i64) a0, .v (.int .i64 a1)], [] => some (spec_l7Place.f k a0 a1)
  | _, _ => none) (fun r => (.v (.int .i64 r), []))
def spec_l7Place.E : Env := []
def spec_l7Place.G6 (k : Nat) (avs : List AV) (H : List HE) : Option (Int) := match avs, H with
  | [.con (.int .i64) x0, .v (.int .i64 x1), .v (.int .i64 x5)], [] => spec_l7Place.p6 k x0 x1 x5
  | _, _ => none
def spec_l7Place.G (k p : Nat) (avs : List AV) (H : List HE) : Option (Int) := (pick1 6 (spec_l7Place.G6 k avs H) none p)
set_option maxRecDepth 100000 in
theorem spec_l7Place.eq (k : Nat) (a0 : List Int) (a1 : Int) : fromTop Tryz.prog spec_l7Place.E k spec_l7Place.a (spec_l7Place.G k) 1000 (bodyOf Tryz.prog 32) [.con (.int .i64) a0, .v (.int .i64 a1)] [] = spec_l7Place.f k a0 a1 := by kernel_rfl
set_option maxRecDepth 100000 in
theorem spec_l7Place.eq6 (k : Nat) (x0 : List Int) (x1 : Int) (x5 : Int) : fromPt Tryz.prog spec_l7Place.E k spec_l7Place.a (spec_l7Place.G k) 1000 (bodyOf Tryz.prog 32) 6 [.con (.int .i64) x0, .v (.int .i64 x1), .v (.int .i64 x5)] [] = spec_l7Place.p6 (k + 1) x0 x1 x5 := by kernel_rfl
theorem spec_l7Place.G6_0 {avs : List AV} {H : List HE} : spec_l7Place.G6 0 avs H = none := by unfold spec_l7Place.G6; split <;> rfl
theorem spec_l7Place.G6_s (k : Nat) {avs : List AV} {H : List HE} {x : Int} (h : spec_l7Place.G6 (k + 1) avs H = some x) : fromPt Tryz.prog spec_l7Place.E k spec_l7Place.a (spec_l7Place.G k) 1000 (bodyOf Tryz.prog 32) 6 avs H = some x := by
  unfold spec_l7Place.G6 at h
  split at h
  · rw [← h]; exact spec_l7Place.eq6 _ _ _ _
  · cases h
theorem spec_l7Place.E_ok : EnvOk Tryz.prog spec_l7Place.E := trivial
theorem spec_l7Place.sound : Sound Tryz.prog 32 spec_l7Place.s := by
  refine func_sound (f := spec_l7Place.a) (G := spec_l7Place.G) (fn := Tryz.f32) (body := bodyOf Tryz.prog 32) 1000 (by kernel_rfl) spec_l7Place.E_ok Tryz.func32 (by kernel_rfl) (by kernel_rfl) (by kernel_rfl) (ptsOk_of (by kernel_rfl)) ?_ ?_ ?_ ?_
  · intro r H x h
    unfold spec_l7Place.a at h
    simp only at h
    split at h
    · cases h; rfl
    · cases h
  · exact fun q avs H => pick1_none spec_l7Place.G6_0 (rfl)
  · intro k q pt avs H x _ h
    rcases pick1_some h with ⟨rfl, h⟩ | h
    · exact spec_l7Place.G6_s _ h
    cases h
  · intro k avs H o h
    try dsimp only at h
    split at h
    · cases h; exact spec_l7Place.eq _ _ _
    · cases h

def spec_RunOf.a : FnA (Int) := ⟨11, [.tmp 2], .val, [], [], fun x H => match x, H with
  | .v (.int .i64 r), [] => some r
  | _, _ => none⟩
def spec_RunOf.s : Spec := mkS [.val] (fun k avs H => match avs, H with
  | [.v (.string a0)], [] => some (spec_RunOf.f k a0)
  | _, _ => none) (fun r => (.v (.int .i64 r), []))
def spec_RunOf.E : Env := [((53, []), spec_l3Type.s)]
def spec_RunOf.G (k p : Nat) (avs : List AV) (H : List HE) : Option (Int) := none
set_option maxRecDepth 100000 in
theorem spec_RunOf.eq (k : Nat) (a0 : ByteArray) : fromTop Tryz.prog spec_RunOf.E k spec_RunOf.a (spec_RunOf.G k) 1000 (bodyOf Tryz.prog 34) [.v (.string a0)] [] = spec_RunOf.f k a0 := by kernel_rfl
theorem spec_RunOf.E_ok : EnvOk Tryz.prog spec_RunOf.E := ⟨⟨spec_l3Type.sound, callable_of (by kernel_rfl)⟩, trivial⟩
theorem spec_RunOf.sound : Sound Tryz.prog 34 spec_RunOf.s := by
  refine func_sound (f := spec_RunOf.a) (G := spec_RunOf.G) (fn := Tryz.f34) (body := bodyOf Tryz.prog 34) 1000 (by kernel_rfl) spec_RunOf.E_ok Tryz.func34 (by kernel_rfl) (by kernel_rfl) (by kernel_rfl) (ptsOk_of (by kernel_rfl)) ?_ ?_ ?_ ?_
  · intro r H x h
    unfold spec_RunOf.a at h
    simp only at h
    split at h
    · cases h; rfl
    · cases h
  · intro q avs H; rfl
  · intro k q pt avs H x _ h; cases h
  · intro k avs H o h
    try dsimp only at h
    split at h
    · cases h; exact spec_RunOf.eq _ _
    · cases h

def spec_ObjOk.a : FnA (Bool) := ⟨54, [.tmp 4], .bool, [], [⟨14, [0, 3, 5], [.con .str, .box [.val, .con (.int .i64)], .val], []⟩], fun x H => match x, H with
  | .bs false r, [] => some r
  | _, _ => none⟩
def spec_ObjOk.s : Spec := mkS [.con .str, .agg [.val, .con (.int .i64)]] (fun k avs H => match avs, H with
  | [.con .str a0, .agg [.v (.int .i64 a1_0), .con (.int .i64) a1_1]], [] => some (spec_ObjOk.f k a0 a1_0 a1_1)
  | _, _ => none) (fun r => (.bs false r, []))
def spec_ObjOk.E : Env := [((67, []), spec_TypesOk.s), ((66, []), spec_l1In.s), ((68, []), spec_RefKind.s)]
def spec_ObjOk.G14 (k : Nat) (avs : List AV) (H : List HE) : Option (Bool) := match avs, H with
  | [.con .str x0, .box 0 0, .v (.int .i64 x5)], [.box [.v (.int .i64 x3_0), .con (.int .i64) x3_1]] => spec_ObjOk.p14 k x0 x3_0 x3_1 x5
  | _, _ => none
def spec_ObjOk.G (k p : Nat) (avs : List AV) (H : List HE) : Option (Bool) := (pick1 14 (spec_ObjOk.G14 k avs H) none p)
set_option maxRecDepth 100000 in
theorem spec_ObjOk.eq (k : Nat) (a0 : List ByteArray) (a1_0 : Int) (a1_1 : List Int) : fromTop Tryz.prog spec_ObjOk.E k spec_ObjOk.a (spec_ObjOk.G k) 1000 (bodyOf Tryz.prog 95) [.con .str a0, .agg [.v (.int .i64 a1_0), .con (.int .i64) a1_1]] [] = spec_ObjOk.f k a0 a1_0 a1_1 := by kernel_rfl
set_option maxRecDepth 100000 in
theorem spec_ObjOk.eq14 (k : Nat) (x0 : List ByteArray) (x3_0 : Int) (x3_1 : List Int) (x5 : Int) : fromPt Tryz.prog spec_ObjOk.E k spec_ObjOk.a (spec_ObjOk.G k) 1000 (bodyOf Tryz.prog 95) 14 [.con .str x0, .box 0 0, .v (.int .i64 x5)] [.box [.v (.int .i64 x3_0), .con (.int .i64) x3_1]] = spec_ObjOk.p14 (k + 1) x0 x3_0 x3_1 x5 := by kernel_rfl
theorem spec_ObjOk.G14_0 {avs : List AV} {H : List HE} : spec_ObjOk.G14 0 avs H = none := by unfold spec_ObjOk.G14; split <;> rfl
theorem spec_ObjOk.G14_s (k : Nat) {avs : List AV} {H : List HE} {x : Bool} (h : spec_ObjOk.G14 (k + 1) avs H = some x) : fromPt Tryz.prog spec_ObjOk.E k spec_ObjOk.a (spec_ObjOk.G k) 1000 (bodyOf Tryz.prog 95) 14 avs H = some x := by
  unfold spec_ObjOk.G14 at h
  split at h
  · rw [← h]; exact spec_ObjOk.eq14 _ _ _ _ _
  · cases h
theorem spec_ObjOk.E_ok : EnvOk Tryz.prog spec_ObjOk.E := ⟨⟨spec_TypesOk.sound, callable_of (by kernel_rfl)⟩, ⟨spec_l1In.sound, callable_of (by kernel_rfl)⟩, ⟨spec_RefKind.sound, callable_of (by kernel_rfl)⟩, trivial⟩
theorem spec_ObjOk.sound : Sound Tryz.prog 95 spec_ObjOk.s := by
  refine func_sound (f := spec_ObjOk.a) (G := spec_ObjOk.G) (fn := Tryz.f95) (body := bodyOf Tryz.prog 95) 1000 (by kernel_rfl) spec_ObjOk.E_ok Tryz.func95 (by kernel_rfl) (by kernel_rfl) (by kernel_rfl) (ptsOk_of (by kernel_rfl)) ?_ ?_ ?_ ?_
  · intro r H x h
    unfold spec_ObjOk.a at h
    simp only at h
    split at h
    · cases h; rfl
    · cases h
  · exact fun q avs H => pick1_none spec_ObjOk.G14_0 (rfl)
  · intro k q pt avs H x _ h
    rcases pick1_some h with ⟨rfl, h⟩ | h
    · exact spec_ObjOk.G14_s _ h
    cases h
  · intro k avs H o h
    try dsimp only at h
    split at h
    · cases h; exact spec_ObjOk.eq _ _ _ _
    · cases h

def spec_WordBytes.a : FnA (ByteArray) := ⟨23, [.tmp 2], .val, [], [⟨8, [0, 3, 4], [.val, .row 5 (.int .u8), .val], []⟩], fun x H => match x, H with
  | .v (.string r), [] => some r
  | _, _ => none⟩
def spec_WordBytes.s : Spec := mkS [.val] (fun k avs H => match avs, H with
  | [.v (.int .i64 a0)], [] => some (spec_WordBytes.f k a0)
  | _, _ => none) (fun r => (.v (.string r), []))
def spec_WordBytes.E : Env := []
def spec_WordBytes.G8 (k : Nat) (avs : List AV) (H : List HE) : Option (ByteArray) := match avs, H with
  | [.v (.int .i64 x0), .own 0, .v (.int .i64 x4)], [.row 5 (.int .u8) x3] => spec_WordBytes.p8 k x0 x3 x4
  | _, _ => none
def spec_WordBytes.G (k p : Nat) (avs : List AV) (H : List HE) : Option (ByteArray) := (pick1 8 (spec_WordBytes.G8 k avs H) none p)
set_option maxRecDepth 100000 in
theorem spec_WordBytes.eq (k : Nat) (a0 : Int) : fromTop Tryz.prog spec_WordBytes.E k spec_WordBytes.a (spec_WordBytes.G k) 1000 (bodyOf Tryz.prog 96) [.v (.int .i64 a0)] [] = spec_WordBytes.f k a0 := by kernel_rfl
set_option maxRecDepth 100000 in
theorem spec_WordBytes.eq8 (k : Nat) (x0 : Int) (x3 : List Int) (x4 : Int) : fromPt Tryz.prog spec_WordBytes.E k spec_WordBytes.a (spec_WordBytes.G k) 1000 (bodyOf Tryz.prog 96) 8 [.v (.int .i64 x0), .own 0, .v (.int .i64 x4)] [.row 5 (.int .u8) x3] = spec_WordBytes.p8 (k + 1) x0 x3 x4 := by kernel_rfl
theorem spec_WordBytes.G8_0 {avs : List AV} {H : List HE} : spec_WordBytes.G8 0 avs H = none := by unfold spec_WordBytes.G8; split <;> rfl
theorem spec_WordBytes.G8_s (k : Nat) {avs : List AV} {H : List HE} {x : ByteArray} (h : spec_WordBytes.G8 (k + 1) avs H = some x) : fromPt Tryz.prog spec_WordBytes.E k spec_WordBytes.a (spec_WordBytes.G k) 1000 (bodyOf Tryz.prog 96) 8 avs H = some x := by
  unfold spec_WordBytes.G8 at h
  split at h
  · rw [← h]; exact spec_WordBytes.eq8 _ _ _ _
  · cases h
theorem spec_WordBytes.E_ok : EnvOk Tryz.prog spec_WordBytes.E := trivial
theorem spec_WordBytes.sound : Sound Tryz.prog 96 spec_WordBytes.s := by
  refine func_sound (f := spec_WordBytes.a) (G := spec_WordBytes.G) (fn := Tryz.f96) (body := bodyOf Tryz.prog 96) 1000 (by kernel_rfl) spec_WordBytes.E_ok Tryz.func96 (by kernel_rfl) (by kernel_rfl) (by kernel_rfl) (ptsOk_of (by kernel_rfl)) ?_ ?_ ?_ ?_
  · intro r H x h
    unfold spec_WordBytes.a at h
    simp only at h
    split at h
    · cases h; rfl
    · cases h
  · exact fun q avs H => pick1_none spec_WordBytes.G8_0 (rfl)
  · intro k q pt avs H x _ h
    rcases pick1_some h with ⟨rfl, h⟩ | h
    · exact spec_WordBytes.G8_s _ h
    cases h
  · intro k avs H o h
    try dsimp only at h
    split at h
    · cases h; exact spec_WordBytes.eq _ _
    · cases h

def spec_l1Zeros.a : FnA (ByteArray) := ⟨6, [.tmp 2], .val, [], [], fun x H => match x, H with
  | .v (.string r), [] => some r
  | _, _ => none⟩
def spec_l1Zeros.s : Spec := mkS [.val] (fun k avs H => match avs, H with
  | [.v (.int .i64 a0)], [] => some (spec_l1Zeros.f a0)
  | _, _ => none) (fun r => (.v (.string r), []))
def spec_l1Zeros.E : Env := []
def spec_l1Zeros.G (k p : Nat) (avs : List AV) (H : List HE) : Option (ByteArray) := none
set_option maxRecDepth 100000 in
theorem spec_l1Zeros.eq (k : Nat) (a0 : Int) : fromTop Tryz.prog spec_l1Zeros.E k spec_l1Zeros.a (spec_l1Zeros.G k) 1000 (bodyOf Tryz.prog 97) [.v (.int .i64 a0)] [] = spec_l1Zeros.f a0 := by kernel_rfl
theorem spec_l1Zeros.E_ok : EnvOk Tryz.prog spec_l1Zeros.E := trivial
theorem spec_l1Zeros.sound : Sound Tryz.prog 97 spec_l1Zeros.s := by
  refine func_sound (f := spec_l1Zeros.a) (G := spec_l1Zeros.G) (fn := Tryz.f97) (body := bodyOf Tryz.prog 97) 1000 (by kernel_rfl) spec_l1Zeros.E_ok Tryz.func97 (by kernel_rfl) (by kernel_rfl) (by kernel_rfl) (ptsOk_of (by kernel_rfl)) ?_ ?_ ?_ ?_
  · intro r H x h
    unfold spec_l1Zeros.a at h
    simp only at h
    split at h
    · cases h; rfl
    · cases h
  · intro q avs H; rfl
  · intro k q pt avs H x _ h; cases h
  · intro k avs H o h
    try dsimp only at h
    split at h
    · cases h; exact spec_l1Zeros.eq _ _
    · cases h

def spec_ObjectBytes.a : FnA (ByteArray) := ⟨43, [.tmp 4], .val, [], [⟨16, [0, 3, 5, 6], [.con .str, .box [.val, .con (.int .i64)], .val, .val], []⟩], fun x H => match x, H with
  | .v (.string r), [] => some r
  | _, _ => none⟩
def spec_ObjectBytes.s : Spec := mkS [.con .str, .agg [.val, .con (.int .i64)]] (fun k avs H => match avs, H with
  | [.con .str a0, .agg [.v (.int .i64 a1_0), .con (.int .i64) a1_1]], [] => some (spec_ObjectBytes.f k a0 a1_0 a1_1)
  | _, _ => none) (fun r => (.v (.string r), []))
def spec_ObjectBytes.E : Env := [((95, []), spec_ObjOk.s), ((96, []), spec_WordBytes.s), ((34, []), spec_RunOf.s), ((97, []), spec_l1Zeros.s)]
def spec_ObjectBytes.G16 (k : Nat) (avs : List AV) (H : List HE) : Option (ByteArray) := match avs, H with
  | [.con .str x0, .box 0 0, .v (.string x5), .v (.int .i64 x6)], [.box [.v (.int .i64 x3_0), .con (.int .i64) x3_1]] => spec_ObjectBytes.p16 k x0 x3_0 x3_1 x5 x6
  | _, _ => none
def spec_ObjectBytes.G (k p : Nat) (avs : List AV) (H : List HE) : Option (ByteArray) := (pick1 16 (spec_ObjectBytes.G16 k avs H) none p)
set_option maxRecDepth 100000 in
theorem spec_ObjectBytes.eq (k : Nat) (a0 : List ByteArray) (a1_0 : Int) (a1_1 : List Int) : fromTop Tryz.prog spec_ObjectBytes.E k spec_ObjectBytes.a (spec_ObjectBytes.G k) 1000 (bodyOf Tryz.prog 84) [.con .str a0, .agg [.v (.int .i64 a1_0), .con (.int .i64) a1_1]] [] = spec_ObjectBytes.f k a0 a1_0 a1_1 := by kernel_rfl
set_option maxRecDepth 100000 in
theorem spec_ObjectBytes.eq16 (k : Nat) (x0 : List ByteArray) (x3_0 : Int) (x3_1 : List Int) (x5 : ByteArray) (x6 : Int) : fromPt Tryz.prog spec_ObjectBytes.E k spec_ObjectBytes.a (spec_ObjectBytes.G k) 1000 (bodyOf Tryz.prog 84) 16 [.con .str x0, .box 0 0, .v (.string x5), .v (.int .i64 x6)] [.box [.v (.int .i64 x3_0), .con (.int .i64) x3_1]] = spec_ObjectBytes.p16 (k + 1) x0 x3_0 x3_1 x5 x6 := by kernel_rfl
theorem spec_ObjectBytes.G16_0 {avs : List AV} {H : List HE} : spec_ObjectBytes.G16 0 avs H = none := by unfold spec_ObjectBytes.G16; split <;> rfl
theorem spec_ObjectBytes.G16_s (k : Nat) {avs : List AV} {H : List HE} {x : ByteArray} (h : spec_ObjectBytes.G16 (k + 1) avs H = some x) : fromPt Tryz.prog spec_ObjectBytes.E k spec_ObjectBytes.a (spec_ObjectBytes.G k) 1000 (bodyOf Tryz.prog 84) 16 avs H = some x := by
  unfold spec_ObjectBytes.G16 at h
  split at h
  · rw [← h]; exact spec_ObjectBytes.eq16 _ _ _ _ _ _
  · cases h
theorem spec_ObjectBytes.E_ok : EnvOk Tryz.prog spec_ObjectBytes.E := ⟨⟨spec_ObjOk.sound, callable_of (by kernel_rfl)⟩, ⟨spec_WordBytes.sound, callable_of (by kernel_rfl)⟩, ⟨spec_RunOf.sound, callable_of (by kernel_rfl)⟩, ⟨spec_l1Zeros.sound, callable_of (by kernel_rfl)⟩, trivial⟩
theorem spec_ObjectBytes.sound : Sound Tryz.prog 84 spec_ObjectBytes.s := by
  refine func_sound (f := spec_ObjectBytes.a) (G := spec_ObjectBytes.G) (fn := Tryz.f84) (body := bodyOf Tryz.prog 84) 1000 (by kernel_rfl) spec_ObjectBytes.E_ok Tryz.func84 (by kernel_rfl) (by kernel_rfl) (by kernel_rfl) (ptsOk_of (by kernel_rfl)) ?_ ?_ ?_ ?_
  · intro r H x h
    unfold spec_ObjectBytes.a at h
    simp only at h
    split at h
    · cases h; rfl
    · cases h
  · exact fun q avs H => pick1_none spec_ObjectBytes.G16_0 (rfl)
  · intro k q pt avs H x _ h
    rcases pick1_some h with ⟨rfl, h⟩ | h
    · exact spec_ObjectBytes.G16_s _ h
    cases h
  · intro k avs H o h
    try dsimp only at h
    split at h
    · cases h; exact spec_ObjectBytes.eq _ _ _ _
    · cases h

def spec_ReadObject.a : FnA (Int × List Int × Bool) := ⟨83, [.cell 4 46, .tmp 5], .tup [.agg [.val, .row 2 (.int .i64)], .bool], [], [⟨5, [0, 1, 4, 19], [.con .str, .val, .box [.val, .val], .bool], []⟩, ⟨26, [0, 1, 4, 6, 8, 9], [.con .str, .val, .box [.val, .val], .val, .box [.val, .row 2 (.int .i64)], .val], []⟩], fun x H => match x, H with
  | .tup [.agg [.v (.int .i64 r_0_0), .own 0], .bs false r_1], [.row 2 (.int .i64) r_0_1] => some (r_0_0, r_0_1, r_1)
  | _, _ => none⟩
def spec_ReadObject.s : Spec := mkS [.con .str, .val] (fun k avs H => match avs, H with
  | [.con .str a0, .v (.string a1)], [] => some (spec_ReadObject.f k a0 a1)
  | _, _ => none) (fun r => (.tup [.agg [.v (.int .i64 r.1), .own 0], .bs false r.2.2], [.row 2 (.int .i64) r.2.1]))
def spec_ReadObject.E : Env := [((67, []), spec_TypesOk.s), ((70, []), spec_ReadWord.s), ((84, []), spec_ObjectBytes.s), ((66, []), spec_l1In.s), ((34, []), spec_RunOf.s)]
def spec_ReadObject.G5 (k : Nat) (avs : List AV) (H : List HE) : Option (Int × List Int × Bool) := match avs, H with
  | [.con .str x0, .v (.string x1), .box 0 0, .bs false x19], [.box [.v (.int .i64 x4_0), .v (.slice none 0 0)]] => spec_ReadObject.p5 k x0 x1 x4_0 x19
  | _, _ => none
def spec_ReadObject.G26 (k : Nat) (avs : List AV) (H : List HE) : Option (Int × List Int × Bool) := match avs, H with
  | [.con .str x0, .v (.string x1), .box 0 0, .v (.int .i64 x6), .box 1 0, .v (.int .i64 x9)], [.box [.v (.int .i64 x4_0), .v (.slice none 0 0)], .box [.v (.int .i64 x8_0), .own 2], .row 2 (.int .i64) x8_1] => spec_ReadObject.p26 k x0 x1 x4_0 x6 x8_0 x8_1 x9
  | _, _ => none
def spec_ReadObject.G (k p : Nat) (avs : List AV) (H : List HE) : Option (Int × List Int × Bool) := (pick1 5 (spec_ReadObject.G5 k avs H) (pick1 26 (spec_ReadObject.G26 k avs H) none p) p)
set_option maxRecDepth 100000 in
theorem spec_ReadObject.eq (k : Nat) (a0 : List ByteArray) (a1 : ByteArray) : fromTop Tryz.prog spec_ReadObject.E k spec_ReadObject.a (spec_ReadObject.G k) 1000 (bodyOf Tryz.prog 71) [.con .str a0, .v (.string a1)] [] = spec_ReadObject.f k a0 a1 := by kernel_rfl
set_option maxRecDepth 100000 in
theorem spec_ReadObject.eq5 (k : Nat) (x0 : List ByteArray) (x1 : ByteArray) (x4_0 : Int) (x19 : Bool) : fromPt Tryz.prog spec_ReadObject.E k spec_ReadObject.a (spec_ReadObject.G k) 1000 (bodyOf Tryz.prog 71) 5 [.con .str x0, .v (.string x1), .box 0 0, .bs false x19] [.box [.v (.int .i64 x4_0), .v (.slice none 0 0)]] = spec_ReadObject.p5 (k + 1) x0 x1 x4_0 x19 := by kernel_rfl
theorem spec_ReadObject.G5_0 {avs : List AV} {H : List HE} : spec_ReadObject.G5 0 avs H = none := by unfold spec_ReadObject.G5; split <;> rfl
theorem spec_ReadObject.G5_s (k : Nat) {avs : List AV} {H : List HE} {x : Int × List Int × Bool} (h : spec_ReadObject.G5 (k + 1) avs H = some x) : fromPt Tryz.prog spec_ReadObject.E k spec_ReadObject.a (spec_ReadObject.G k) 1000 (bodyOf Tryz.prog 71) 5 avs H = some x := by
  unfold spec_ReadObject.G5 at h
  split at h
  · rw [← h]; exact spec_ReadObject.eq5 _ _ _ _ _
  · cases h
set_option maxRecDepth 100000 in
theorem spec_ReadObject.eq26 (k : Nat) (x0 : List ByteArray) (x1 : ByteArray) (x4_0 : Int) (x6 : Int) (x8_0 : Int) (x8_1 : List Int) (x9 : Int) : fromPt Tryz.prog spec_ReadObject.E k spec_ReadObject.a (spec_ReadObject.G k) 1000 (bodyOf Tryz.prog 71) 26 [.con .str x0, .v (.string x1), .box 0 0, .v (.int .i64 x6), .box 1 0, .v (.int .i64 x9)] [.box [.v (.int .i64 x4_0), .v (.slice none 0 0)], .box [.v (.int .i64 x8_0), .own 2], .row 2 (.int .i64) x8_1] = spec_ReadObject.p26 (k + 1) x0 x1 x4_0 x6 x8_0 x8_1 x9 := by kernel_rfl
theorem spec_ReadObject.G26_0 {avs : List AV} {H : List HE} : spec_ReadObject.G26 0 avs H = none := by unfold spec_ReadObject.G26; split <;> rfl
theorem spec_ReadObject.G26_s (k : Nat) {avs : List AV} {H : List HE} {x : Int × List Int × Bool} (h : spec_ReadObject.G26 (k + 1) avs H = some x) : fromPt Tryz.prog spec_ReadObject.E k spec_ReadObject.a (spec_ReadObject.G k) 1000 (bodyOf Tryz.prog 71) 26 avs H = some x := by
  unfold spec_ReadObject.G26 at h
  split at h
  · rw [← h]; exact spec_ReadObject.eq26 _ _ _ _ _ _ _ _
  · cases h
theorem spec_ReadObject.E_ok : EnvOk Tryz.prog spec_ReadObject.E := ⟨⟨spec_TypesOk.sound, callable_of (by kernel_rfl)⟩, ⟨spec_ReadWord.sound, callable_of (by kernel_rfl)⟩, ⟨spec_ObjectBytes.sound, callable_of (by kernel_rfl)⟩, ⟨spec_l1In.sound, callable_of (by kernel_rfl)⟩, ⟨spec_RunOf.sound, callable_of (by kernel_rfl)⟩, trivial⟩
theorem spec_ReadObject.sound : Sound Tryz.prog 71 spec_ReadObject.s := by
  refine func_sound (f := spec_ReadObject.a) (G := spec_ReadObject.G) (fn := Tryz.f71) (body := bodyOf Tryz.prog 71) 1000 (by kernel_rfl) spec_ReadObject.E_ok Tryz.func71 (by kernel_rfl) (by kernel_rfl) (by kernel_rfl) (ptsOk_of (by kernel_rfl)) ?_ ?_ ?_ ?_
  · intro r H x h
    unfold spec_ReadObject.a at h
    simp only at h
    split at h
    · cases h; rfl
    · cases h
  · exact fun q avs H => pick1_none spec_ReadObject.G5_0 (pick1_none spec_ReadObject.G26_0 (rfl))
  · intro k q pt avs H x _ h
    rcases pick1_some h with ⟨rfl, h⟩ | h
    · exact spec_ReadObject.G5_s _ h
    rcases pick1_some h with ⟨rfl, h⟩ | h
    · exact spec_ReadObject.G26_s _ h
    cases h
  · intro k avs H o h
    try dsimp only at h
    split at h
    · cases h; exact spec_ReadObject.eq _ _ _
    · cases h

def spec_l10Obj.a : FnA (Int × List Int × Bool) := ⟨46, [.cell 6 46, .tmp 7], .tup [.agg [.val, .row 2 (.int .i64)], .bool], [], [], fun x H => match x, H with
  | .tup [.agg [.v (.int .i64 r_0_0), .own 0], .bs false r_1], [.row 2 (.int .i64) r_0_1] => some (r_0_0, r_0_1, r_1)
  | _, _ => none⟩
def spec_l10Obj.s : Spec := mkS [.agg [.val, .val, .val, .con .str], .val, .val] (fun k avs H => match avs, H with
  | [.agg [.v (.int .i64 a0_0), .v (.int .i64 a0_1), .v (.int .i64 a0_2), .con .str a0_3], .v (.string a1), .v (.int .i64 a2)], [] => some (spec_l10Obj.f k a0_0 a0_1 a0_2 a0_3 a1 a2)
  | _, _ => none) (fun r => (.tup [.agg [.v (.int .i64 r.1), .own 0], .bs false r.2.2], [.row 2 (.int .i64) r.2.1]))
def spec_l10Obj.E : Env := [((51, []), spec_l9Word.s), ((66, []), spec_l1In.s), ((34, []), spec_RunOf.s), ((71, []), spec_ReadObject.s)]
def spec_l10Obj.G (k p : Nat) (avs : List AV) (H : List HE) : Option (Int × List Int × Bool) := none
set_option maxRecDepth 100000 in
theorem spec_l10Obj.eq (k : Nat) (a0_0 : Int) (a0_1 : Int) (a0_2 : Int) (a0_3 : List ByteArray) (a1 : ByteArray) (a2 : Int) : fromTop Tryz.prog spec_l10Obj.E k spec_l10Obj.a (spec_l10Obj.G k) 1000 (bodyOf Tryz.prog 52) [.agg [.v (.int .i64 a0_0), .v (.int .i64 a0_1), .v (.int .i64 a0_2), .con .str a0_3], .v (.string a1), .v (.int .i64 a2)] [] = spec_l10Obj.f k a0_0 a0_1 a0_2 a0_3 a1 a2 := by kernel_rfl
theorem spec_l10Obj.E_ok : EnvOk Tryz.prog spec_l10Obj.E := ⟨⟨spec_l9Word.sound, callable_of (by kernel_rfl)⟩, ⟨spec_l1In.sound, callable_of (by kernel_rfl)⟩, ⟨spec_RunOf.sound, callable_of (by kernel_rfl)⟩, ⟨spec_ReadObject.sound, callable_of (by kernel_rfl)⟩, trivial⟩
theorem spec_l10Obj.sound : Sound Tryz.prog 52 spec_l10Obj.s := by
  refine func_sound (f := spec_l10Obj.a) (G := spec_l10Obj.G) (fn := Tryz.f52) (body := bodyOf Tryz.prog 52) 1000 (by kernel_rfl) spec_l10Obj.E_ok Tryz.func52 (by kernel_rfl) (by kernel_rfl) (by kernel_rfl) (ptsOk_of (by kernel_rfl)) ?_ ?_ ?_ ?_
  · intro r H x h
    unfold spec_l10Obj.a at h
    simp only at h
    split at h
    · cases h; rfl
    · cases h
  · intro q avs H; rfl
  · intro k q pt avs H x _ h; cases h
  · intro k avs H o h
    try dsimp only at h
    split at h
    · cases h; exact spec_l10Obj.eq _ _ _ _ _ _ _
    · cases h

def spec_l10Old.a : FnA (Int × List Int × Bool) := ⟨49, [.cell 6 46, .tmp 7], .tup [.agg [.val, .row 2 (.int .i64)], .bool], [], [⟨16, [3, 6, 8, 10], [.box [.val, .val, .val, .con .str], .box [.val, .val], .box [.val, .row 2 (.int .i64)], .val], []⟩], fun x H => match x, H with
  | .tup [.agg [.v (.int .i64 r_0_0), .own 0], .bs false r_1], [.row 2 (.int .i64) r_0_1] => some (r_0_0, r_0_1, r_1)
  | _, _ => none⟩
def spec_l10Old.s : Spec := mkS [.agg [.val, .val, .val, .con .str], .val, .val] (fun k avs H => match avs, H with
  | [.agg [.v (.int .i64 a0_0), .v (.int .i64 a0_1), .v (.int .i64 a0_2), .con .str a0_3], .v (.string a1), .v (.int .i64 a2)], [] => some (spec_l10Old.f k a0_0 a0_1 a0_2 a0_3 a1 a2)
  | _, _ => none) (fun r => (.tup [.agg [.v (.int .i64 r.1), .own 0], .bs false r.2.2], [.row 2 (.int .i64) r.2.1]))
def spec_l10Old.E : Env := [((52, []), spec_l10Obj.s), ((50, []), spec_l10Ref.s)]
def spec_l10Old.G16 (k : Nat) (avs : List AV) (H : List HE) : Option (Int × List Int × Bool) := match avs, H with
  | [.box 0 0, .box 1 0, .box 2 0, .v (.int .i64 x10)], [.box [.v (.int .i64 x3_0), .v (.int .i64 x3_1), .v (.int .i64 x3_2), .con .str x3_3], .box [.v (.int .i64 x6_0), .v (.slice none 0 0)], .box [.v (.int .i64 x8_0), .own 3], .row 2 (.int .i64) x8_1] => spec_l10Old.p16 k x3_0 x3_1 x3_2 x3_3 x6_0 x8_0 x8_1 x10
  | _, _ => none
def spec_l10Old.G (k p : Nat) (avs : List AV) (H : List HE) : Option (Int × List Int × Bool) := (pick1 16 (spec_l10Old.G16 k avs H) none p)
set_option maxRecDepth 100000 in
theorem spec_l10Old.eq (k : Nat) (a0_0 : Int) (a0_1 : Int) (a0_2 : Int) (a0_3 : List ByteArray) (a1 : ByteArray) (a2 : Int) : fromTop Tryz.prog spec_l10Old.E k spec_l10Old.a (spec_l10Old.G k) 1000 (bodyOf Tryz.prog 33) [.agg [.v (.int .i64 a0_0), .v (.int .i64 a0_1), .v (.int .i64 a0_2), .con .str a0_3], .v (.string a1), .v (.int .i64 a2)] [] = spec_l10Old.f k a0_0 a0_1 a0_2 a0_3 a1 a2 := by kernel_rfl
set_option maxRecDepth 100000 in
theorem spec_l10Old.eq16 (k : Nat) (x3_0 : Int) (x3_1 : Int) (x3_2 : Int) (x3_3 : List ByteArray) (x6_0 : Int) (x8_0 : Int) (x8_1 : List Int) (x10 : Int) : fromPt Tryz.prog spec_l10Old.E k spec_l10Old.a (spec_l10Old.G k) 1000 (bodyOf Tryz.prog 33) 16 [.box 0 0, .box 1 0, .box 2 0, .v (.int .i64 x10)] [.box [.v (.int .i64 x3_0), .v (.int .i64 x3_1), .v (.int .i64 x3_2), .con .str x3_3], .box [.v (.int .i64 x6_0), .v (.slice none 0 0)], .box [.v (.int .i64 x8_0), .own 3], .row 2 (.int .i64) x8_1] = spec_l10Old.p16 (k + 1) x3_0 x3_1 x3_2 x3_3 x6_0 x8_0 x8_1 x10 := by kernel_rfl
theorem spec_l10Old.G16_0 {avs : List AV} {H : List HE} : spec_l10Old.G16 0 avs H = none := by unfold spec_l10Old.G16; split <;> rfl
theorem spec_l10Old.G16_s (k : Nat) {avs : List AV} {H : List HE} {x : Int × List Int × Bool} (h : spec_l10Old.G16 (k + 1) avs H = some x) : fromPt Tryz.prog spec_l10Old.E k spec_l10Old.a (spec_l10Old.G k) 1000 (bodyOf Tryz.prog 33) 16 avs H = some x := by
  unfold spec_l10Old.G16 at h
  split at h
  · rw [← h]; exact spec_l10Old.eq16 _ _ _ _ _ _ _ _ _
  · cases h
theorem spec_l10Old.E_ok : EnvOk Tryz.prog spec_l10Old.E := ⟨⟨spec_l10Obj.sound, callable_of (by kernel_rfl)⟩, ⟨spec_l10Ref.sound, callable_of (by kernel_rfl)⟩, trivial⟩
theorem spec_l10Old.sound : Sound Tryz.prog 33 spec_l10Old.s := by
  refine func_sound (f := spec_l10Old.a) (G := spec_l10Old.G) (fn := Tryz.f33) (body := bodyOf Tryz.prog 33) 1000 (by kernel_rfl) spec_l10Old.E_ok Tryz.func33 (by kernel_rfl) (by kernel_rfl) (by kernel_rfl) (ptsOk_of (by kernel_rfl)) ?_ ?_ ?_ ?_
  · intro r H x h
    unfold spec_l10Old.a at h
    simp only at h
    split at h
    · cases h; rfl
    · cases h
  · exact fun q avs H => pick1_none spec_l10Old.G16_0 (rfl)
  · intro k q pt avs H x _ h
    rcases pick1_some h with ⟨rfl, h⟩ | h
    · exact spec_l10Old.G16_s _ h
    cases h
  · intro k avs H o h
    try dsimp only at h
    split at h
    · cases h; exact spec_l10Old.eq _ _ _ _ _ _ _
    · cases h

def spec_l10Find.a : FnA (List Int × List (Int × List Int) × Bool) := ⟨147, [.tmp 6, .tmp 7, .tmp 8], .tup [.row 2 (.int .i64), .tre 0 46 2 (.pair (.int .i64) (.sl (.int .i64))), .bool], [], [⟨8, [1, 2, 3, 9, 10], [.val, .con (.int .i64), .box [.val, .val, .val, .con .str], .row 2 (.int .i64), .val], []⟩, ⟨31, [1, 3, 9, 11, 12, 13], [.val, .box [.val, .val, .val, .con .str], .row 2 (.int .i64), .tre 0 46 2 (.pair (.int .i64) (.sl (.int .i64))), .row 2 (.int .i64), .val], []⟩, ⟨54, [1, 3, 9, 11, 12, 13, 14, 16], [.val, .box [.val, .val, .val, .con .str], .row 2 (.int .i64), .tre 0 46 2 (.pair (.int .i64) (.sl (.int .i64))), .row 2 (.int .i64), .val, .box [.val, .row 2 (.int .i64)], .val], []⟩, ⟨77, [1, 3, 9, 11, 12, 13, 14, 17], [.val, .box [.val, .val, .val, .con .str], .row 2 (.int .i64), .tre 0 46 2 (.pair (.int .i64) (.sl (.int .i64))), .row 2 (.int .i64), .val, .box [.val, .row 2 (.int .i64)], .val], []⟩, ⟨88, [1, 3, 9, 11, 12, 13, 14, 17, 131], [.val, .box [.val, .val, .val, .con .str], .row 2 (.int .i64), .tre 0 46 2 (.pair (.int .i64) (.sl (.int .i64))), .row 2 (.int .i64), .val, .box [.val, .row 2 (.int .i64)], .val, .bool], []⟩], fun x H => match x, H with
  | .tup [.own 0, .own 1, .bs false r_2], [.row 2 (.int .i64) r_0, .tre 0 none 46 2 (.pair (.int .i64) (.sl (.int .i64))) r_1 none] => some (r_0, r_1, r_2)
  | _, _ => none⟩
def spec_l10Find.s : Spec := mkS [.agg [.val, .val, .val, .con .str], .val, .con (.int .i64)] (fun k avs H => match avs, H with
  | [.agg [.v (.int .i64 a0_0), .v (.int .i64 a0_1), .v (.int .i64 a0_2), .con .str a0_3], .v (.string a1), .con (.int .i64) a2], [] => some (spec_l10Find.f k a0_0 a0_1 a0_2 a0_3 a1 a2)
  | _, _ => none) (fun r => (.tup [.own 0, .own 1, .bs false r.2.2], [.row 2 (.int .i64) r.1, .tre 0 none 46 2 (.pair (.int .i64) (.sl (.int .i64))) r.2.1 none]))
def spec_l10Find.E : Env := [((32, []), spec_l7Place.s), ((33, []), spec_l10Old.s), ((34, []), spec_RunOf.s)]
def spec_l10Find.G8 (k : Nat) (avs : List AV) (H : List HE) : Option (List Int × List (Int × List Int) × Bool) := match avs, H with
  | [.v (.string x1), .con (.int .i64) x2, .box 0 0, .own 1, .v (.int .i64 x10)], [.box [.v (.int .i64 x3_0), .v (.int .i64 x3_1), .v (.int .i64 x3_2), .con .str x3_3], .row 2 (.int .i64) x9] => spec_l10Find.p8 k x1 x2 x3_0 x3_1 x3_2 x3_3 x9 x10
  | _, _ => none
def spec_l10Find.G31 (k : Nat) (avs : List AV) (H : List HE) : Option (List Int × List (Int × List Int) × Bool) := match avs, H with
  | [.v (.string x1), .box 0 0, .own 1, .own 2, .own 3, .v (.int .i64 x13)], [.box [.v (.int .i64 x3_0), .v (.int .i64 x3_1), .v (.int .i64 x3_2), .con .str x3_3], .row 2 (.int .i64) x9, .tre 0 none 46 2 (.pair (.int .i64) (.sl (.int .i64))) x11 none, .row 2 (.int .i64) x12] => spec_l10Find.p31 k x1 x3_0 x3_1 x3_2 x3_3 x9 x11 x12 x13
  | _, _ => none
def spec_l10Find.G54 (k : Nat) (avs : List AV) (H : List HE) : Option (List Int × List (Int × List Int) × Bool) := match avs, H with
  | [.v (.string x1), .box 0 0, .own 1, .own 2, .own 3, .v (.int .i64 x13), .box 4 0, .v (.int .i64 x16)], [.box [.v (.int .i64 x3_0), .v (.int .i64 x3_1), .v (.int .i64 x3_2), .con .str x3_3], .row 2 (.int .i64) x9, .tre 0 none 46 2 (.pair (.int .i64) (.sl (.int .i64))) x11 none, .row 2 (.int .i64) x12, .box [.v (.int .i64 x14_0), .own 5], .row 2 (.int .i64) x14_1] => spec_l10Find.p54 k x1 x3_0 x3_1 x3_2 x3_3 x9 x11 x12 x13 x14_0 x14_1 x16
  | _, _ => none
def spec_l10Find.G77 (k : Nat) (avs : List AV) (H : List HE) : Option (List Int × List (Int × List Int) × Bool) := match avs, H with
  | [.v (.string x1), .box 0 0, .own 1, .own 2, .own 3, .v (.int .i64 x13), .box 4 0, .v (.int .i64 x17)], [.box [.v (.int .i64 x3_0), .v (.int .i64 x3_1), .v (.int .i64 x3_2), .con .str x3_3], .row 2 (.int .i64) x9, .tre 0 none 46 2 (.pair (.int .i64) (.sl (.int .i64))) x11 none, .row 2 (.int .i64) x12, .box [.v (.int .i64 x14_0), .own 5], .row 2 (.int .i64) x14_1] => spec_l10Find.p77 k x1 x3_0 x3_1 x3_2 x3_3 x9 x11 x12 x13 x14_0 x14_1 x17
  | _, _ => none
def spec_l10Find.G88 (k : Nat) (avs : List AV) (H : List HE) : Option (List Int × List (Int × List Int) × Bool) := match avs, H with
  | [.v (.string x1), .box 0 0, .own 1, .own 2, .own 3, .v (.int .i64 x13), .box 4 0, .v (.int .i64 x17), .bs false x131], [.box [.v (.int .i64 x3_0), .v (.int .i64 x3_1), .v (.int .i64 x3_2), .con .str x3_3], .row 2 (.int .i64) x9, .tre 0 none 46 2 (.pair (.int .i64) (.sl (.int .i64))) x11 none, .row 2 (.int .i64) x12, .box [.v (.int .i64 x14_0), .own 5], .row 2 (.int .i64) x14_1] => spec_l10Find.p88 k x1 x3_0 x3_1 x3_2 x3_3 x9 x11 x12 x13 x14_0 x14_1 x17 x131
  | _, _ => none
def spec_l10Find.G (k p : Nat) (avs : List AV) (H : List HE) : Option (List Int × List (Int × List Int) × Bool) := (pick1 8 (spec_l10Find.G8 k avs H) (pick1 31 (spec_l10Find.G31 k avs H) (pick1 54 (spec_l10Find.G54 k avs H) (pick1 77 (spec_l10Find.G77 k avs H) (pick1 88 (spec_l10Find.G88 k avs H) none p) p) p) p) p)
set_option maxRecDepth 100000 in
theorem spec_l10Find.eq (k : Nat) (a0_0 : Int) (a0_1 : Int) (a0_2 : Int) (a0_3 : List ByteArray) (a1 : ByteArray) (a2 : List Int) : fromTop Tryz.prog spec_l10Find.E k spec_l10Find.a (spec_l10Find.G k) 1000 (bodyOf Tryz.prog 15) [.agg [.v (.int .i64 a0_0), .v (.int .i64 a0_1), .v (.int .i64 a0_2), .con .str a0_3], .v (.string a1), .con (.int .i64) a2] [] = spec_l10Find.f k a0_0 a0_1 a0_2 a0_3 a1 a2 := by kernel_rfl
set_option maxRecDepth 100000 in
theorem spec_l10Find.eq8 (k : Nat) (x1 : ByteArray) (x2 : List Int) (x3_0 : Int) (x3_1 : Int) (x3_2 : Int) (x3_3 : List ByteArray) (x9 : List Int) (x10 : Int) : fromPt Tryz.prog spec_l10Find.E k spec_l10Find.a (spec_l10Find.G k) 1000 (bodyOf Tryz.prog 15) 8 [.v (.string x1), .con (.int .i64) x2, .box 0 0, .own 1, .v (.int .i64 x10)] [.box [.v (.int .i64 x3_0), .v (.int .i64 x3_1), .v (.int .i64 x3_2), .con .str x3_3], .row 2 (.int .i64) x9] = spec_l10Find.p8 (k + 1) x1 x2 x3_0 x3_1 x3_2 x3_3 x9 x10 := by kernel_rfl
theorem spec_l10Find.G8_0 {avs : List AV} {H : List HE} : spec_l10Find.G8 0 avs H = none := by unfold spec_l10Find.G8; split <;> rfl
theorem spec_l10Find.G8_s (k : Nat) {avs : List AV} {H : List HE} {x : List Int × List (Int × List Int) × Bool} (h : spec_l10Find.G8 (k + 1) avs H = some x) : fromPt Tryz.prog spec_l10Find.E k spec_l10Find.a (spec_l10Find.G k) 1000 (bodyOf Tryz.prog 15) 8 avs H = some x := by
  unfold spec_l10Find.G8 at h
  split at h
  · rw [← h]; exact spec_l10Find.eq8 _ _ _ _ _ _ _ _ _
  · cases h
set_option maxRecDepth 100000 in
theorem spec_l10Find.eq31 (k : Nat) (x1 : ByteArray) (x3_0 : Int) (x3_1 : Int) (x3_2 : Int) (x3_3 : List ByteArray) (x9 : List Int) (x11 : List (Int × List Int)) (x12 : List Int) (x13 : Int) : fromPt Tryz.prog spec_l10Find.E k spec_l10Find.a (spec_l10Find.G k) 1000 (bodyOf Tryz.prog 15) 31 [.v (.string x1), .box 0 0, .own 1, .own 2, .own 3, .v (.int .i64 x13)] [.box [.v (.int .i64 x3_0), .v (.int .i64 x3_1), .v (.int .i64 x3_2), .con .str x3_3], .row 2 (.int .i64) x9, .tre 0 none 46 2 (.pair (.int .i64) (.sl (.int .i64))) x11 none, .row 2 (.int .i64) x12] = spec_l10Find.p31 (k + 1) x1 x3_0 x3_1 x3_2 x3_3 x9 x11 x12 x13 := by kernel_rfl
theorem spec_l10Find.G31_0 {avs : List AV} {H : List HE} : spec_l10Find.G31 0 avs H = none := by unfold spec_l10Find.G31; split <;> rfl
theorem spec_l10Find.G31_s (k : Nat) {avs : List AV} {H : List HE} {x : List Int × List (Int × List Int) × Bool} (h : spec_l10Find.G31 (k + 1) avs H = some x) : fromPt Tryz.prog spec_l10Find.E k spec_l10Find.a (spec_l10Find.G k) 1000 (bodyOf Tryz.prog 15) 31 avs H = some x := by
  unfold spec_l10Find.G31 at h
  split at h
  · rw [← h]; exact spec_l10Find.eq31 _ _ _ _ _ _ _ _ _ _
  · cases h
set_option maxRecDepth 100000 in
theorem spec_l10Find.eq54 (k : Nat) (x1 : ByteArray) (x3_0 : Int) (x3_1 : Int) (x3_2 : Int) (x3_3 : List ByteArray) (x9 : List Int) (x11 : List (Int × List Int)) (x12 : List Int) (x13 : Int) (x14_0 : Int) (x14_1 : List Int) (x16 : Int) : fromPt Tryz.prog spec_l10Find.E k spec_l10Find.a (spec_l10Find.G k) 1000 (bodyOf Tryz.prog 15) 54 [.v (.string x1), .box 0 0, .own 1, .own 2, .own 3, .v (.int .i64 x13), .box 4 0, .v (.int .i64 x16)] [.box [.v (.int .i64 x3_0), .v (.int .i64 x3_1), .v (.int .i64 x3_2), .con .str x3_3], .row 2 (.int .i64) x9, .tre 0 none 46 2 (.pair (.int .i64) (.sl (.int .i64))) x11 none, .row 2 (.int .i64) x12, .box [.v (.int .i64 x14_0), .own 5], .row 2 (.int .i64) x14_1] = spec_l10Find.p54 (k + 1) x1 x3_0 x3_1 x3_2 x3_3 x9 x11 x12 x13 x14_0 x14_1 x16 := by kernel_rfl
theorem spec_l10Find.G54_0 {avs : List AV} {H : List HE} : spec_l10Find.G54 0 avs H = none := by unfold spec_l10Find.G54; split <;> rfl
theorem spec_l10Find.G54_s (k : Nat) {avs : List AV} {H : List HE} {x : List Int × List (Int × List Int) × Bool} (h : spec_l10Find.G54 (k + 1) avs H = some x) : fromPt Tryz.prog spec_l10Find.E k spec_l10Find.a (spec_l10Find.G k) 1000 (bodyOf Tryz.prog 15) 54 avs H = some x := by
  unfold spec_l10Find.G54 at h
  split at h
  · rw [← h]; exact spec_l10Find.eq54 _ _ _ _ _ _ _ _ _ _ _ _ _
  · cases h
set_option maxRecDepth 100000 in
theorem spec_l10Find.eq77 (k : Nat) (x1 : ByteArray) (x3_0 : Int) (x3_1 : Int) (x3_2 : Int) (x3_3 : List ByteArray) (x9 : List Int) (x11 : List (Int × List Int)) (x12 : List Int) (x13 : Int) (x14_0 : Int) (x14_1 : List Int) (x17 : Int) : fromPt Tryz.prog spec_l10Find.E k spec_l10Find.a (spec_l10Find.G k) 1000 (bodyOf Tryz.prog 15) 77 [.v (.string x1), .box 0 0, .own 1, .own 2, .own 3, .v (.int .i64 x13), .box 4 0, .v (.int .i64 x17)] [.box [.v (.int .i64 x3_0), .v (.int .i64 x3_1), .v (.int .i64 x3_2), .con .str x3_3], .row 2 (.int .i64) x9, .tre 0 none 46 2 (.pair (.int .i64) (.sl (.int .i64))) x11 none, .row 2 (.int .i64) x12, .box [.v (.int .i64 x14_0), .own 5], .row 2 (.int .i64) x14_1] = spec_l10Find.p77 (k + 1) x1 x3_0 x3_1 x3_2 x3_3 x9 x11 x12 x13 x14_0 x14_1 x17 := by kernel_rfl
theorem spec_l10Find.G77_0 {avs : List AV} {H : List HE} : spec_l10Find.G77 0 avs H = none := by unfold spec_l10Find.G77; split <;> rfl
theorem spec_l10Find.G77_s (k : Nat) {avs : List AV} {H : List HE} {x : List Int × List (Int × List Int) × Bool} (h : spec_l10Find.G77 (k + 1) avs H = some x) : fromPt Tryz.prog spec_l10Find.E k spec_l10Find.a (spec_l10Find.G k) 1000 (bodyOf Tryz.prog 15) 77 avs H = some x := by
  unfold spec_l10Find.G77 at h
  split at h
  · rw [← h]; exact spec_l10Find.eq77 _ _ _ _ _ _ _ _ _ _ _ _ _
  · cases h
set_option maxRecDepth 100000 in
theorem spec_l10Find.eq88 (k : Nat) (x1 : ByteArray) (x3_0 : Int) (x3_1 : Int) (x3_2 : Int) (x3_3 : List ByteArray) (x9 : List Int) (x11 : List (Int × List Int)) (x12 : List Int) (x13 : Int) (x14_0 : Int) (x14_1 : List Int) (x17 : Int) (x131 : Bool) : fromPt Tryz.prog spec_l10Find.E k spec_l10Find.a (spec_l10Find.G k) 1000 (bodyOf Tryz.prog 15) 88 [.v (.string x1), .box 0 0, .own 1, .own 2, .own 3, .v (.int .i64 x13), .box 4 0, .v (.int .i64 x17), .bs false x131] [.box [.v (.int .i64 x3_0), .v (.int .i64 x3_1), .v (.int .i64 x3_2), .con .str x3_3], .row 2 (.int .i64) x9, .tre 0 none 46 2 (.pair (.int .i64) (.sl (.int .i64))) x11 none, .row 2 (.int .i64) x12, .box [.v (.int .i64 x14_0), .own 5], .row 2 (.int .i64) x14_1] = spec_l10Find.p88 (k + 1) x1 x3_0 x3_1 x3_2 x3_3 x9 x11 x12 x13 x14_0 x14_1 x17 x131 := by kernel_rfl
theorem spec_l10Find.G88_0 {avs : List AV} {H : List HE} : spec_l10Find.G88 0 avs H = none := by unfold spec_l10Find.G88; split <;> rfl
theorem spec_l10Find.G88_s (k : Nat) {avs : List AV} {H : List HE} {x : List Int × List (Int × List Int) × Bool} (h : spec_l10Find.G88 (k + 1) avs H = some x) : fromPt Tryz.prog spec_l10Find.E k spec_l10Find.a (spec_l10Find.G k) 1000 (bodyOf Tryz.prog 15) 88 avs H = some x := by
  unfold spec_l10Find.G88 at h
  split at h
  · rw [← h]; exact spec_l10Find.eq88 _ _ _ _ _ _ _ _ _ _ _ _ _ _
  · cases h
theorem spec_l10Find.E_ok : EnvOk Tryz.prog spec_l10Find.E := ⟨⟨spec_l7Place.sound, callable_of (by kernel_rfl)⟩, ⟨spec_l10Old.sound, callable_of (by kernel_rfl)⟩, ⟨spec_RunOf.sound, callable_of (by kernel_rfl)⟩, trivial⟩
theorem spec_l10Find.sound : Sound Tryz.prog 15 spec_l10Find.s := by
  refine func_sound (f := spec_l10Find.a) (G := spec_l10Find.G) (fn := Tryz.f15) (body := bodyOf Tryz.prog 15) 1000 (by kernel_rfl) spec_l10Find.E_ok Tryz.func15 (by kernel_rfl) (by kernel_rfl) (by kernel_rfl) (ptsOk_of (by kernel_rfl)) ?_ ?_ ?_ ?_
  · intro r H x h
    unfold spec_l10Find.a at h
    simp only at h
    split at h
    · cases h; rfl
    · cases h
  · exact fun q avs H => pick1_none spec_l10Find.G8_0 (pick1_none spec_l10Find.G31_0 (pick1_none spec_l10Find.G54_0 (pick1_none spec_l10Find.G77_0 (pick1_none spec_l10Find.G88_0 (rfl)))))
  · intro k q pt avs H x _ h
    rcases pick1_some h with ⟨rfl, h⟩ | h
    · exact spec_l10Find.G8_s _ h
    rcases pick1_some h with ⟨rfl, h⟩ | h
    · exact spec_l10Find.G31_s _ h
    rcases pick1_some h with ⟨rfl, h⟩ | h
    · exact spec_l10Find.G54_s _ h
    rcases pick1_some h with ⟨rfl, h⟩ | h
    · exact spec_l10Find.G77_s _ h
    rcases pick1_some h with ⟨rfl, h⟩ | h
    · exact spec_l10Find.G88_s _ h
    cases h
  · intro k avs H o h
    try dsimp only at h
    split at h
    · cases h; exact spec_l10Find.eq _ _ _ _ _ _ _
    · cases h

def spec_l10Told.a : FnA (Int) := ⟨12, [.tmp 4], .val, [], [], fun x H => match x, H with
  | .v (.int .i64 r), [] => some r
  | _, _ => none⟩
def spec_l10Told.s : Spec := mkS [.con (.int .i64), .val] (fun k avs H => match avs, H with
  | [.con (.int .i64) a0, .v (.int .i64 a1)], [] => some (spec_l10Told.f k a0 a1)
  | _, _ => none) (fun r => (.v (.int .i64 r), []))
def spec_l10Told.E : Env := [((32, []), spec_l7Place.s)]
def spec_l10Told.G (k p : Nat) (avs : List AV) (H : List HE) : Option (Int) := none
set_option maxRecDepth 100000 in
theorem spec_l10Told.eq (k : Nat) (a0 : List Int) (a1 : Int) : fromTop Tryz.prog spec_l10Told.E k spec_l10Told.a (spec_l10Told.G k) 1000 (bodyOf Tryz.prog 16) [.con (.int .i64) a0, .v (.int .i64 a1)] [] = spec_l10Told.f k a0 a1 := by kernel_rfl
theorem spec_l10Told.E_ok : EnvOk Tryz.prog spec_l10Told.E := ⟨⟨spec_l7Place.sound, callable_of (by kernel_rfl)⟩, trivial⟩
theorem spec_l10Told.sound : Sound Tryz.prog 16 spec_l10Told.s := by
  refine func_sound (f := spec_l10Told.a) (G := spec_l10Told.G) (fn := Tryz.f16) (body := bodyOf Tryz.prog 16) 1000 (by kernel_rfl) spec_l10Told.E_ok Tryz.func16 (by kernel_rfl) (by kernel_rfl) (by kernel_rfl) (ptsOk_of (by kernel_rfl)) ?_ ?_ ?_ ?_
  · intro r H x h
    unfold spec_l10Told.a at h
    simp only at h
    split at h
    · cases h; rfl
    · cases h
  · intro q avs H; rfl
  · intro k q pt avs H x _ h; cases h
  · intro k avs H o h
    try dsimp only at h
    split at h
    · cases h; exact spec_l10Told.eq _ _ _
    · cases h

def spec_DurableOf.a : FnA (List Int × List (Int × List Int) × Bool) := ⟨110, [.cell 4 29, .tmp 5], .tup [.agg [.row 2 (.int .i64), .tre 0 46 2 (.pair (.int .i64) (.sl (.int .i64)))], .bool], [], [⟨28, [2, 4, 6, 8, 9, 11, 12], [.box [.val, .val, .val, .con .str], .box [.val, .val], .row 2 (.int .i64), .row 2 (.int .i64), .con (.pair (.int .i64) (.sl (.int .i64))), .box [.row 2 (.int .i64), .val], .val], []⟩, ⟨43, [2, 4, 8, 9, 11, 13], [.box [.val, .val, .val, .con .str], .box [.val, .val], .row 2 (.int .i64), .con (.pair (.int .i64) (.sl (.int .i64))), .box [.row 2 (.int .i64), .tre 0 46 2 (.pair (.int .i64) (.sl (.int .i64)))], .val], []⟩, ⟨58, [2, 4, 8, 9, 11, 13, 14, 15], [.box [.val, .val, .val, .con .str], .box [.val, .val], .row 2 (.int .i64), .con (.pair (.int .i64) (.sl (.int .i64))), .box [.row 2 (.int .i64), .tre 0 46 2 (.pair (.int .i64) (.sl (.int .i64)))], .val, .box [.val, .row 2 (.int .i64)], .val], []⟩], fun x H => match x, H with
  | .tup [.agg [.own 0, .own 1], .bs false r_1], [.row 2 (.int .i64) r_0_0, .tre 0 none 46 2 (.pair (.int .i64) (.sl (.int .i64))) r_0_1 none] => some (r_0_0, r_0_1, r_1)
  | _, _ => none⟩
def spec_DurableOf.s : Spec := mkS [.agg [.val, .val, .val, .con .str], .val] (fun k avs H => match avs, H with
  | [.agg [.v (.int .i64 a0_0), .v (.int .i64 a0_1), .v (.int .i64 a0_2), .con .str a0_3], .v (.string a1)], [] => some (spec_DurableOf.f k a0_0 a0_1 a0_2 a0_3 a1)
  | _, _ => none) (fun r => (.tup [.agg [.own 0, .own 1], .bs false r.2.2], [.row 2 (.int .i64) r.1, .tre 0 none 46 2 (.pair (.int .i64) (.sl (.int .i64))) r.2.1 none]))
def spec_DurableOf.E : Env := [((14, []), spec_RootsOf.s), ((15, []), spec_l10Find.s), ((16, []), spec_l10Told.s)]
def spec_DurableOf.G28 (k : Nat) (avs : List AV) (H : List HE) : Option (List Int × List (Int × List Int) × Bool) := match avs, H with
  | [.box 0 0, .box 1 0, .own 2, .own 3, .con (.pair (.int .i64) (.sl (.int .i64))) x9, .box 4 0, .v (.int .i64 x12)], [.box [.v (.int .i64 x2_0), .v (.int .i64 x2_1), .v (.int .i64 x2_2), .con .str x2_3], .box [.v (.slice none 0 0), .v (.slice none 0 0)], .row 2 (.int .i64) x6, .row 2 (.int .i64) x8, .box [.own 5, .v (.slice none 0 0)], .row 2 (.int .i64) x11_0] => spec_DurableOf.p28 k x2_0 x2_1 x2_2 x2_3 x6 x8 x9 x11_0 x12
  | _, _ => none
def spec_DurableOf.G43 (k : Nat) (avs : List AV) (H : List HE) : Option (List Int × List (Int × List Int) × Bool) := match avs, H with
  | [.box 0 0, .box 1 0, .own 2, .con (.pair (.int .i64) (.sl (.int .i64))) x9, .box 3 0, .v (.int .i64 x13)], [.box [.v (.int .i64 x2_0), .v (.int .i64 x2_1), .v (.int .i64 x2_2), .con .str x2_3], .box [.v (.slice none 0 0), .v (.slice none 0 0)], .row 2 (.int .i64) x8, .box [.own 4, .own 5], .row 2 (.int .i64) x11_0, .tre 0 none 46 2 (.pair (.int .i64) (.sl (.int .i64))) x11_1 none] => spec_DurableOf.p43 k x2_0 x2_1 x2_2 x2_3 x8 x9 x11_0 x11_1 x13
  | _, _ => none
def spec_DurableOf.G58 (k : Nat) (avs : List AV) (H : List HE) : Option (List Int × List (Int × List Int) × Bool) := match avs, H with
  | [.box 0 0, .box 1 0, .own 2, .con (.pair (.int .i64) (.sl (.int .i64))) x9, .box 3 0, .v (.int .i64 x13), .box 6 0, .v (.int .i64 x15)], [.box [.v (.int .i64 x2_0), .v (.int .i64 x2_1), .v (.int .i64 x2_2), .con .str x2_3], .box [.v (.slice none 0 0), .v (.slice none 0 0)], .row 2 (.int .i64) x8, .box [.own 4, .own 5], .row 2 (.int .i64) x11_0, .tre 0 none 46 2 (.pair (.int .i64) (.sl (.int .i64))) x11_1 none, .box [.v (.int .i64 x14_0), .own 7], .row 2 (.int .i64) x14_1] => spec_DurableOf.p58 k x2_0 x2_1 x2_2 x2_3 x8 x9 x11_0 x11_1 x13 x14_0 x14_1 x15
  | _, _ => none
def spec_DurableOf.G (k p : Nat) (avs : List AV) (H : List HE) : Option (List Int × List (Int × List Int) × Bool) := (pick1 28 (spec_DurableOf.G28 k avs H) (pick1 43 (spec_DurableOf.G43 k avs H) (pick1 58 (spec_DurableOf.G58 k avs H) none p) p) p)
set_option maxRecDepth 100000 in
theorem spec_DurableOf.eq (k : Nat) (a0_0 : Int) (a0_1 : Int) (a0_2 : Int) (a0_3 : List ByteArray) (a1 : ByteArray) : fromTop Tryz.prog spec_DurableOf.E k spec_DurableOf.a (spec_DurableOf.G k) 1000 (bodyOf Tryz.prog 5) [.agg [.v (.int .i64 a0_0), .v (.int .i64 a0_1), .v (.int .i64 a0_2), .con .str a0_3], .v (.string a1)] [] = spec_DurableOf.f k a0_0 a0_1 a0_2 a0_3 a1 := by kernel_rfl
set_option maxRecDepth 100000 in
theorem spec_DurableOf.eq28 (k : Nat) (x2_0 : Int) (x2_1 : Int) (x2_2 : Int) (x2_3 : List ByteArray) (x6 : List Int) (x8 : List Int) (x9 : List (Int × List Int)) (x11_0 : List Int) (x12 : Int) : fromPt Tryz.prog spec_DurableOf.E k spec_DurableOf.a (spec_DurableOf.G k) 1000 (bodyOf Tryz.prog 5) 28 [.box 0 0, .box 1 0, .own 2, .own 3, .con (.pair (.int .i64) (.sl (.int .i64))) x9, .box 4 0, .v (.int .i64 x12)] [.box [.v (.int .i64 x2_0), .v (.int .i64 x2_1), .v (.int .i64 x2_2), .con .str x2_3], .box [.v (.slice none 0 0), .v (.slice none 0 0)], .row 2 (.int .i64) x6, .row 2 (.int .i64) x8, .box [.own 5, .v (.slice none 0 0)], .row 2 (.int .i64) x11_0] = spec_DurableOf.p28 (k + 1) x2_0 x2_1 x2_2 x2_3 x6 x8 x9 x11_0 x12 := by kernel_rfl
theorem spec_DurableOf.G28_0 {avs : List AV} {H : List HE} : spec_DurableOf.G28 0 avs H = none := by unfold spec_DurableOf.G28; split <;> rfl
theorem spec_DurableOf.G28_s (k : Nat) {avs : List AV} {H : List HE} {x : List Int × List (Int × List Int) × Bool} (h : spec_DurableOf.G28 (k + 1) avs H = some x) : fromPt Tryz.prog spec_DurableOf.E k spec_DurableOf.a (spec_DurableOf.G k) 1000 (bodyOf Tryz.prog 5) 28 avs H = some x := by
  unfold spec_DurableOf.G28 at h
  split at h
  · rw [← h]; exact spec_DurableOf.eq28 _ _ _ _ _ _ _ _ _ _
  · cases h
set_option maxRecDepth 100000 in
theorem spec_DurableOf.eq43 (k : Nat) (x2_0 : Int) (x2_1 : Int) (x2_2 : Int) (x2_3 : List ByteArray) (x8 : List Int) (x9 : List (Int × List Int)) (x11_0 : List Int) (x11_1 : List (Int × List Int)) (x13 : Int) : fromPt Tryz.prog spec_DurableOf.E k spec_DurableOf.a (spec_DurableOf.G k) 1000 (bodyOf Tryz.prog 5) 43 [.box 0 0, .box 1 0, .own 2, .con (.pair (.int .i64) (.sl (.int .i64))) x9, .box 3 0, .v (.int .i64 x13)] [.box [.v (.int .i64 x2_0), .v (.int .i64 x2_1), .v (.int .i64 x2_2), .con .str x2_3], .box [.v (.slice none 0 0), .v (.slice none 0 0)], .row 2 (.int .i64) x8, .box [.own 4, .own 5], .row 2 (.int .i64) x11_0, .tre 0 none 46 2 (.pair (.int .i64) (.sl (.int .i64))) x11_1 none] = spec_DurableOf.p43 (k + 1) x2_0 x2_1 x2_2 x2_3 x8 x9 x11_0 x11_1 x13 := by kernel_rfl
theorem spec_DurableOf.G43_0 {avs : List AV} {H : List HE} : spec_DurableOf.G43 0 avs H = none := by unfold spec_DurableOf.G43; split <;> rfl
theorem spec_DurableOf.G43_s (k : Nat) {avs : List AV} {H : List HE} {x : List Int × List (Int × List Int) × Bool} (h : spec_DurableOf.G43 (k + 1) avs H = some x) : fromPt Tryz.prog spec_DurableOf.E k spec_DurableOf.a (spec_DurableOf.G k) 1000 (bodyOf Tryz.prog 5) 43 avs H = some x := by
  unfold spec_DurableOf.G43 at h
  split at h
  · rw [← h]; exact spec_DurableOf.eq43 _ _ _ _ _ _ _ _ _ _
  · cases h
set_option maxRecDepth 100000 in
theorem spec_DurableOf.eq58 (k : Nat) (x2_0 : Int) (x2_1 : Int) (x2_2 : Int) (x2_3 : List ByteArray) (x8 : List Int) (x9 : List (Int × List Int)) (x11_0 : List Int) (x11_1 : List (Int × List Int)) (x13 : Int) (x14_0 : Int) (x14_1 : List Int) (x15 : Int) : fromPt Tryz.prog spec_DurableOf.E k spec_DurableOf.a (spec_DurableOf.G k) 1000 (bodyOf Tryz.prog 5) 58 [.box 0 0, .box 1 0, .own 2, .con (.pair (.int .i64) (.sl (.int .i64))) x9, .box 3 0, .v (.int .i64 x13), .box 6 0, .v (.int .i64 x15)] [.box [.v (.int .i64 x2_0), .v (.int .i64 x2_1), .v (.int .i64 x2_2), .con .str x2_3], .box [.v (.slice none 0 0), .v (.slice none 0 0)], .row 2 (.int .i64) x8, .box [.own 4, .own 5], .row 2 (.int .i64) x11_0, .tre 0 none 46 2 (.pair (.int .i64) (.sl (.int .i64))) x11_1 none, .box [.v (.int .i64 x14_0), .own 7], .row 2 (.int .i64) x14_1] = spec_DurableOf.p58 (k + 1) x2_0 x2_1 x2_2 x2_3 x8 x9 x11_0 x11_1 x13 x14_0 x14_1 x15 := by kernel_rfl
theorem spec_DurableOf.G58_0 {avs : List AV} {H : List HE} : spec_DurableOf.G58 0 avs H = none := by unfold spec_DurableOf.G58; split <;> rfl
theorem spec_DurableOf.G58_s (k : Nat) {avs : List AV} {H : List HE} {x : List Int × List (Int × List Int) × Bool} (h : spec_DurableOf.G58 (k + 1) avs H = some x) : fromPt Tryz.prog spec_DurableOf.E k spec_DurableOf.a (spec_DurableOf.G k) 1000 (bodyOf Tryz.prog 5) 58 avs H = some x := by
  unfold spec_DurableOf.G58 at h
  split at h
  · rw [← h]; exact spec_DurableOf.eq58 _ _ _ _ _ _ _ _ _ _ _ _ _
  · cases h
theorem spec_DurableOf.E_ok : EnvOk Tryz.prog spec_DurableOf.E := ⟨⟨spec_RootsOf.sound, callable_of (by kernel_rfl)⟩, ⟨spec_l10Find.sound, callable_of (by kernel_rfl)⟩, ⟨spec_l10Told.sound, callable_of (by kernel_rfl)⟩, trivial⟩
theorem spec_DurableOf.sound : Sound Tryz.prog 5 spec_DurableOf.s := by
  refine func_sound (f := spec_DurableOf.a) (G := spec_DurableOf.G) (fn := Tryz.f5) (body := bodyOf Tryz.prog 5) 1000 (by kernel_rfl) spec_DurableOf.E_ok Tryz.func5 (by kernel_rfl) (by kernel_rfl) (by kernel_rfl) (ptsOk_of (by kernel_rfl)) ?_ ?_ ?_ ?_
  · intro r H x h
    unfold spec_DurableOf.a at h
    simp only at h
    split at h
    · cases h; rfl
    · cases h
  · exact fun q avs H => pick1_none spec_DurableOf.G28_0 (pick1_none spec_DurableOf.G43_0 (pick1_none spec_DurableOf.G58_0 (rfl)))
  · intro k q pt avs H x _ h
    rcases pick1_some h with ⟨rfl, h⟩ | h
    · exact spec_DurableOf.G28_s _ h
    rcases pick1_some h with ⟨rfl, h⟩ | h
    · exact spec_DurableOf.G43_s _ h
    rcases pick1_some h with ⟨rfl, h⟩ | h
    · exact spec_DurableOf.G58_s _ h
    cases h
  · intro k avs H o h
    try dsimp only at h
    split at h
    · cases h; exact spec_DurableOf.eq _ _ _ _ _ _
    · cases h

def impl_within.a : FnA (Bool) := ⟨15, [.tmp 6], .bool, [], [], fun x H => match x, H with
  | .bs false r, [] => some r
  | _, _ => none⟩
def impl_within.s : Spec := mkS [.val, .val, .val] (fun k avs H => match avs, H with
  | [.v (.int .i64 a0), .v (.int .i64 a1), .v (.int .i64 a2)], [] => some (impl_within.f a0 a1 a2)
  | _, _ => none) (fun r => (.bs false r, []))
def impl_within.E : Env := []
def impl_within.G (k p : Nat) (avs : List AV) (H : List HE) : Option (Bool) := none
set_option maxRecDepth 100000 in
theorem impl_within.eq (k : Nat) (a0 : Int) (a1 : Int) (a2 : Int) : fromTop Tryz.prog impl_within.E k impl_within.a (impl_within.G k) 1000 (bodyOf Tryz.prog 46) [.v (.int .i64 a0), .v (.int .i64 a1), .v (.int .i64 a2)] [] = impl_within.f a0 a1 a2 := by kernel_rfl
theorem impl_within.E_ok : EnvOk Tryz.prog impl_within.E := trivial
theorem impl_within.sound : Sound Tryz.prog 46 impl_within.s := by
  refine func_sound (f := impl_within.a) (G := impl_within.G) (fn := Tryz.f46) (body := bodyOf Tryz.prog 46) 1000 (by kernel_rfl) impl_within.E_ok Tryz.func46 (by kernel_rfl) (by kernel_rfl) (by kernel_rfl) (ptsOk_of (by kernel_rfl)) ?_ ?_ ?_ ?_
  · intro r H x h
    unfold impl_within.a at h
    simp only at h
    split at h
    · cases h; rfl
    · cases h
  · intro q avs H; rfl
  · intro k q pt avs H x _ h; cases h
  · intro k avs H o h
    try dsimp only at h
    split at h
    · cases h; exact impl_within.eq _ _ _ _
    · cases h

def impl_size_string.a : FnA (Int) := ⟨5, [.tmp 2], .val, [], [], fun x H => match x, H with
  | .v (.int .i64 r), [] => some r
  | _, _ => none⟩
def impl_size_string.s : Spec := mkS [.con .str] (fun k avs H => match avs, H with
  | [.con .str a0], [] => some (impl_size_string.f a0)
  | _, _ => none) (fun r => (.v (.int .i64 r), []))
def impl_size_string.E : Env := []
def impl_size_string.G (k p : Nat) (avs : List AV) (H : List HE) : Option (Int) := none
set_option maxRecDepth 100000 in
theorem impl_size_string.eq (k : Nat) (a0 : List ByteArray) : fromTop Tryz.prog impl_size_string.E k impl_size_string.a (impl_size_string.G k) 1000 (bodyOf Tryz.prog 60) [.con .str a0] [] = impl_size_string.f a0 := by kernel_rfl
theorem impl_size_string.E_ok : EnvOk Tryz.prog impl_size_string.E := trivial
theorem impl_size_string.sound : Sound Tryz.prog 60 impl_size_string.s := by
  refine func_sound (f := impl_size_string.a) (G := impl_size_string.G) (fn := Tryz.f60) (body := bodyOf Tryz.prog 60) 1000 (by kernel_rfl) impl_size_string.E_ok Tryz.func60 (by kernel_rfl) (by kernel_rfl) (by kernel_rfl) (ptsOk_of (by kernel_rfl)) ?_ ?_ ?_ ?_
  · intro r H x h
    unfold impl_size_string.a at h
    simp only at h
    split at h
    · cases h; rfl
    · cases h
  · intro q avs H; rfl
  · intro k q pt avs H x _ h; cases h
  · intro k avs H o h
    try dsimp only at h
    split at h
    · cases h; exact impl_size_string.eq _ _
    · cases h

def strings_Trim.s : Spec := mkS [.val, .val] (fun _ avs H => match avs, H with
  | [.v (.string a0), .v (.string a1)], [] => some (strings_Trim.f a0 a1)
  | _, _ => none) (fun r => (.v (.string r), []))
theorem strings_Trim.sound : Sound Tryz.prog 99 strings_Trim.s := by
  refine sound_plain (emb := fun r => .v (.string r)) ?_
  intro k avs H o x h hx
  split at h
  case h_2 => cases h
  rename_i a0 a1
  cases h
  refine ⟨rfl, fun M w ρ hp vals hr => ?_⟩
  obtain ⟨v0, q0, rfl, rfl, v1, q1, rfl, rfl, rfl⟩ := hr
  unfold strings_Trim.f at hx
  split at hx
  case isFalse => cases hx
  rename_i h0
  split at hx
  case isFalse => cases hx
  rename_i h1
  split at hx
  case isFalse => cases hx
  rename_i h2
  cases hx
  refine (Go.Proofs.Any.strings_Trim_laid Go.Proofs.Tryz.lays160 (by kernel_rfl) a0 a1 w h0 (by omega) (Go.Proofs.ascii_of_all h2)).mono ?_
  rintro e w' ⟨rfl, hb⟩
  exact ⟨_, rfl, hb, fun _ _ _ _ => rfl⟩

def impl_isType.a : FnA (Bool) := ⟨11, [.tmp 2], .bool, [], [], fun x H => match x, H with
  | .bs false r, [] => some r
  | _, _ => none⟩
def impl_isType.s : Spec := mkS [.val] (fun k avs H => match avs, H with
  | [.v (.string a0)], [] => some (impl_isType.f a0)
  | _, _ => none) (fun r => (.bs false r, []))
def impl_isType.E : Env := [((46, []), impl_within.s), ((99, []), strings_Trim.s)]
def impl_isType.G (k p : Nat) (avs : List AV) (H : List HE) : Option (Bool) := none
set_option maxRecDepth 100000 in
theorem impl_isType.eq (k : Nat) (a0 : ByteArray) : fromTop Tryz.prog impl_isType.E k impl_isType.a (impl_isType.G k) 1000 (bodyOf Tryz.prog 87) [.v (.string a0)] [] = impl_isType.f a0 := by kernel_rfl
theorem impl_isType.E_ok : EnvOk Tryz.prog impl_isType.E := ⟨⟨impl_within.sound, callable_of (by kernel_rfl)⟩, ⟨strings_Trim.sound, callable_of (by kernel_rfl)⟩, trivial⟩
theorem impl_isType.sound : Sound Tryz.prog 87 impl_isType.s := by
  refine func_sound (f := impl_isType.a) (G := impl_isType.G) (fn := Tryz.f87) (body := bodyOf Tryz.prog 87) 1000 (by kernel_rfl) impl_isType.E_ok Tryz.func87 (by kernel_rfl) (by kernel_rfl) (by kernel_rfl) (ptsOk_of (by kernel_rfl)) ?_ ?_ ?_ ?_
  · intro r H x h
    unfold impl_isType.a at h
    simp only at h
    split at h
    · cases h; rfl
    · cases h
  · intro q avs H; rfl
  · intro k q pt avs H x _ h; cases h
  · intro k avs H o h
    try dsimp only at h
    split at h
    · cases h; exact impl_isType.eq _ _
    · cases h

def impl_TypesOk_1.a : FnA (Bool) := ⟨6, [.tmp 2], .bool, [], [], fun x H => match x, H with
  | .bs false r, [] => some r
  | _, _ => none⟩
def impl_TypesOk_1.s : Spec := mkS [.val] (fun k avs H => match avs, H with
  | [.v (.string a0)], [] => some (impl_TypesOk_1.f a0)
  | _, _ => none) (fun r => (.bs false r, []))
def impl_TypesOk_1.E : Env := [((87, []), impl_isType.s)]
def impl_TypesOk_1.G (k p : Nat) (avs : List AV) (H : List HE) : Option (Bool) := none
set_option maxRecDepth 100000 in
theorem impl_TypesOk_1.eq (k : Nat) (a0 : ByteArray) : fromTop Tryz.prog impl_TypesOk_1.E k impl_TypesOk_1.a (impl_TypesOk_1.G k) 1000 (bodyOf Tryz.prog 86) [.v (.string a0)] [] = impl_TypesOk_1.f a0 := by kernel_rfl
theorem impl_TypesOk_1.E_ok : EnvOk Tryz.prog impl_TypesOk_1.E := ⟨⟨impl_isType.sound, callable_of (by kernel_rfl)⟩, trivial⟩
theorem impl_TypesOk_1.sound : Sound Tryz.prog 86 impl_TypesOk_1.s := by
  refine func_sound (f := impl_TypesOk_1.a) (G := impl_TypesOk_1.G) (fn := Tryz.f86) (body := bodyOf Tryz.prog 86) 1000 (by kernel_rfl) impl_TypesOk_1.E_ok Tryz.func86 (by kernel_rfl) (by kernel_rfl) (by kernel_rfl) (ptsOk_of (by kernel_rfl)) ?_ ?_ ?_ ?_
  · intro r H x h
    unfold impl_TypesOk_1.a at h
    simp only at h
    split at h
    · cases h; rfl
    · cases h
  · intro q avs H; rfl
  · intro k q pt avs H x _ h; cases h
  · intro k avs H o h
    try dsimp only at h
    split at h
    · cases h; exact impl_TypesOk_1.eq _ _
    · cases h

def slices_IndexFunc_string_at_impl_TypesOk_1.a : FnA (Int) := ⟨19, [.tmp 4], .val, [], [⟨6, [0, 1, 7, 8], [.con .str, .fn 86 0 [], .val, .val], []⟩], fun x H => match x, H with
  | .v (.int .i64 r), [] => some r
  | _, _ => none⟩
def slices_IndexFunc_string_at_impl_TypesOk_1.s : Spec := mkS [.con .str, .fn 86 0 []] (fun k avs H => match avs, H with
  | [.con .str a0, .fn 86 0 []], [] => some (slices_IndexFunc_string_at_impl_TypesOk_1.f k a0)
  | _, _ => none) (fun r => (.v (.int .i64 r), []))
def slices_IndexFunc_string_at_impl_TypesOk_1.E : Env := [((86, []), impl_TypesOk_1.s)]
def slices_IndexFunc_string_at_impl_TypesOk_1.G6 (k : Nat) (avs : List AV) (H : List HE) : Option (Int) := match avs, H with
  | [.con .str x0, .fn 86 0 [], .v (.int .i64 x7), .v (.int .i64 x8)], [] => slices_IndexFunc_string_at_impl_TypesOk_1.p6 k x0 x7 x8
  | _, _ => none
def slices_IndexFunc_string_at_impl_TypesOk_1.G (k p : Nat) (avs : List AV) (H : List HE) : Option (Int) := (pick1 6 (slices_IndexFunc_string_at_impl_TypesOk_1.G6 k avs H) none p)
set_option maxRecDepth 100000 in
theorem slices_IndexFunc_string_at_impl_TypesOk_1.eq (k : Nat) (a0 : List ByteArray) : fromTop Tryz.prog slices_IndexFunc_string_at_impl_TypesOk_1.E k slices_IndexFunc_string_at_impl_TypesOk_1.a (slices_IndexFunc_string_at_impl_TypesOk_1.G k) 1000 (bodyOf Tryz.prog 98) [.con .str a0, .fn 86 0 []] [] = slices_IndexFunc_string_at_impl_TypesOk_1.f k a0 := by kernel_rfl
set_option maxRecDepth 100000 in
theorem slices_IndexFunc_string_at_impl_TypesOk_1.eq6 (k : Nat) (x0 : List ByteArray) (x7 : Int) (x8 : Int) : fromPt Tryz.prog slices_IndexFunc_string_at_impl_TypesOk_1.E k slices_IndexFunc_string_at_impl_TypesOk_1.a (slices_IndexFunc_string_at_impl_TypesOk_1.G k) 1000 (bodyOf Tryz.prog 98) 6 [.con .str x0, .fn 86 0 [], .v (.int .i64 x7), .v (.int .i64 x8)] [] = slices_IndexFunc_string_at_impl_TypesOk_1.p6 (k + 1) x0 x7 x8 := by kernel_rfl
theorem slices_IndexFunc_string_at_impl_TypesOk_1.G6_0 {avs : List AV} {H : List HE} : slices_IndexFunc_string_at_impl_TypesOk_1.G6 0 avs H = none := by unfold slices_IndexFunc_string_at_impl_TypesOk_1.G6; split <;> rfl
theorem slices_IndexFunc_string_at_impl_TypesOk_1.G6_s (k : Nat) {avs : List AV} {H : List HE} {x : Int} (h : slices_IndexFunc_string_at_impl_TypesOk_1.G6 (k + 1) avs H = some x) : fromPt Tryz.prog slices_IndexFunc_string_at_impl_TypesOk_1.E k slices_IndexFunc_string_at_impl_TypesOk_1.a (slices_IndexFunc_string_at_impl_TypesOk_1.G k) 1000 (bodyOf Tryz.prog 98) 6 avs H = some x := by
  unfold slices_IndexFunc_string_at_impl_TypesOk_1.G6 at h
  split at h
  · rw [← h]; exact slices_IndexFunc_string_at_impl_TypesOk_1.eq6 _ _ _ _
  · cases h
theorem slices_IndexFunc_string_at_impl_TypesOk_1.E_ok : EnvOk Tryz.prog slices_IndexFunc_string_at_impl_TypesOk_1.E := ⟨⟨impl_TypesOk_1.sound, callable_of (by kernel_rfl)⟩, trivial⟩
theorem slices_IndexFunc_string_at_impl_TypesOk_1.sound : Sound Tryz.prog 98 slices_IndexFunc_string_at_impl_TypesOk_1.s := by
  refine func_sound (f := slices_IndexFunc_string_at_impl_TypesOk_1.a) (G := slices_IndexFunc_string_at_impl_TypesOk_1.G) (fn := Tryz.f98) (body := bodyOf Tryz.prog 98) 1000 (by kernel_rfl) slices_IndexFunc_string_at_impl_TypesOk_1.E_ok Tryz.func98 (by kernel_rfl) (by kernel_rfl) (by kernel_rfl) (ptsOk_of (by kernel_rfl)) ?_ ?_ ?_ ?_
  · intro r H x h
    unfold slices_IndexFunc_string_at_impl_TypesOk_1.a at h
    simp only at h
    split at h
    · cases h; rfl
    · cases h
  · exact fun q avs H => pick1_none slices_IndexFunc_string_at_impl_TypesOk_1.G6_0 (rfl)
  · intro k q pt avs H x _ h
    rcases pick1_some h with ⟨rfl, h⟩ | h
    · exact slices_IndexFunc_string_at_impl_TypesOk_1.G6_s _ h
    cases h
  · intro k avs H o h
    try dsimp only at h
    split at h
    · cases h; exact slices_IndexFunc_string_at_impl_TypesOk_1.eq _ _
    · cases h

def slices_ContainsFunc_string_at_impl_TypesOk_1.a : FnA (Bool) := ⟨9, [.tmp 4], .bool, [], [], fun x H => match x, H with
  | .bs false r, [] => some r
  | _, _ => none⟩
def slices_ContainsFunc_string_at_impl_TypesOk_1.s : Spec := mkS [.con .str, .fn 86 0 []] (fun k avs H => match avs, H with
  | [.con .str a0, .fn 86 0 []], [] => some (slices_ContainsFunc_string_at_impl_TypesOk_1.f k a0)
  | _, _ => none) (fun r => (.bs false r, []))
def slices_ContainsFunc_string_at_impl_TypesOk_1.E : Env := [((98, [86]), slices_IndexFunc_string_at_impl_TypesOk_1.s)]
def slices_ContainsFunc_string_at_impl_TypesOk_1.G (k p : Nat) (avs : List AV) (H : List HE) : Option (Bool) := none
set_option maxRecDepth 100000 in
theorem slices_ContainsFunc_string_at_impl_TypesOk_1.eq (k : Nat) (a0 : List ByteArray) : fromTop Tryz.prog slices_ContainsFunc_string_at_impl_TypesOk_1.E k slices_ContainsFunc_string_at_impl_TypesOk_1.a (slices_ContainsFunc_string_at_impl_TypesOk_1.G k) 1000 (bodyOf Tryz.prog 85) [.con .str a0, .fn 86 0 []] [] = slices_ContainsFunc_string_at_impl_TypesOk_1.f k a0 := by kernel_rfl
theorem slices_ContainsFunc_string_at_impl_TypesOk_1.E_ok : EnvOk Tryz.prog slices_ContainsFunc_string_at_impl_TypesOk_1.E := ⟨⟨slices_IndexFunc_string_at_impl_TypesOk_1.sound, callable_of (by kernel_rfl)⟩, trivial⟩
theorem slices_ContainsFunc_string_at_impl_TypesOk_1.sound : Sound Tryz.prog 85 slices_ContainsFunc_string_at_impl_TypesOk_1.s := by
  refine func_sound (f := slices_ContainsFunc_string_at_impl_TypesOk_1.a) (G := slices_ContainsFunc_string_at_impl_TypesOk_1.G) (fn := Tryz.f85) (body := bodyOf Tryz.prog 85) 1000 (by kernel_rfl) slices_ContainsFunc_string_at_impl_TypesOk_1.E_ok Tryz.func85 (by kernel_rfl) (by kernel_rfl) (by kernel_rfl) (ptsOk_of (by kernel_rfl)) ?_ ?_ ?_ ?_
  · intro r H x h
    unfold slices_ContainsFunc_string_at_impl_TypesOk_1.a at h
    simp only at h
    split at h
    · cases h; rfl
    · cases h
  · intro q avs H; rfl
  · intro k q pt avs H x _ h; cases h
  · intro k avs H o h
    try dsimp only at h
    split at h
    · cases h; exact slices_ContainsFunc_string_at_impl_TypesOk_1.eq _ _
    · cases h

def impl_TypesOk.a : FnA (Bool) := ⟨11, [.tmp 2], .bool, [], [], fun x H => match x, H with
  | .bs false r, [] => some r
  | _, _ => none⟩
def impl_TypesOk.s : Spec := mkS [.con .str] (fun k avs H => match avs, H with
  | [.con .str a0], [] => some (impl_TypesOk.f k a0)
  | _, _ => none) (fun r => (.bs false r, []))
def impl_TypesOk.E : Env := [((60, []), impl_size_string.s), ((46, []), impl_within.s), ((85, [86]), slices_ContainsFunc_string_at_impl_TypesOk_1.s)]
def impl_TypesOk.G (k p : Nat) (avs : List AV) (H : List HE) : Option (Bool) := none
set_option maxRecDepth 100000 in
theorem impl_TypesOk.eq (k : Nat) (a0 : List ByteArray) : fromTop Tryz.prog impl_TypesOk.E k impl_TypesOk.a (impl_TypesOk.G k) 1000 (bodyOf Tryz.prog 72) [.con .str a0] [] = impl_TypesOk.f k a0 := by kernel_rfl
theorem impl_TypesOk.E_ok : EnvOk Tryz.prog impl_TypesOk.E := ⟨⟨impl_size_string.sound, callable_of (by kernel_rfl)⟩, ⟨impl_within.sound, callable_of (by kernel_rfl)⟩, ⟨slices_ContainsFunc_string_at_impl_TypesOk_1.sound, callable_of (by kernel_rfl)⟩, trivial⟩
theorem impl_TypesOk.sound : Sound Tryz.prog 72 impl_TypesOk.s := by
  refine func_sound (f := impl_TypesOk.a) (G := impl_TypesOk.G) (fn := Tryz.f72) (body := bodyOf Tryz.prog 72) 1000 (by kernel_rfl) impl_TypesOk.E_ok Tryz.func72 (by kernel_rfl) (by kernel_rfl) (by kernel_rfl) (ptsOk_of (by kernel_rfl)) ?_ ?_ ?_ ?_
  · intro r H x h
    unfold impl_TypesOk.a at h
    simp only at h
    split at h
    · cases h; rfl
    · cases h
  · intro q avs H; rfl
  · intro k q pt avs H x _ h; cases h
  · intro k avs H o h
    try dsimp only at h
    split at h
    · cases h; exact impl_TypesOk.eq _ _
    · cases h

def impl_ConfigOk.a : FnA (Bool) := ⟨25, [.tmp 2], .bool, [], [], fun x H => match x, H with
  | .bs false r, [] => some r
  | _, _ => none⟩
def impl_ConfigOk.s : Spec := mkS [.agg [.val, .val, .val, .con .str]] (fun k avs H => match avs, H with
  | [.agg [.v (.int .i64 a0_0), .v (.int .i64 a0_1), .v (.int .i64 a0_2), .con .str a0_3]], [] => some (impl_ConfigOk.f k a0_0 a0_1 a0_2 a0_3)
  | _, _ => none) (fun r => (.bs false r, []))
def impl_ConfigOk.E : Env := [((46, []), impl_within.s), ((72, []), impl_TypesOk.s)]
def impl_ConfigOk.G (k p : Nat) (avs : List AV) (H : List HE) : Option (Bool) := none
set_option maxRecDepth 100000 in
theorem impl_ConfigOk.eq (k : Nat) (a0_0 : Int) (a0_1 : Int) (a0_2 : Int) (a0_3 : List ByteArray) : fromTop Tryz.prog impl_ConfigOk.E k impl_ConfigOk.a (impl_ConfigOk.G k) 1000 (bodyOf Tryz.prog 54) [.agg [.v (.int .i64 a0_0), .v (.int .i64 a0_1), .v (.int .i64 a0_2), .con .str a0_3]] [] = impl_ConfigOk.f k a0_0 a0_1 a0_2 a0_3 := by kernel_rfl
theorem impl_ConfigOk.E_ok : EnvOk Tryz.prog impl_ConfigOk.E := ⟨⟨impl_within.sound, callable_of (by kernel_rfl)⟩, ⟨impl_TypesOk.sound, callable_of (by kernel_rfl)⟩, trivial⟩
theorem impl_ConfigOk.sound : Sound Tryz.prog 54 impl_ConfigOk.s := by
  refine func_sound (f := impl_ConfigOk.a) (G := impl_ConfigOk.G) (fn := Tryz.f54) (body := bodyOf Tryz.prog 54) 1000 (by kernel_rfl) impl_ConfigOk.E_ok Tryz.func54 (by kernel_rfl) (by kernel_rfl) (by kernel_rfl) (ptsOk_of (by kernel_rfl)) ?_ ?_ ?_ ?_
  · intro r H x h
    unfold impl_ConfigOk.a at h
    simp only at h
    split at h
    · cases h; rfl
    · cases h
  · intro q avs H; rfl
  · intro k q pt avs H x _ h; cases h
  · intro k avs H o h
    try dsimp only at h
    split at h
    · cases h; exact impl_ConfigOk.eq _ _ _ _ _
    · cases h

def impl_isImage.a : FnA (Bool) := ⟨15, [.tmp 4], .bool, [], [], fun x H => match x, H with
  | .bs false r, [] => some r
  | _, _ => none⟩
def impl_isImage.s : Spec := mkS [.agg [.val, .val, .val, .con .str], .val] (fun k avs H => match avs, H with
  | [.agg [.v (.int .i64 a0_0), .v (.int .i64 a0_1), .v (.int .i64 a0_2), .con .str a0_3], .v (.string a1)], [] => some (impl_isImage.f k a0_0 a0_1 a0_2 a0_3 a1)
  | _, _ => none) (fun r => (.bs false r, []))
def impl_isImage.E : Env := [((54, []), impl_ConfigOk.s)]
def impl_isImage.G (k p : Nat) (avs : List AV) (H : List HE) : Option (Bool) := none
set_option maxRecDepth 100000 in
theorem impl_isImage.eq (k : Nat) (a0_0 : Int) (a0_1 : Int) (a0_2 : Int) (a0_3 : List ByteArray) (a1 : ByteArray) : fromTop Tryz.prog impl_isImage.E k impl_isImage.a (impl_isImage.G k) 1000 (bodyOf Tryz.prog 35) [.agg [.v (.int .i64 a0_0), .v (.int .i64 a0_1), .v (.int .i64 a0_2), .con .str a0_3], .v (.string a1)] [] = impl_isImage.f k a0_0 a0_1 a0_2 a0_3 a1 := by kernel_rfl
theorem impl_isImage.E_ok : EnvOk Tryz.prog impl_isImage.E := ⟨⟨impl_ConfigOk.sound, callable_of (by kernel_rfl)⟩, trivial⟩
theorem impl_isImage.sound : Sound Tryz.prog 35 impl_isImage.s := by
  refine func_sound (f := impl_isImage.a) (G := impl_isImage.G) (fn := Tryz.f35) (body := bodyOf Tryz.prog 35) 1000 (by kernel_rfl) impl_isImage.E_ok Tryz.func35 (by kernel_rfl) (by kernel_rfl) (by kernel_rfl) (ptsOk_of (by kernel_rfl)) ?_ ?_ ?_ ?_
  · intro r H x h
    unfold impl_isImage.a at h
    simp only at h
    split at h
    · cases h; rfl
    · cases h
  · intro q avs H; rfl
  · intro k q pt avs H x _ h; cases h
  · intro k avs H o h
    try dsimp only at h
    split at h
    · cases h; exact impl_isImage.eq _ _ _ _ _ _
    · cases h

def impl_wordAt.a : FnA (Int) := ⟨21, [.tmp 4], .val, [], [⟨8, [0, 1, 5, 7], [.val, .val, .val, .val], []⟩], fun x H => match x, H with
  | .v (.int .i64 r), [] => some r
  | _, _ => none⟩
def impl_wordAt.s : Spec := mkS [.val, .val] (fun k avs H => match avs, H with
  | [.v (.string a0), .v (.int .i64 a1)], [] => some (impl_wordAt.f k a0 a1)
  | _, _ => none) (fun r => (.v (.int .i64 r), []))
def impl_wordAt.E : Env := []
def impl_wordAt.G8 (k : Nat) (avs : List AV) (H : List HE) : Option (Int) := match avs, H with
  | [.v (.string x0), .v (.int .i64 x1), .v (.int .i64 x5), .v (.int .i64 x7)], [] => impl_wordAt.p8 k x0 x1 x5 x7
  | _, _ => none
def impl_wordAt.G (k p : Nat) (avs : List AV) (H : List HE) : Option (Int) := (pick1 8 (impl_wordAt.G8 k avs H) none p)
set_option maxRecDepth 100000 in
theorem impl_wordAt.eq (k : Nat) (a0 : ByteArray) (a1 : Int) : fromTop Tryz.prog impl_wordAt.E k impl_wordAt.a (impl_wordAt.G k) 1000 (bodyOf Tryz.prog 55) [.v (.string a0), .v (.int .i64 a1)] [] = impl_wordAt.f k a0 a1 := by kernel_rfl
set_option maxRecDepth 100000 in
theorem impl_wordAt.eq8 (k : Nat) (x0 : ByteArray) (x1 : Int) (x5 : Int) (x7 : Int) : fromPt Tryz.prog impl_wordAt.E k impl_wordAt.a (impl_wordAt.G k) 1000 (bodyOf Tryz.prog 55) 8 [.v (.string x0), .v (.int .i64 x1), .v (.int .i64 x5), .v (.int .i64 x7)] [] = impl_wordAt.p8 (k + 1) x0 x1 x5 x7 := by kernel_rfl
theorem impl_wordAt.G8_0 {avs : List AV} {H : List HE} : impl_wordAt.G8 0 avs H = none := by unfold impl_wordAt.G8; split <;> rfl
theorem impl_wordAt.G8_s (k : Nat) {avs : List AV} {H : List HE} {x : Int} (h : impl_wordAt.G8 (k + 1) avs H = some x) : fromPt Tryz.prog impl_wordAt.E k impl_wordAt.a (impl_wordAt.G k) 1000 (bodyOf Tryz.prog 55) 8 avs H = some x := by
  unfold impl_wordAt.G8 at h
  split at h
  · rw [← h]; exact impl_wordAt.eq8 _ _ _ _ _
  · cases h
theorem impl_wordAt.E_ok : EnvOk Tryz.prog impl_wordAt.E := trivial
theorem impl_wordAt.sound : Sound Tryz.prog 55 impl_wordAt.s := by
  refine func_sound (f := impl_wordAt.a) (G := impl_wordAt.G) (fn := Tryz.f55) (body := bodyOf Tryz.prog 55) 1000 (by kernel_rfl) impl_wordAt.E_ok Tryz.func55 (by kernel_rfl) (by kernel_rfl) (by kernel_rfl) (ptsOk_of (by kernel_rfl)) ?_ ?_ ?_ ?_
  · intro r H x h
    unfold impl_wordAt.a at h
    simp only at h
    split at h
    · cases h; rfl
    · cases h
  · exact fun q avs H => pick1_none impl_wordAt.G8_0 (rfl)
  · intro k q pt avs H x _ h
    rcases pick1_some h with ⟨rfl, h⟩ | h
    · exact impl_wordAt.G8_s _ h
    cases h
  · intro k avs H o h
    try dsimp only at h
    split at h
    · cases h; exact impl_wordAt.eq _ _ _
    · cases h

def impl_wordsOf.a : FnA (List Int) := ⟨23, [.tmp 4], .row 2 (.int .i64), [], [⟨8, [0, 1, 5, 8], [.val, .val, .row 2 (.int .i64), .val], []⟩], fun x H => match x, H with
  | .own 0, [.row 2 (.int .i64) r] => some r
  | _, _ => none⟩
def impl_wordsOf.s : Spec := mkS [.val, .val] (fun k avs H => match avs, H with
  | [.v (.string a0), .v (.int .i64 a1)], [] => some (impl_wordsOf.f k a0 a1)
  | _, _ => none) (fun r => (.own 0, [.row 2 (.int .i64) r]))
def impl_wordsOf.E : Env := [((55, []), impl_wordAt.s)]
def impl_wordsOf.G8 (k : Nat) (avs : List AV) (H : List HE) : Option (List Int) := match avs, H with
  | [.v (.string x0), .v (.int .i64 x1), .own 0, .v (.int .i64 x8)], [.row 2 (.int .i64) x5] => impl_wordsOf.p8 k x0 x1 x5 x8
  | _, _ => none
def impl_wordsOf.G (k p : Nat) (avs : List AV) (H : List HE) : Option (List Int) := (pick1 8 (impl_wordsOf.G8 k avs H) none p)
set_option maxRecDepth 100000 in
theorem impl_wordsOf.eq (k : Nat) (a0 : ByteArray) (a1 : Int) : fromTop Tryz.prog impl_wordsOf.E k impl_wordsOf.a (impl_wordsOf.G k) 1000 (bodyOf Tryz.prog 36) [.v (.string a0), .v (.int .i64 a1)] [] = impl_wordsOf.f k a0 a1 := by kernel_rfl
set_option maxRecDepth 100000 in
theorem impl_wordsOf.eq8 (k : Nat) (x0 : ByteArray) (x1 : Int) (x5 : List Int) (x8 : Int) : fromPt Tryz.prog impl_wordsOf.E k impl_wordsOf.a (impl_wordsOf.G k) 1000 (bodyOf Tryz.prog 36) 8 [.v (.string x0), .v (.int .i64 x1), .own 0, .v (.int .i64 x8)] [.row 2 (.int .i64) x5] = impl_wordsOf.p8 (k + 1) x0 x1 x5 x8 := by kernel_rfl
theorem impl_wordsOf.G8_0 {avs : List AV} {H : List HE} : impl_wordsOf.G8 0 avs H = none := by unfold impl_wordsOf.G8; split <;> rfl
theorem impl_wordsOf.G8_s (k : Nat) {avs : List AV} {H : List HE} {x : List Int} (h : impl_wordsOf.G8 (k + 1) avs H = some x) : fromPt Tryz.prog impl_wordsOf.E k impl_wordsOf.a (impl_wordsOf.G k) 1000 (bodyOf Tryz.prog 36) 8 avs H = some x := by
  unfold impl_wordsOf.G8 at h
  split at h
  · rw [← h]; exact impl_wordsOf.eq8 _ _ _ _ _
  · cases h
theorem impl_wordsOf.E_ok : EnvOk Tryz.prog impl_wordsOf.E := ⟨⟨impl_wordAt.sound, callable_of (by kernel_rfl)⟩, trivial⟩
theorem impl_wordsOf.sound : Sound Tryz.prog 36 impl_wordsOf.s := by
  refine func_sound (f := impl_wordsOf.a) (G := impl_wordsOf.G) (fn := Tryz.f36) (body := bodyOf Tryz.prog 36) 1000 (by kernel_rfl) impl_wordsOf.E_ok Tryz.func36 (by kernel_rfl) (by kernel_rfl) (by kernel_rfl) (ptsOk_of (by kernel_rfl)) ?_ ?_ ?_ ?_
  · intro r H x h
    unfold impl_wordsOf.a at h
    simp only at h
    split at h
    · cases h; rfl
    · cases h
  · exact fun q avs H => pick1_none impl_wordsOf.G8_0 (rfl)
  · intro k q pt avs H x _ h
    rcases pick1_some h with ⟨rfl, h⟩ | h
    · exact impl_wordsOf.G8_s _ h
    cases h
  · intro k avs H o h
    try dsimp only at h
    split at h
    · cases h; exact impl_wordsOf.eq _ _ _
    · cases h

def impl_RefKind.a : FnA (Int) := ⟨22, [.tmp 2], .val, [], [], fun x H => match x, H with
  | .v (.int .i64 r), [] => some r
  | _, _ => none⟩
def impl_RefKind.s : Spec := mkS [.val] (fun k avs H => match avs, H with
  | [.v (.int .i64 a0)], [] => some (impl_RefKind.f a0)
  | _, _ => none) (fun r => (.v (.int .i64 r), []))
def impl_RefKind.E : Env := [((46, []), impl_within.s)]
def impl_RefKind.G (k p : Nat) (avs : List AV) (H : List HE) : Option (Int) := none
set_option maxRecDepth 100000 in
theorem impl_RefKind.eq (k : Nat) (a0 : Int) : fromTop Tryz.prog impl_RefKind.E k impl_RefKind.a (impl_RefKind.G k) 1000 (bodyOf Tryz.prog 73) [.v (.int .i64 a0)] [] = impl_RefKind.f a0 := by kernel_rfl
theorem impl_RefKind.E_ok : EnvOk Tryz.prog impl_RefKind.E := ⟨⟨impl_within.sound, callable_of (by kernel_rfl)⟩, trivial⟩
theorem impl_RefKind.sound : Sound Tryz.prog 73 impl_RefKind.s := by
  refine func_sound (f := impl_RefKind.a) (G := impl_RefKind.G) (fn := Tryz.f73) (body := bodyOf Tryz.prog 73) 1000 (by kernel_rfl) impl_RefKind.E_ok Tryz.func73 (by kernel_rfl) (by kernel_rfl) (by kernel_rfl) (ptsOk_of (by kernel_rfl)) ?_ ?_ ?_ ?_
  · intro r H x h
    unfold impl_RefKind.a at h
    simp only at h
    split at h
    · cases h; rfl
    · cases h
  · intro q avs H; rfl
  · intro k q pt avs H x _ h; cases h
  · intro k avs H o h
    try dsimp only at h
    split at h
    · cases h; exact impl_RefKind.eq _ _
    · cases h

def impl_isOld.a : FnA (Bool) := ⟨6, [.tmp 2], .bool, [], [], fun x H => match x, H with
  | .bs false r, [] => some r
  | _, _ => none⟩
def impl_isOld.s : Spec := mkS [.val] (fun k avs H => match avs, H with
  | [.v (.int .i64 a0)], [] => some (impl_isOld.f a0)
  | _, _ => none) (fun r => (.bs false r, []))
def impl_isOld.E : Env := [((73, []), impl_RefKind.s)]
def impl_isOld.G (k p : Nat) (avs : List AV) (H : List HE) : Option (Bool) := none
set_option maxRecDepth 100000 in
theorem impl_isOld.eq (k : Nat) (a0 : Int) : fromTop Tryz.prog impl_isOld.E k impl_isOld.a (impl_isOld.G k) 1000 (bodyOf Tryz.prog 57) [.v (.int .i64 a0)] [] = impl_isOld.f a0 := by kernel_rfl
theorem impl_isOld.E_ok : EnvOk Tryz.prog impl_isOld.E := ⟨⟨impl_RefKind.sound, callable_of (by kernel_rfl)⟩, trivial⟩
theorem impl_isOld.sound : Sound Tryz.prog 57 impl_isOld.s := by
  refine func_sound (f := impl_isOld.a) (G := impl_isOld.G) (fn := Tryz.f57) (body := bodyOf Tryz.prog 57) 1000 (by kernel_rfl) impl_isOld.E_ok Tryz.func57 (by kernel_rfl) (by kernel_rfl) (by kernel_rfl) (ptsOk_of (by kernel_rfl)) ?_ ?_ ?_ ?_
  · intro r H x h
    unfold impl_isOld.a at h
    simp only at h
    split at h
    · cases h; rfl
    · cases h
  · intro q avs H; rfl
  · intro k q pt avs H x _ h; cases h
  · intro k avs H o h
    try dsimp only at h
    split at h
    · cases h; exact impl_isOld.eq _ _
    · cases h

def impl_isData.a : FnA (Bool) := ⟨13, [.tmp 4], .bool, [], [], fun x H => match x, H with
  | .bs false r, [] => some r
  | _, _ => none⟩
def impl_isData.s : Spec := mkS [.agg [.val, .val, .val, .con .str], .val] (fun k avs H => match avs, H with
  | [.agg [.v (.int .i64 a0_0), .v (.int .i64 a0_1), .v (.int .i64 a0_2), .con .str a0_3], .v (.int .i64 a1)], [] => some (impl_isData.f a0_0 a0_1 a0_2 a0_3 a1)
  | _, _ => none) (fun r => (.bs false r, []))
def impl_isData.E : Env := [((46, []), impl_within.s)]
def impl_isData.G (k p : Nat) (avs : List AV) (H : List HE) : Option (Bool) := none
set_option maxRecDepth 100000 in
theorem impl_isData.eq (k : Nat) (a0_0 : Int) (a0_1 : Int) (a0_2 : Int) (a0_3 : List ByteArray) (a1 : Int) : fromTop Tryz.prog impl_isData.E k impl_isData.a (impl_isData.G k) 1000 (bodyOf Tryz.prog 58) [.agg [.v (.int .i64 a0_0), .v (.int .i64 a0_1), .v (.int .i64 a0_2), .con .str a0_3], .v (.int .i64 a1)] [] = impl_isData.f a0_0 a0_1 a0_2 a0_3 a1 := by kernel_rfl
theorem impl_isData.E_ok : EnvOk Tryz.prog impl_isData.E := ⟨⟨impl_within.sound, callable_of (by kernel_rfl)⟩, trivial⟩
theorem impl_isData.sound : Sound Tryz.prog 58 impl_isData.s := by
  refine func_sound (f := impl_isData.a) (G := impl_isData.G) (fn := Tryz.f58) (body := bodyOf Tryz.prog 58) 1000 (by kernel_rfl) impl_isData.E_ok Tryz.func58 (by kernel_rfl) (by kernel_rfl) (by kernel_rfl) (ptsOk_of (by kernel_rfl)) ?_ ?_ ?_ ?_
  · intro r H x h
    unfold impl_isData.a at h
    simp only at h
    split at h
    · cases h; rfl
    · cases h
  · intro q avs H; rfl
  · intro k q pt avs H x _ h; cases h
  · intro k avs H o h
    try dsimp only at h
    split at h
    · cases h; exact impl_isData.eq _ _ _ _ _ _
    · cases h

def impl_isDataRef.a : FnA (Bool) := ⟨17, [.tmp 4], .bool, [], [], fun x H => match x, H with
  | .bs false r, [] => some r
  | _, _ => none⟩
def impl_isDataRef.s : Spec := mkS [.agg [.val, .val, .val, .con .str], .val] (fun k avs H => match avs, H with
  | [.agg [.v (.int .i64 a0_0), .v (.int .i64 a0_1), .v (.int .i64 a0_2), .con .str a0_3], .v (.int .i64 a1)], [] => some (impl_isDataRef.f a0_0 a0_1 a0_2 a0_3 a1)
  | _, _ => none) (fun r => (.bs false r, []))
def impl_isDataRef.E : Env := [((57, []), impl_isOld.s), ((58, []), impl_isData.s)]
def impl_isDataRef.G (k p : Nat) (avs : List AV) (H : List HE) : Option (Bool) := none
set_option maxRecDepth 100000 in
theorem impl_isDataRef.eq (k : Nat) (a0_0 : Int) (a0_1 : Int) (a0_2 : Int) (a0_3 : List ByteArray) (a1 : Int) : fromTop Tryz.prog impl_isDataRef.E k impl_isDataRef.a (impl_isDataRef.G k) 1000 (bodyOf Tryz.prog 39) [.agg [.v (.int .i64 a0_0), .v (.int .i64 a0_1), .v (.int .i64 a0_2), .con .str a0_3], .v (.int .i64 a1)] [] = impl_isDataRef.f a0_0 a0_1 a0_2 a0_3 a1 := by kernel_rfl
theorem impl_isDataRef.E_ok : EnvOk Tryz.prog impl_isDataRef.E := ⟨⟨impl_isOld.sound, callable_of (by kernel_rfl)⟩, ⟨impl_isData.sound, callable_of (by kernel_rfl)⟩, trivial⟩
theorem impl_isDataRef.sound : Sound Tryz.prog 39 impl_isDataRef.s := by
  refine func_sound (f := impl_isDataRef.a) (G := impl_isDataRef.G) (fn := Tryz.f39) (body := bodyOf Tryz.prog 39) 1000 (by kernel_rfl) impl_isDataRef.E_ok Tryz.func39 (by kernel_rfl) (by kernel_rfl) (by kernel_rfl) (ptsOk_of (by kernel_rfl)) ?_ ?_ ?_ ?_
  · intro r H x h
    unfold impl_isDataRef.a at h
    simp only at h
    split at h
    · cases h; rfl
    · cases h
  · intro q avs H; rfl
  · intro k q pt avs H x _ h; cases h
  · intro k avs H o h
    try dsimp only at h
    split at h
    · cases h; exact impl_isDataRef.eq _ _ _ _ _ _
    · cases h

def impl_RootsOf_1.a : FnA (Bool) := ⟨8, [.tmp 3], .bool, [], [], fun x H => match x, H with
  | .bs false r, [] => some r
  | _, _ => none⟩
def impl_RootsOf_1.s : Spec := mkS [.val, .elt (.pair (.int .i64) (.pair (.int .i64) (.pair (.int .i64) (.sl .str))))] (fun k avs H => match avs, H with
  | [.v (.int .i64 a0), .elt (.pair (.int .i64) (.pair (.int .i64) (.pair (.int .i64) (.sl .str)))) a1 0], [] => some (impl_RootsOf_1.f a0 a1)
  | _, _ => none) (fun r => (.bs false r, []))
def impl_RootsOf_1.E : Env := [((39, []), impl_isDataRef.s)]
def impl_RootsOf_1.G (k p : Nat) (avs : List AV) (H : List HE) : Option (Bool) := none
set_option maxRecDepth 100000 in
theorem impl_RootsOf_1.eq (k : Nat) (a0 : Int) (a1 : Int × Int × Int × List ByteArray) : fromTop Tryz.prog impl_RootsOf_1.E k impl_RootsOf_1.a (impl_RootsOf_1.G k) 1000 (bodyOf Tryz.prog 38) [.v (.int .i64 a0), .elt (.pair (.int .i64) (.pair (.int .i64) (.pair (.int .i64) (.sl .str)))) a1 0] [] = impl_RootsOf_1.f a0 a1 := by kernel_rfl
theorem impl_RootsOf_1.E_ok : EnvOk Tryz.prog impl_RootsOf_1.E := ⟨⟨impl_isDataRef.sound, callable_of (by kernel_rfl)⟩, trivial⟩
theorem impl_RootsOf_1.sound : Sound Tryz.prog 38 impl_RootsOf_1.s := by
  refine func_sound (f := impl_RootsOf_1.a) (G := impl_RootsOf_1.G) (fn := Tryz.f38) (body := bodyOf Tryz.prog 38) 1000 (by kernel_rfl) impl_RootsOf_1.E_ok Tryz.func38 (by kernel_rfl) (by kernel_rfl) (by kernel_rfl) (ptsOk_of (by kernel_rfl)) ?_ ?_ ?_ ?_
  · intro r H x h
    unfold impl_RootsOf_1.a at h
    simp only at h
    split at h
    · cases h; rfl
    · cases h
  · intro q avs H; rfl
  · intro k q pt avs H x _ h; cases h
  · intro k avs H o h
    try dsimp only at h
    split at h
    · cases h; exact impl_RootsOf_1.eq _ _ _
    · cases h

def slices_IndexFunc_int64_at_impl_RootsOf_1.a : FnA (Int) := ⟨19, [.tmp 4], .val, [], [⟨6, [0, 1, 7, 8], [.con (.int .i64), .fn 38 0 [.elt (.pair (.int .i64) (.pair (.int .i64) (.pair (.int .i64) (.sl .str))))], .val, .val], []⟩], fun x H => match x, H with
  | .v (.int .i64 r), [] => some r
  | _, _ => none⟩
def slices_IndexFunc_int64_at_impl_RootsOf_1.s : Spec := mkS [.con (.int .i64), .fn 38 0 [.elt (.pair (.int .i64) (.pair (.int .i64) (.pair (.int .i64) (.sl .str))))]] (fun k avs H => match avs, H with
  | [.con (.int .i64) a0, .fn 38 0 [.elt (.pair (.int .i64) (.pair (.int .i64) (.pair (.int .i64) (.sl .str)))) a1_0 0]], [] => some (slices_IndexFunc_int64_at_impl_RootsOf_1.f k a0 a1_0)
  | _, _ => none) (fun r => (.v (.int .i64 r), []))
def slices_IndexFunc_int64_at_impl_RootsOf_1.E : Env := [((38, []), impl_RootsOf_1.s)]
def slices_IndexFunc_int64_at_impl_RootsOf_1.G6 (k : Nat) (avs : List AV) (H : List HE) : Option (Int) := match avs, H with
  | [.con (.int .i64) x0, .fn 38 0 [.elt (.pair (.int .i64) (.pair (.int .i64) (.pair (.int .i64) (.sl .str)))) x1_0 0], .v (.int .i64 x7), .v (.int .i64 x8)], [] => slices_IndexFunc_int64_at_impl_RootsOf_1.p6 k x0 x1_0 x7 x8
  | _, _ => none
def slices_IndexFunc_int64_at_impl_RootsOf_1.G (k p : Nat) (avs : List AV) (H : List HE) : Option (Int) := (pick1 6 (slices_IndexFunc_int64_at_impl_RootsOf_1.G6 k avs H) none p)
set_option maxRecDepth 100000 in
theorem slices_IndexFunc_int64_at_impl_RootsOf_1.eq (k : Nat) (a0 : List Int) (a1_0 : Int × Int × Int × List ByteArray) : fromTop Tryz.prog slices_IndexFunc_int64_at_impl_RootsOf_1.E k slices_IndexFunc_int64_at_impl_RootsOf_1.a (slices_IndexFunc_int64_at_impl_RootsOf_1.G k) 1000 (bodyOf Tryz.prog 56) [.con (.int .i64) a0, .fn 38 0 [.elt (.pair (.int .i64) (.pair (.int .i64) (.pair (.int .i64) (.sl .str)))) a1_0 0]] [] = slices_IndexFunc_int64_at_impl_RootsOf_1.f k a0 a1_0 := by kernel_rfl
set_option maxRecDepth 100000 in
theorem slices_IndexFunc_int64_at_impl_RootsOf_1.eq6 (k : Nat) (x0 : List Int) (x1_0 : Int × Int × Int × List ByteArray) (x7 : Int) (x8 : Int) : fromPt Tryz.prog slices_IndexFunc_int64_at_impl_RootsOf_1.E k slices_IndexFunc_int64_at_impl_RootsOf_1.a (slices_IndexFunc_int64_at_impl_RootsOf_1.G k) 1000 (bodyOf Tryz.prog 56) 6 [.con (.int .i64) x0, .fn 38 0 [.elt (.pair (.int .i64) (.pair (.int .i64) (.pair (.int .i64) (.sl .str)))) x1_0 0], .v (.int .i64 x7), .v (.int .i64 x8)] [] = slices_IndexFunc_int64_at_impl_RootsOf_1.p6 (k + 1) x0 x1_0 x7 x8 := by kernel_rfl
theorem slices_IndexFunc_int64_at_impl_RootsOf_1.G6_0 {avs : List AV} {H : List HE} : slices_IndexFunc_int64_at_impl_RootsOf_1.G6 0 avs H = none := by unfold slices_IndexFunc_int64_at_impl_RootsOf_1.G6; split <;> rfl
theorem slices_IndexFunc_int64_at_impl_RootsOf_1.G6_s (k : Nat) {avs : List AV} {H : List HE} {x : Int} (h : slices_IndexFunc_int64_at_impl_RootsOf_1.G6 (k + 1) avs H = some x) : fromPt Tryz.prog slices_IndexFunc_int64_at_impl_RootsOf_1.E k slices_IndexFunc_int64_at_impl_RootsOf_1.a (slices_IndexFunc_int64_at_impl_RootsOf_1.G k) 1000 (bodyOf Tryz.prog 56) 6 avs H = some x := by
  unfold slices_IndexFunc_int64_at_impl_RootsOf_1.G6 at h
  split at h
  · rw [← h]; exact slices_IndexFunc_int64_at_impl_RootsOf_1.eq6 _ _ _ _ _
  · cases h
theorem slices_IndexFunc_int64_at_impl_RootsOf_1.E_ok : EnvOk Tryz.prog slices_IndexFunc_int64_at_impl_RootsOf_1.E := ⟨⟨impl_RootsOf_1.sound, callable_of (by kernel_rfl)⟩, trivial⟩
theorem slices_IndexFunc_int64_at_impl_RootsOf_1.sound : Sound Tryz.prog 56 slices_IndexFunc_int64_at_impl_RootsOf_1.s := by
  refine func_sound (f := slices_IndexFunc_int64_at_impl_RootsOf_1.a) (G := slices_IndexFunc_int64_at_impl_RootsOf_1.G) (fn := Tryz.f56) (body := bodyOf Tryz.prog 56) 1000 (by kernel_rfl) slices_IndexFunc_int64_at_impl_RootsOf_1.E_ok Tryz.func56 (by kernel_rfl) (by kernel_rfl) (by kernel_rfl) (ptsOk_of (by kernel_rfl)) ?_ ?_ ?_ ?_
  · intro r H x h
    unfold slices_IndexFunc_int64_at_impl_RootsOf_1.a at h
    simp only at h
    split at h
    · cases h; rfl
    · cases h
  · exact fun q avs H => pick1_none slices_IndexFunc_int64_at_impl_RootsOf_1.G6_0 (rfl)
  · intro k q pt avs H x _ h
    rcases pick1_some h with ⟨rfl, h⟩ | h
    · exact slices_IndexFunc_int64_at_impl_RootsOf_1.G6_s _ h
    cases h
  · intro k avs H o h
    try dsimp only at h
    split at h
    · cases h; exact slices_IndexFunc_int64_at_impl_RootsOf_1.eq _ _ _
    · cases h

def slices_ContainsFunc_int64_at_impl_RootsOf_1.a : FnA (Bool) := ⟨9, [.tmp 4], .bool, [], [], fun x H => match x, H with
  | .bs false r, [] => some r
  | _, _ => none⟩
def slices_ContainsFunc_int64_at_impl_RootsOf_1.s : Spec := mkS [.con (.int .i64), .fn 38 0 [.elt (.pair (.int .i64) (.pair (.int .i64) (.pair (.int .i64) (.sl .str))))]] (fun k avs H => match avs, H with
  | [.con (.int .i64) a0, .fn 38 0 [.elt (.pair (.int .i64) (.pair (.int .i64) (.pair (.int .i64) (.sl .str)))) a1_0 0]], [] => some (slices_ContainsFunc_int64_at_impl_RootsOf_1.f k a0 a1_0)
  | _, _ => none) (fun r => (.bs false r, []))
def slices_ContainsFunc_int64_at_impl_RootsOf_1.E : Env := [((56, [38]), slices_IndexFunc_int64_at_impl_RootsOf_1.s)]
def slices_ContainsFunc_int64_at_impl_RootsOf_1.G (k p : Nat) (avs : List AV) (H : List HE) : Option (Bool) := none
set_option maxRecDepth 100000 in
theorem slices_ContainsFunc_int64_at_impl_RootsOf_1.eq (k : Nat) (a0 : List Int) (a1_0 : Int × Int × Int × List ByteArray) : fromTop Tryz.prog slices_ContainsFunc_int64_at_impl_RootsOf_1.E k slices_ContainsFunc_int64_at_impl_RootsOf_1.a (slices_ContainsFunc_int64_at_impl_RootsOf_1.G k) 1000 (bodyOf Tryz.prog 37) [.con (.int .i64) a0, .fn 38 0 [.elt (.pair (.int .i64) (.pair (.int .i64) (.pair (.int .i64) (.sl .str)))) a1_0 0]] [] = slices_ContainsFunc_int64_at_impl_RootsOf_1.f k a0 a1_0 := by kernel_rfl
theorem slices_ContainsFunc_int64_at_impl_RootsOf_1.E_ok : EnvOk Tryz.prog slices_ContainsFunc_int64_at_impl_RootsOf_1.E := ⟨⟨slices_IndexFunc_int64_at_impl_RootsOf_1.sound, callable_of (by kernel_rfl)⟩, trivial⟩
theorem slices_ContainsFunc_int64_at_impl_RootsOf_1.sound : Sound Tryz.prog 37 slices_ContainsFunc_int64_at_impl_RootsOf_1.s := by
  refine func_sound (f := slices_ContainsFunc_int64_at_impl_RootsOf_1.a) (G := slices_ContainsFunc_int64_at_impl_RootsOf_1.G) (fn := Tryz.f37) (body := bodyOf Tryz.prog 37) 1000 (by kernel_rfl) slices_ContainsFunc_int64_at_impl_RootsOf_1.E_ok Tryz.func37 (by kernel_rfl) (by kernel_rfl) (by kernel_rfl) (ptsOk_of (by kernel_rfl)) ?_ ?_ ?_ ?_
  · intro r H x h
    unfold slices_ContainsFunc_int64_at_impl_RootsOf_1.a at h
    simp only at h
    split at h
    · cases h; rfl
    · cases h
  · intro q avs H; rfl
  · intro k q pt avs H x _ h; cases h
  · intro k avs H o h
    try dsimp only at h
    split at h
    · cases h; exact slices_ContainsFunc_int64_at_impl_RootsOf_1.eq _ _ _
    · cases h

def impl_RootsOf.a : FnA (List Int × Bool) := ⟨17, [.tmp 4, .tmp 5], .tup [.row 2 (.int .i64), .bool], [], [], fun x H => match x, H with
  | .tup [.own 0, .bs false r_1], [.row 2 (.int .i64) r_0] => some (r_0, r_1)
  | _, _ => none⟩
def impl_RootsOf.s : Spec := mkS [.agg [.val, .val, .val, .con .str], .val] (fun k avs H => match avs, H with
  | [.agg [.v (.int .i64 a0_0), .v (.int .i64 a0_1), .v (.int .i64 a0_2), .con .str a0_3], .v (.string a1)], [] => some (impl_RootsOf.f k a0_0 a0_1 a0_2 a0_3 a1)
  | _, _ => none) (fun r => (.tup [.own 0, .bs false r.2], [.row 2 (.int .i64) r.1]))
def impl_RootsOf.E : Env := [((35, []), impl_isImage.s), ((36, []), impl_wordsOf.s), ((37, [38]), slices_ContainsFunc_int64_at_impl_RootsOf_1.s)]
def impl_RootsOf.G (k p : Nat) (avs : List AV) (H : List HE) : Option (List Int × Bool) := none
set_option maxRecDepth 100000 in
theorem impl_RootsOf.eq (k : Nat) (a0_0 : Int) (a0_1 : Int) (a0_2 : Int) (a0_3 : List ByteArray) (a1 : ByteArray) : fromTop Tryz.prog impl_RootsOf.E k impl_RootsOf.a (impl_RootsOf.G k) 1000 (bodyOf Tryz.prog 18) [.agg [.v (.int .i64 a0_0), .v (.int .i64 a0_1), .v (.int .i64 a0_2), .con .str a0_3], .v (.string a1)] [] = impl_RootsOf.f k a0_0 a0_1 a0_2 a0_3 a1 := by kernel_rfl
theorem impl_RootsOf.E_ok : EnvOk Tryz.prog impl_RootsOf.E := ⟨⟨impl_isImage.sound, callable_of (by kernel_rfl)⟩, ⟨impl_wordsOf.sound, callable_of (by kernel_rfl)⟩, ⟨slices_ContainsFunc_int64_at_impl_RootsOf_1.sound, callable_of (by kernel_rfl)⟩, trivial⟩
theorem impl_RootsOf.sound : Sound Tryz.prog 18 impl_RootsOf.s := by
  refine func_sound (f := impl_RootsOf.a) (G := impl_RootsOf.G) (fn := Tryz.f18) (body := bodyOf Tryz.prog 18) 1000 (by kernel_rfl) impl_RootsOf.E_ok Tryz.func18 (by kernel_rfl) (by kernel_rfl) (by kernel_rfl) (ptsOk_of (by kernel_rfl)) ?_ ?_ ?_ ?_
  · intro r H x h
    unfold impl_RootsOf.a at h
    simp only at h
    split at h
    · cases h; rfl
    · cases h
  · intro q avs H; rfl
  · intro k q pt avs H x _ h; cases h
  · intro k avs H o h
    try dsimp only at h
    split at h
    · cases h; exact impl_RootsOf.eq _ _ _ _ _ _
    · cases h

def impl_walked_1.a : FnA (Bool) := ⟨8, [.tmp 3], .bool, [], [], fun x H => match x, H with
  | .bs false r, [] => some r
  | _, _ => none⟩
def impl_walked_1.s : Spec := mkS [.val, .elt (.pair (.int .i64) (.pair (.int .i64) (.pair (.int .i64) (.sl .str))))] (fun k avs H => match avs, H with
  | [.v (.int .i64 a0), .elt (.pair (.int .i64) (.pair (.int .i64) (.pair (.int .i64) (.sl .str)))) a1 0], [] => some (impl_walked_1.f a0 a1)
  | _, _ => none) (fun r => (.bs false r, []))
def impl_walked_1.E : Env := [((39, []), impl_isDataRef.s)]
def impl_walked_1.G (k p : Nat) (avs : List AV) (H : List HE) : Option (Bool) := none
set_option maxRecDepth 100000 in
theorem impl_walked_1.eq (k : Nat) (a0 : Int) (a1 : Int × Int × Int × List ByteArray) : fromTop Tryz.prog impl_walked_1.E k impl_walked_1.a (impl_walked_1.G k) 1000 (bodyOf Tryz.prog 40) [.v (.int .i64 a0), .elt (.pair (.int .i64) (.pair (.int .i64) (.pair (.int .i64) (.sl .str)))) a1 0] [] = impl_walked_1.f a0 a1 := by kernel_rfl
theorem impl_walked_1.E_ok : EnvOk Tryz.prog impl_walked_1.E := ⟨⟨impl_isDataRef.sound, callable_of (by kernel_rfl)⟩, trivial⟩
theorem impl_walked_1.sound : Sound Tryz.prog 40 impl_walked_1.s := by
  refine func_sound (f := impl_walked_1.a) (G := impl_walked_1.G) (fn := Tryz.f40) (body := bodyOf Tryz.prog 40) 1000 (by kernel_rfl) impl_walked_1.E_ok Tryz.func40 (by kernel_rfl) (by kernel_rfl) (by kernel_rfl) (ptsOk_of (by kernel_rfl)) ?_ ?_ ?_ ?_
  · intro r H x h
    unfold impl_walked_1.a at h
    simp only at h
    split at h
    · cases h; rfl
    · cases h
  · intro q avs H; rfl
  · intro k q pt avs H x _ h; cases h
  · intro k avs H o h
    try dsimp only at h
    split at h
    · cases h; exact impl_walked_1.eq _ _ _
    · cases h

def slices_IndexFunc_int64_at_impl_walked_1.a : FnA (Int) := ⟨19, [.tmp 4], .val, [], [⟨6, [0, 1, 7, 8], [.con (.int .i64), .fn 40 0 [.elt (.pair (.int .i64) (.pair (.int .i64) (.pair (.int .i64) (.sl .str))))], .val, .val], []⟩], fun x H => match x, H with
  | .v (.int .i64 r), [] => some r
  | _, _ => none⟩
def slices_IndexFunc_int64_at_impl_walked_1.s : Spec := mkS [.con (.int .i64), .fn 40 0 [.elt (.pair (.int .i64) (.pair (.int .i64) (.pair (.int .i64) (.sl .str))))]] (fun k avs H => match avs, H with
  | [.con (.int .i64) a0, .fn 40 0 [.elt (.pair (.int .i64) (.pair (.int .i64) (.pair (.int .i64) (.sl .str)))) a1_0 0]], [] => some (slices_IndexFunc_int64_at_impl_walked_1.f k a0 a1_0)
  | _, _ => none) (fun r => (.v (.int .i64 r), []))
def slices_IndexFunc_int64_at_impl_walked_1.E : Env := [((40, []), impl_walked_1.s)]
def slices_IndexFunc_int64_at_impl_walked_1.G6 (k : Nat) (avs : List AV) (H : List HE) : Option (Int) := match avs, H with
  | [.con (.int .i64) x0, .fn 40 0 [.elt (.pair (.int .i64) (.pair (.int .i64) (.pair (.int .i64) (.sl .str)))) x1_0 0], .v (.int .i64 x7), .v (.int .i64 x8)], [] => slices_IndexFunc_int64_at_impl_walked_1.p6 k x0 x1_0 x7 x8
  | _, _ => none
def slices_IndexFunc_int64_at_impl_walked_1.G (k p : Nat) (avs : List AV) (H : List HE) : Option (Int) := (pick1 6 (slices_IndexFunc_int64_at_impl_walked_1.G6 k avs H) none p)
set_option maxRecDepth 100000 in
theorem slices_IndexFunc_int64_at_impl_walked_1.eq (k : Nat) (a0 : List Int) (a1_0 : Int × Int × Int × List ByteArray) : fromTop Tryz.prog slices_IndexFunc_int64_at_impl_walked_1.E k slices_IndexFunc_int64_at_impl_walked_1.a (slices_IndexFunc_int64_at_impl_walked_1.G k) 1000 (bodyOf Tryz.prog 56) [.con (.int .i64) a0, .fn 40 0 [.elt (.pair (.int .i64) (.pair (.int .i64) (.pair (.int .i64) (.sl .str)))) a1_0 0]] [] = slices_IndexFunc_int64_at_impl_walked_1.f k a0 a1_0 := by kernel_rfl
set_option maxRecDepth 100000 in
theorem slices_IndexFunc_int64_at_impl_walked_1.eq6 (k : Nat) (x0 : List Int) (x1_0 : Int × Int × Int × List ByteArray) (x7 : Int) (x8 : Int) : fromPt Tryz.prog slices_IndexFunc_int64_at_impl_walked_1.E k slices_IndexFunc_int64_at_impl_walked_1.a (slices_IndexFunc_int64_at_impl_walked_1.G k) 1000 (bodyOf Tryz.prog 56) 6 [.con (.int .i64) x0, .fn 40 0 [.elt (.pair (.int .i64) (.pair (.int .i64) (.pair (.int .i64) (.sl .str)))) x1_0 0], .v (.int .i64 x7), .v (.int .i64 x8)] [] = slices_IndexFunc_int64_at_impl_walked_1.p6 (k + 1) x0 x1_0 x7 x8 := by kernel_rfl
theorem slices_IndexFunc_int64_at_impl_walked_1.G6_0 {avs : List AV} {H : List HE} : slices_IndexFunc_int64_at_impl_walked_1.G6 0 avs H = none := by unfold slices_IndexFunc_int64_at_impl_walked_1.G6; split <;> rfl
theorem slices_IndexFunc_int64_at_impl_walked_1.G6_s (k : Nat) {avs : List AV} {H : List HE} {x : Int} (h : slices_IndexFunc_int64_at_impl_walked_1.G6 (k + 1) avs H = some x) : fromPt Tryz.prog slices_IndexFunc_int64_at_impl_walked_1.E k slices_IndexFunc_int64_at_impl_walked_1.a (slices_IndexFunc_int64_at_impl_walked_1.G k) 1000 (bodyOf Tryz.prog 56) 6 avs H = some x := by
  unfold slices_IndexFunc_int64_at_impl_walked_1.G6 at h
  split at h
  · rw [← h]; exact slices_IndexFunc_int64_at_impl_walked_1.eq6 _ _ _ _ _
  · cases h
theorem slices_IndexFunc_int64_at_impl_walked_1.E_ok : EnvOk Tryz.prog slices_IndexFunc_int64_at_impl_walked_1.E := ⟨⟨impl_walked_1.sound, callable_of (by kernel_rfl)⟩, trivial⟩
theorem slices_IndexFunc_int64_at_impl_walked_1.sound : Sound Tryz.prog 56 slices_IndexFunc_int64_at_impl_walked_1.s := by
  refine func_sound (f := slices_IndexFunc_int64_at_impl_walked_1.a) (G := slices_IndexFunc_int64_at_impl_walked_1.G) (fn := Tryz.f56) (body := bodyOf Tryz.prog 56) 1000 (by kernel_rfl) slices_IndexFunc_int64_at_impl_walked_1.E_ok Tryz.func56 (by kernel_rfl) (by kernel_rfl) (by kernel_rfl) (ptsOk_of (by kernel_rfl)) ?_ ?_ ?_ ?_
  · intro r H x h
    unfold slices_IndexFunc_int64_at_impl_walked_1.a at h
    simp only at h
    split at h
    · cases h; rfl
    · cases h
  · exact fun q avs H => pick1_none slices_IndexFunc_int64_at_impl_walked_1.G6_0 (rfl)
  · intro k q pt avs H x _ h
    rcases pick1_some h with ⟨rfl, h⟩ | h
    · exact slices_IndexFunc_int64_at_impl_walked_1.G6_s _ h
    cases h
  · intro k avs H o h
    try dsimp only at h
    split at h
    · cases h; exact slices_IndexFunc_int64_at_impl_walked_1.eq _ _ _
    · cases h

def slices_ContainsFunc_int64_at_impl_walked_1.a : FnA (Bool) := ⟨9, [.tmp 4], .bool, [], [], fun x H => match x, H with
  | .bs false r, [] => some r
  | _, _ => none⟩
def slices_ContainsFunc_int64_at_impl_walked_1.s : Spec := mkS [.con (.int .i64), .fn 40 0 [.elt (.pair (.int .i64) (.pair (.int .i64) (.pair (.int .i64) (.sl .str))))]] (fun k avs H => match avs, H with
  | [.con (.int .i64) a0, .fn 40 0 [.elt (.pair (.int .i64) (.pair (.int .i64) (.pair (.int .i64) (.sl .str)))) a1_0 0]], [] => some (slices_ContainsFunc_int64_at_impl_walked_1.f k a0 a1_0)
  | _, _ => none) (fun r => (.bs false r, []))
def slices_ContainsFunc_int64_at_impl_walked_1.E : Env := [((56, [40]), slices_IndexFunc_int64_at_impl_walked_1.s)]
def slices_ContainsFunc_int64_at_impl_walked_1.G (k p : Nat) (avs : List AV) (H : List HE) : Option (Bool) := none
set_option maxRecDepth 100000 in
theorem slices_ContainsFunc_int64_at_impl_walked_1.eq (k : Nat) (a0 : List Int) (a1_0 : Int × Int × Int × List ByteArray) : fromTop Tryz.prog slices_ContainsFunc_int64_at_impl_walked_1.E k slices_ContainsFunc_int64_at_impl_walked_1.a (slices_ContainsFunc_int64_at_impl_walked_1.G k) 1000 (bodyOf Tryz.prog 37) [.con (.int .i64) a0, .fn 40 0 [.elt (.pair (.int .i64) (.pair (.int .i64) (.pair (.int .i64) (.sl .str)))) a1_0 0]] [] = slices_ContainsFunc_int64_at_impl_walked_1.f k a0 a1_0 := by kernel_rfl
theorem slices_ContainsFunc_int64_at_impl_walked_1.E_ok : EnvOk Tryz.prog slices_ContainsFunc_int64_at_impl_walked_1.E := ⟨⟨slices_IndexFunc_int64_at_impl_walked_1.sound, callable_of (by kernel_rfl)⟩, trivial⟩
theorem slices_ContainsFunc_int64_at_impl_walked_1.sound : Sound Tryz.prog 37 slices_ContainsFunc_int64_at_impl_walked_1.s := by
  refine func_sound (f := slices_ContainsFunc_int64_at_impl_walked_1.a) (G := slices_ContainsFunc_int64_at_impl_walked_1.G) (fn := Tryz.f37) (body := bodyOf Tryz.prog 37) 1000 (by kernel_rfl) slices_ContainsFunc_int64_at_impl_walked_1.E_ok Tryz.func37 (by kernel_rfl) (by kernel_rfl) (by kernel_rfl) (ptsOk_of (by kernel_rfl)) ?_ ?_ ?_ ?_
  · intro r H x h
    unfold slices_ContainsFunc_int64_at_impl_walked_1.a at h
    simp only at h
    split at h
    · cases h; rfl
    · cases h
  · intro q avs H; rfl
  · intro k q pt avs H x _ h; cases h
  · intro k avs H o h
    try dsimp only at h
    split at h
    · cases h; exact slices_ContainsFunc_int64_at_impl_walked_1.eq _ _ _
    · cases h

def impl_walked_2.a : FnA ((Int → Option Bool) × List (Int × Int × List Int)) := ⟨16, [], .tup [], [.box [.mp .bool], .keep, .box [.tre 0 53 2 (.pair (.int .i64) (.pair (.int .i64) (.sl (.int .i64))))], .drop], [], fun x H => match x, H with
  | .tup [], [.box [.mp 1], .mp .bool h1, .box [.own 4], .gone, .tre 0 none 53 2 (.pair (.int .i64) (.pair (.int .i64) (.sl (.int .i64)))) h2_0 none] => some (h1, h2_0)
  | _, _ => none⟩
def impl_walked_2.s : Spec := mkS [.val, .box [.mp .bool], .box [.tre 0 53 2 (.pair (.int .i64) (.pair (.int .i64) (.sl (.int .i64))))]] (fun k avs H => match avs, H with
  | [.v (.int .i64 a0), .box 0 0, .box 2 0], [.box [.mp 1], .mp .bool a1_0, .box [.own 3], .tre 0 none 53 2 (.pair (.int .i64) (.pair (.int .i64) (.sl (.int .i64)))) a2_0 none] => some (impl_walked_2.f a0 a1_0 a2_0)
  | _, _ => none) (fun r => (.tup [], [.box [.mp 1], .mp .bool r.1, .box [.own 4], .gone, .tre 0 none 53 2 (.pair (.int .i64) (.pair (.int .i64) (.sl (.int .i64)))) r.2 none]))
def impl_walked_2.E : Env := []
def impl_walked_2.G (k p : Nat) (avs : List AV) (H : List HE) : Option ((Int → Option Bool) × List (Int × Int × List Int)) := none
set_option maxRecDepth 100000 in
theorem impl_walked_2.eq (k : Nat) (a0 : Int) (a1_0 : (Int → Option Bool)) (a2_0 : List (Int × Int × List Int)) : fromTop Tryz.prog impl_walked_2.E k impl_walked_2.a (impl_walked_2.G k) 1000 (bodyOf Tryz.prog 41) [.v (.int .i64 a0), .box 0 0, .box 2 0] [.box [.mp 1], .mp .bool a1_0, .box [.own 3], .tre 0 none 53 2 (.pair (.int .i64) (.pair (.int .i64) (.sl (.int .i64)))) a2_0 none] = impl_walked_2.f a0 a1_0 a2_0 := by kernel_rfl
theorem impl_walked_2.E_ok : EnvOk Tryz.prog impl_walked_2.E := trivial
theorem impl_walked_2.sound : Sound Tryz.prog 41 impl_walked_2.s := by
  refine func_sound (f := impl_walked_2.a) (G := impl_walked_2.G) (fn := Tryz.f41) (body := bodyOf Tryz.prog 41) 1000 (by kernel_rfl) impl_walked_2.E_ok Tryz.func41 (by kernel_rfl) (by kernel_rfl) (by kernel_rfl) (ptsOk_of (by kernel_rfl)) ?_ ?_ ?_ ?_
  · intro r H x h
    unfold impl_walked_2.a at h
    simp only at h
    split at h
    · cases h; rfl
    · cases h
  · intro q avs H; rfl
  · intro k q pt avs H x _ h; cases h
  · intro k avs H o h
    try dsimp only at h
    split at h
    · cases h; exact impl_walked_2.eq _ _ _ _
    · cases h

def strings_Repeat.s : Spec := mkS [.val, .val] (fun _ avs H => match avs, H with
  | [.v (.string a0), .v (.int .i64 a1)], [] => some (strings_Repeat.f a0 a1)
  | _, _ => none) (fun r => (.v (.string r), []))
theorem strings_Repeat.sound : Sound Tryz.prog 59 strings_Repeat.s := by
  refine sound_plain (emb := fun r => .v (.string r)) ?_
  intro k avs H o x h hx
  split at h
  case h_2 => cases h
  rename_i a0 a1
  cases h
  refine ⟨rfl, fun M w ρ hp vals hr => ?_⟩
  obtain ⟨v0, q0, rfl, rfl, v1, q1, rfl, rfl, rfl⟩ := hr
  unfold strings_Repeat.f at hx
  split at hx
  case isFalse => cases hx
  rename_i h0
  split at hx
  case isFalse => cases hx
  rename_i h1
  split at hx
  case isFalse => cases hx
  rename_i h2
  cases hx
  obtain ⟨c, rfl⟩ := Int.eq_ofNat_of_zero_le h0
  rw [Int.toNat_natCast]
  have hb : a0.size * c ≤ 1048576 * 1048576 := Nat.mul_le_mul h2 (by omega)
  refine (Go.Proofs.Tryz.strings_Repeat a0 c w (by omega) (by omega)).mono ?_
  rintro e w' ⟨rfl, hb⟩
  exact ⟨_, rfl, hb, fun _ _ _ _ => rfl⟩

def impl_zeros.a : FnA (ByteArray) := ⟨5, [.tmp 2], .val, [], [], fun x H => match x, H with
  | .v (.string r), [] => some r
  | _, _ => none⟩
def impl_zeros.s : Spec := mkS [.val] (fun k avs H => match avs, H with
  | [.v (.int .i64 a0)], [] => some (impl_zeros.f a0)
  | _, _ => none) (fun r => (.v (.string r), []))
def impl_zeros.E : Env := [((59, []), strings_Repeat.s)]
def impl_zeros.G (k p : Nat) (avs : List AV) (H : List HE) : Option (ByteArray) := none
set_option maxRecDepth 100000 in
theorem impl_zeros.eq (k : Nat) (a0 : Int) : fromTop Tryz.prog impl_zeros.E k impl_zeros.a (impl_zeros.G k) 1000 (bodyOf Tryz.prog 42) [.v (.int .i64 a0)] [] = impl_zeros.f a0 := by kernel_rfl
theorem impl_zeros.E_ok : EnvOk Tryz.prog impl_zeros.E := ⟨⟨strings_Repeat.sound, callable_of (by kernel_rfl)⟩, trivial⟩
theorem impl_zeros.sound : Sound Tryz.prog 42 impl_zeros.s := by
  refine func_sound (f := impl_zeros.a) (G := impl_zeros.G) (fn := Tryz.f42) (body := bodyOf Tryz.prog 42) 1000 (by kernel_rfl) impl_zeros.E_ok Tryz.func42 (by kernel_rfl) (by kernel_rfl) (by kernel_rfl) (ptsOk_of (by kernel_rfl)) ?_ ?_ ?_ ?_
  · intro r H x h
    unfold impl_zeros.a at h
    simp only at h
    split at h
    · cases h; rfl
    · cases h
  · intro q avs H; rfl
  · intro k q pt avs H x _ h; cases h
  · intro k avs H o h
    try dsimp only at h
    split at h
    · cases h; exact impl_zeros.eq _ _
    · cases h

def impl_runOf.a : FnA (Int) := ⟨7, [.tmp 2], .val, [], [], fun x H => match x, H with
  | .v (.int .i64 r), [] => some r
  | _, _ => none⟩
def impl_runOf.s : Spec := mkS [.val] (fun k avs H => match avs, H with
  | [.v (.string a0)], [] => some (impl_runOf.f a0)
  | _, _ => none) (fun r => (.v (.int .i64 r), []))
def impl_runOf.E : Env := []
def impl_runOf.G (k p : Nat) (avs : List AV) (H : List HE) : Option (Int) := none
set_option maxRecDepth 100000 in
theorem impl_runOf.eq (k : Nat) (a0 : ByteArray) : fromTop Tryz.prog impl_runOf.E k impl_runOf.a (impl_runOf.G k) 1000 (bodyOf Tryz.prog 45) [.v (.string a0)] [] = impl_runOf.f a0 := by kernel_rfl
theorem impl_runOf.E_ok : EnvOk Tryz.prog impl_runOf.E := trivial
theorem impl_runOf.sound : Sound Tryz.prog 45 impl_runOf.s := by
  refine func_sound (f := impl_runOf.a) (G := impl_runOf.G) (fn := Tryz.f45) (body := bodyOf Tryz.prog 45) 1000 (by kernel_rfl) impl_runOf.E_ok Tryz.func45 (by kernel_rfl) (by kernel_rfl) (by kernel_rfl) (ptsOk_of (by kernel_rfl)) ?_ ?_ ?_ ?_
  · intro r H x h
    unfold impl_runOf.a at h
    simp only at h
    split at h
    · cases h; rfl
    · cases h
  · intro q avs H; rfl
  · intro k q pt avs H x _ h; cases h
  · intro k avs H o h
    try dsimp only at h
    split at h
    · cases h; exact impl_runOf.eq _ _
    · cases h

def impl_objectOf.a : FnA (Int × List Int) := ⟨31, [.cell 6 46], .agg [.val, .row 2 (.int .i64)], [], [⟨8, [2, 6, 7, 15, 16], [.val, .box [.val, .val], .box [.val, .row 2 (.int .i64)], .val, .val], []⟩], fun x H => match x, H with
  | .agg [.v (.int .i64 r_0), .own 0], [.row 2 (.int .i64) r_1] => some (r_0, r_1)
  | _, _ => none⟩
def impl_objectOf.s : Spec := mkS [.con .str, .val, .val] (fun k avs H => match avs, H with
  | [.con .str a0, .v (.int .i64 a1), .v (.string a2)], [] => some (impl_objectOf.f k a0 a1 a2)
  | _, _ => none) (fun r => (.agg [.v (.int .i64 r.1), .own 0], [.row 2 (.int .i64) r.2]))
def impl_objectOf.E : Env := [((55, []), impl_wordAt.s)]
def impl_objectOf.G8 (k : Nat) (avs : List AV) (H : List HE) : Option (Int × List Int) := match avs, H with
  | [.v (.string x2), .box 0 0, .box 1 0, .v (.int .i64 x15), .v (.int .i64 x16)], [.box [.v (.int .i64 x6_0), .v (.slice none 0 0)], .box [.v (.int .i64 x7_0), .own 2], .row 2 (.int .i64) x7_1] => impl_objectOf.p8 k x2 x6_0 x7_0 x7_1 x15 x16
  | _, _ => none
def impl_objectOf.G (k p : Nat) (avs : List AV) (H : List HE) : Option (Int × List Int) := (pick1 8 (impl_objectOf.G8 k avs H) none p)
set_option maxRecDepth 100000 in
theorem impl_objectOf.eq (k : Nat) (a0 : List ByteArray) (a1 : Int) (a2 : ByteArray) : fromTop Tryz.prog impl_objectOf.E k impl_objectOf.a (impl_objectOf.G k) 1000 (bodyOf Tryz.prog 80) [.con .str a0, .v (.int .i64 a1), .v (.string a2)] [] = impl_objectOf.f k a0 a1 a2 := by kernel_rfl
set_option maxRecDepth 100000 in
theorem impl_objectOf.eq8 (k : Nat) (x2 : ByteArray) (x6_0 : Int) (x7_0 : Int) (x7_1 : List Int) (x15 : Int) (x16 : Int) : fromPt Tryz.prog impl_objectOf.E k impl_objectOf.a (impl_objectOf.G k) 1000 (bodyOf Tryz.prog 80) 8 [.v (.string x2), .box 0 0, .box 1 0, .v (.int .i64 x15), .v (.int .i64 x16)] [.box [.v (.int .i64 x6_0), .v (.slice none 0 0)], .box [.v (.int .i64 x7_0), .own 2], .row 2 (.int .i64) x7_1] = impl_objectOf.p8 (k + 1) x2 x6_0 x7_0 x7_1 x15 x16 := by kernel_rfl
theorem impl_objectOf.G8_0 {avs : List AV} {H : List HE} : impl_objectOf.G8 0 avs H = none := by unfold impl_objectOf.G8; split <;> rfl
theorem impl_objectOf.G8_s (k : Nat) {avs : List AV} {H : List HE} {x : Int × List Int} (h : impl_objectOf.G8 (k + 1) avs H = some x) : fromPt Tryz.prog impl_objectOf.E k impl_objectOf.a (impl_objectOf.G k) 1000 (bodyOf Tryz.prog 80) 8 avs H = some x := by
  unfold impl_objectOf.G8 at h
  split at h
  · rw [← h]; exact impl_objectOf.eq8 _ _ _ _ _ _ _
  · cases h
theorem impl_objectOf.E_ok : EnvOk Tryz.prog impl_objectOf.E := ⟨⟨impl_wordAt.sound, callable_of (by kernel_rfl)⟩, trivial⟩
theorem impl_objectOf.sound : Sound Tryz.prog 80 impl_objectOf.s := by
  refine func_sound (f := impl_objectOf.a) (G := impl_objectOf.G) (fn := Tryz.f80) (body := bodyOf Tryz.prog 80) 1000 (by kernel_rfl) impl_objectOf.E_ok Tryz.func80 (by kernel_rfl) (by kernel_rfl) (by kernel_rfl) (ptsOk_of (by kernel_rfl)) ?_ ?_ ?_ ?_
  · intro r H x h
    unfold impl_objectOf.a at h
    simp only at h
    split at h
    · cases h; rfl
    · cases h
  · exact fun q avs H => pick1_none impl_objectOf.G8_0 (rfl)
  · intro k q pt avs H x _ h
    rcases pick1_some h with ⟨rfl, h⟩ | h
    · exact impl_objectOf.G8_s _ h
    cases h
  · intro k avs H o h
    try dsimp only at h
    split at h
    · cases h; exact impl_objectOf.eq _ _ _ _
    · cases h

def impl_ObjOk_1.a : FnA (Bool) := ⟨6, [.tmp 2], .bool, [], [], fun x H => match x, H with
  | .bs false r, [] => some r
  | _, _ => none⟩
def impl_ObjOk_1.s : Spec := mkS [.val] (fun k avs H => match avs, H with
  | [.v (.int .i64 a0)], [] => some (impl_ObjOk_1.f a0)
  | _, _ => none) (fun r => (.bs false r, []))
def impl_ObjOk_1.E : Env := [((73, []), impl_RefKind.s)]
def impl_ObjOk_1.G (k p : Nat) (avs : List AV) (H : List HE) : Option (Bool) := none
set_option maxRecDepth 100000 in
theorem impl_ObjOk_1.eq (k : Nat) (a0 : Int) : fromTop Tryz.prog impl_ObjOk_1.E k impl_ObjOk_1.a (impl_ObjOk_1.G k) 1000 (bodyOf Tryz.prog 102) [.v (.int .i64 a0)] [] = impl_ObjOk_1.f a0 := by kernel_rfl
theorem impl_ObjOk_1.E_ok : EnvOk Tryz.prog impl_ObjOk_1.E := ⟨⟨impl_RefKind.sound, callable_of (by kernel_rfl)⟩, trivial⟩
theorem impl_ObjOk_1.sound : Sound Tryz.prog 102 impl_ObjOk_1.s := by
  refine func_sound (f := impl_ObjOk_1.a) (G := impl_ObjOk_1.G) (fn := Tryz.f102) (body := bodyOf Tryz.prog 102) 1000 (by kernel_rfl) impl_ObjOk_1.E_ok Tryz.func102 (by kernel_rfl) (by kernel_rfl) (by kernel_rfl) (ptsOk_of (by kernel_rfl)) ?_ ?_ ?_ ?_
  · intro r H x h
    unfold impl_ObjOk_1.a at h
    simp only at h
    split at h
    · cases h; rfl
    · cases h
  · intro q avs H; rfl
  · intro k q pt avs H x _ h; cases h
  · intro k avs H o h
    try dsimp only at h
    split at h
    · cases h; exact impl_ObjOk_1.eq _ _
    · cases h

def impl_isObject_at_impl_ObjOk_1.a : FnA (Bool) := ⟨51, [.tmp 6], .bool, [], [⟨14, [0, 2, 4, 29, 30, 31], [.con .str, .fn 102 0 [], .box [.val, .con (.int .i64)], .con (.int .i64), .val, .val], []⟩], fun x H => match x, H with
  | .bs false r, [] => some r
  | _, _ => none⟩
def impl_isObject_at_impl_ObjOk_1.s : Spec := mkS [.con .str, .agg [.val, .con (.int .i64)], .fn 102 0 []] (fun k avs H => match avs, H with
  | [.con .str a0, .agg [.v (.int .i64 a1_0), .con (.int .i64) a1_1], .fn 102 0 []], [] => some (impl_isObject_at_impl_ObjOk_1.f k a0 a1_0 a1_1)
  | _, _ => none) (fun r => (.bs false r, []))
def impl_isObject_at_impl_ObjOk_1.E : Env := [((60, []), impl_size_string.s), ((46, []), impl_within.s), ((102, []), impl_ObjOk_1.s)]
def impl_isObject_at_impl_ObjOk_1.G14 (k : Nat) (avs : List AV) (H : List HE) : Option (Bool) := match avs, H with
  | [.con .str x0, .fn 102 0 [], .box 0 0, .con (.int .i64) x29, .v (.int .i64 x30), .v (.int .i64 x31)], [.box [.v (.int .i64 x4_0), .con (.int .i64) x4_1]] => impl_isObject_at_impl_ObjOk_1.p14 k x0 x4_0 x4_1 x29 x30 x31
  | _, _ => none
def impl_isObject_at_impl_ObjOk_1.G (k p : Nat) (avs : List AV) (H : List HE) : Option (Bool) := (pick1 14 (impl_isObject_at_impl_ObjOk_1.G14 k avs H) none p)
set_option maxRecDepth 100000 in
theorem impl_isObject_at_impl_ObjOk_1.eq (k : Nat) (a0 : List ByteArray) (a1_0 : Int) (a1_1 : List Int) : fromTop Tryz.prog impl_isObject_at_impl_ObjOk_1.E k impl_isObject_at_impl_ObjOk_1.a (impl_isObject_at_impl_ObjOk_1.G k) 1000 (bodyOf Tryz.prog 62) [.con .str a0, .agg [.v (.int .i64 a1_0), .con (.int .i64) a1_1], .fn 102 0 []] [] = impl_isObject_at_impl_ObjOk_1.f k a0 a1_0 a1_1 := by kernel_rfl
set_option maxRecDepth 100000 in
theorem impl_isObject_at_impl_ObjOk_1.eq14 (k : Nat) (x0 : List ByteArray) (x4_0 : Int) (x4_1 : List Int) (x29 : List Int) (x30 : Int) (x31 : Int) : fromPt Tryz.prog impl_isObject_at_impl_ObjOk_1.E k impl_isObject_at_impl_ObjOk_1.a (impl_isObject_at_impl_ObjOk_1.G k) 1000 (bodyOf Tryz.prog 62) 14 [.con .str x0, .fn 102 0 [], .box 0 0, .con (.int .i64) x29, .v (.int .i64 x30), .v (.int .i64 x31)] [.box [.v (.int .i64 x4_0), .con (.int .i64) x4_1]] = impl_isObject_at_impl_ObjOk_1.p14 (k + 1) x0 x4_0 x4_1 x29 x30 x31 := by kernel_rfl
theorem impl_isObject_at_impl_ObjOk_1.G14_0 {avs : List AV} {H : List HE} : impl_isObject_at_impl_ObjOk_1.G14 0 avs H = none := by unfold impl_isObject_at_impl_ObjOk_1.G14; split <;> rfl
theorem impl_isObject_at_impl_ObjOk_1.G14_s (k : Nat) {avs : List AV} {H : List HE} {x : Bool} (h : impl_isObject_at_impl_ObjOk_1.G14 (k + 1) avs H = some x) : fromPt Tryz.prog impl_isObject_at_impl_ObjOk_1.E k impl_isObject_at_impl_ObjOk_1.a (impl_isObject_at_impl_ObjOk_1.G k) 1000 (bodyOf Tryz.prog 62) 14 avs H = some x := by
  unfold impl_isObject_at_impl_ObjOk_1.G14 at h
  split at h
  · rw [← h]; exact impl_isObject_at_impl_ObjOk_1.eq14 _ _ _ _ _ _ _
  · cases h
theorem impl_isObject_at_impl_ObjOk_1.E_ok : EnvOk Tryz.prog impl_isObject_at_impl_ObjOk_1.E := ⟨⟨impl_size_string.sound, callable_of (by kernel_rfl)⟩, ⟨impl_within.sound, callable_of (by kernel_rfl)⟩, ⟨impl_ObjOk_1.sound, callable_of (by kernel_rfl)⟩, trivial⟩
theorem impl_isObject_at_impl_ObjOk_1.sound : Sound Tryz.prog 62 impl_isObject_at_impl_ObjOk_1.s := by
  refine func_sound (f := impl_isObject_at_impl_ObjOk_1.a) (G := impl_isObject_at_impl_ObjOk_1.G) (fn := Tryz.f62) (body := bodyOf Tryz.prog 62) 1000 (by kernel_rfl) impl_isObject_at_impl_ObjOk_1.E_ok Tryz.func62 (by kernel_rfl) (by kernel_rfl) (by kernel_rfl) (ptsOk_of (by kernel_rfl)) ?_ ?_ ?_ ?_
  · intro r H x h
    unfold impl_isObject_at_impl_ObjOk_1.a at h
    simp only at h
    split at h
    · cases h; rfl
    · cases h
  · exact fun q avs H => pick1_none impl_isObject_at_impl_ObjOk_1.G14_0 (rfl)
  · intro k q pt avs H x _ h
    rcases pick1_some h with ⟨rfl, h⟩ | h
    · exact impl_isObject_at_impl_ObjOk_1.G14_s _ h
    cases h
  · intro k avs H o h
    try dsimp only at h
    split at h
    · cases h; exact impl_isObject_at_impl_ObjOk_1.eq _ _ _ _
    · cases h

def impl_ObjOk.a : FnA (Bool) := ⟨12, [.tmp 4], .bool, [], [], fun x H => match x, H with
  | .bs false r, [] => some r
  | _, _ => none⟩
def impl_ObjOk.s : Spec := mkS [.con .str, .agg [.val, .con (.int .i64)]] (fun k avs H => match avs, H with
  | [.con .str a0, .agg [.v (.int .i64 a1_0), .con (.int .i64) a1_1]], [] => some (impl_ObjOk.f k a0 a1_0 a1_1)
  | _, _ => none) (fun r => (.bs false r, []))
def impl_ObjOk.E : Env := [((72, []), impl_TypesOk.s), ((62, [102]), impl_isObject_at_impl_ObjOk_1.s)]
def impl_ObjOk.G (k p : Nat) (avs : List AV) (H : List HE) : Option (Bool) := none
set_option maxRecDepth 100000 in
theorem impl_ObjOk.eq (k : Nat) (a0 : List ByteArray) (a1_0 : Int) (a1_1 : List Int) : fromTop Tryz.prog impl_ObjOk.E k impl_ObjOk.a (impl_ObjOk.G k) 1000 (bodyOf Tryz.prog 93) [.con .str a0, .agg [.v (.int .i64 a1_0), .con (.int .i64) a1_1]] [] = impl_ObjOk.f k a0 a1_0 a1_1 := by kernel_rfl
theorem impl_ObjOk.E_ok : EnvOk Tryz.prog impl_ObjOk.E := ⟨⟨impl_TypesOk.sound, callable_of (by kernel_rfl)⟩, ⟨impl_isObject_at_impl_ObjOk_1.sound, callable_of (by kernel_rfl)⟩, trivial⟩
theorem impl_ObjOk.sound : Sound Tryz.prog 93 impl_ObjOk.s := by
  refine func_sound (f := impl_ObjOk.a) (G := impl_ObjOk.G) (fn := Tryz.f93) (body := bodyOf Tryz.prog 93) 1000 (by kernel_rfl) impl_ObjOk.E_ok Tryz.func93 (by kernel_rfl) (by kernel_rfl) (by kernel_rfl) (ptsOk_of (by kernel_rfl)) ?_ ?_ ?_ ?_
  · intro r H x h
    unfold impl_ObjOk.a at h
    simp only at h
    split at h
    · cases h; rfl
    · cases h
  · intro q avs H; rfl
  · intro k q pt avs H x _ h; cases h
  · intro k avs H o h
    try dsimp only at h
    split at h
    · cases h; exact impl_ObjOk.eq _ _ _ _
    · cases h

def impl_bigBytes.a : FnA (ByteArray) := ⟨27, [.tmp 4], .val, [], [⟨8, [0, 1, 5, 10, 11], [.val, .val, .row 5 (.int .u8), .val, .val], []⟩], fun x H => match x, H with
  | .v (.string r), [] => some r
  | _, _ => none⟩
def impl_bigBytes.s : Spec := mkS [.val, .val] (fun k avs H => match avs, H with
  | [.v (.int .u64 a0), .v (.int .i64 a1)], [] => some (impl_bigBytes.f k a0 a1)
  | _, _ => none) (fun r => (.v (.string r), []))
def impl_bigBytes.E : Env := []
def impl_bigBytes.G8 (k : Nat) (avs : List AV) (H : List HE) : Option (ByteArray) := match avs, H with
  | [.v (.int .u64 x0), .v (.int .i64 x1), .own 0, .v (.int .i64 x10), .v (.int .i64 x11)], [.row 5 (.int .u8) x5] => impl_bigBytes.p8 k x0 x1 x5 x10 x11
  | _, _ => none
def impl_bigBytes.G (k p : Nat) (avs : List AV) (H : List HE) : Option (ByteArray) := (pick1 8 (impl_bigBytes.G8 k avs H) none p)
set_option maxRecDepth 100000 in
theorem impl_bigBytes.eq (k : Nat) (a0 : Int) (a1 : Int) : fromTop Tryz.prog impl_bigBytes.E k impl_bigBytes.a (impl_bigBytes.G k) 1000 (bodyOf Tryz.prog 111) [.v (.int .u64 a0), .v (.int .i64 a1)] [] = impl_bigBytes.f k a0 a1 := by kernel_rfl
set_option maxRecDepth 100000 in
theorem impl_bigBytes.eq8 (k : Nat) (x0 : Int) (x1 : Int) (x5 : List Int) (x10 : Int) (x11 : Int) : fromPt Tryz.prog impl_bigBytes.E k impl_bigBytes.a (impl_bigBytes.G k) 1000 (bodyOf Tryz.prog 111) 8 [.v (.int .u64 x0), .v (.int .i64 x1), .own 0, .v (.int .i64 x10), .v (.int .i64 x11)] [.row 5 (.int .u8) x5] = impl_bigBytes.p8 (k + 1) x0 x1 x5 x10 x11 := by kernel_rfl
theorem impl_bigBytes.G8_0 {avs : List AV} {H : List HE} : impl_bigBytes.G8 0 avs H = none := by unfold impl_bigBytes.G8; split <;> rfl
theorem impl_bigBytes.G8_s (k : Nat) {avs : List AV} {H : List HE} {x : ByteArray} (h : impl_bigBytes.G8 (k + 1) avs H = some x) : fromPt Tryz.prog impl_bigBytes.E k impl_bigBytes.a (impl_bigBytes.G k) 1000 (bodyOf Tryz.prog 111) 8 avs H = some x := by
  unfold impl_bigBytes.G8 at h
  split at h
  · rw [← h]; exact impl_bigBytes.eq8 _ _ _ _ _ _
  · cases h
theorem impl_bigBytes.E_ok : EnvOk Tryz.prog impl_bigBytes.E := trivial
theorem impl_bigBytes.sound : Sound Tryz.prog 111 impl_bigBytes.s := by
  refine func_sound (f := impl_bigBytes.a) (G := impl_bigBytes.G) (fn := Tryz.f111) (body := bodyOf Tryz.prog 111) 1000 (by kernel_rfl) impl_bigBytes.E_ok Tryz.func111 (by kernel_rfl) (by kernel_rfl) (by kernel_rfl) (ptsOk_of (by kernel_rfl)) ?_ ?_ ?_ ?_
  · intro r H x h
    unfold impl_bigBytes.a at h
    simp only at h
    split at h
    · cases h; rfl
    · cases h
  · exact fun q avs H => pick1_none impl_bigBytes.G8_0 (rfl)
  · intro k q pt avs H x _ h
    rcases pick1_some h with ⟨rfl, h⟩ | h
    · exact impl_bigBytes.G8_s _ h
    cases h
  · intro k avs H o h
    try dsimp only at h
    split at h
    · cases h; exact impl_bigBytes.eq _ _ _
    · cases h

def impl_WordBytes.a : FnA (ByteArray) := ⟨6, [.tmp 2], .val, [], [], fun x H => match x, H with
  | .v (.string r), [] => some r
  | _, _ => none⟩
def impl_WordBytes.s : Spec := mkS [.val] (fun k avs H => match avs, H with
  | [.v (.int .i64 a0)], [] => some (impl_WordBytes.f k a0)
  | _, _ => none) (fun r => (.v (.string r), []))
def impl_WordBytes.E : Env := [((111, []), impl_bigBytes.s)]
def impl_WordBytes.G (k p : Nat) (avs : List AV) (H : List HE) : Option (ByteArray) := none
set_option maxRecDepth 100000 in
theorem impl_WordBytes.eq (k : Nat) (a0 : Int) : fromTop Tryz.prog impl_WordBytes.E k impl_WordBytes.a (impl_WordBytes.G k) 1000 (bodyOf Tryz.prog 103) [.v (.int .i64 a0)] [] = impl_WordBytes.f k a0 := by kernel_rfl
theorem impl_WordBytes.E_ok : EnvOk Tryz.prog impl_WordBytes.E := ⟨⟨impl_bigBytes.sound, callable_of (by kernel_rfl)⟩, trivial⟩
theorem impl_WordBytes.sound : Sound Tryz.prog 103 impl_WordBytes.s := by
  refine func_sound (f := impl_WordBytes.a) (G := impl_WordBytes.G) (fn := Tryz.f103) (body := bodyOf Tryz.prog 103) 1000 (by kernel_rfl) impl_WordBytes.E_ok Tryz.func103 (by kernel_rfl) (by kernel_rfl) (by kernel_rfl) (ptsOk_of (by kernel_rfl)) ?_ ?_ ?_ ?_
  · intro r H x h
    unfold impl_WordBytes.a at h
    simp only at h
    split at h
    · cases h; rfl
    · cases h
  · intro q avs H; rfl
  · intro k q pt avs H x _ h; cases h
  · intro k avs H o h
    try dsimp only at h
    split at h
    · cases h; exact impl_WordBytes.eq _ _
    · cases h

def impl_objectBytes.a : FnA (ByteArray) := ⟨37, [.tmp 4], .val, [], [⟨8, [0, 3, 5, 13, 14, 15], [.con .str, .box [.val, .con (.int .i64)], .val, .con (.int .i64), .val, .val], []⟩], fun x H => match x, H with
  | .v (.string r), [] => some r
  | _, _ => none⟩
def impl_objectBytes.s : Spec := mkS [.con .str, .agg [.val, .con (.int .i64)]] (fun k avs H => match avs, H with
  | [.con .str a0, .agg [.v (.int .i64 a1_0), .con (.int .i64) a1_1]], [] => some (impl_objectBytes.f k a0 a1_0 a1_1)
  | _, _ => none) (fun r => (.v (.string r), []))
def impl_objectBytes.E : Env := [((103, []), impl_WordBytes.s), ((45, []), impl_runOf.s), ((42, []), impl_zeros.s)]
def impl_objectBytes.G8 (k : Nat) (avs : List AV) (H : List HE) : Option (ByteArray) := match avs, H with
  | [.con .str x0, .box 0 0, .v (.string x5), .con (.int .i64) x13, .v (.int .i64 x14), .v (.int .i64 x15)], [.box [.v (.int .i64 x3_0), .con (.int .i64) x3_1]] => impl_objectBytes.p8 k x0 x3_0 x3_1 x5 x13 x14 x15
  | _, _ => none
def impl_objectBytes.G (k p : Nat) (avs : List AV) (H : List HE) : Option (ByteArray) := (pick1 8 (impl_objectBytes.G8 k avs H) none p)
set_option maxRecDepth 100000 in
theorem impl_objectBytes.eq (k : Nat) (a0 : List ByteArray) (a1_0 : Int) (a1_1 : List Int) : fromTop Tryz.prog impl_objectBytes.E k impl_objectBytes.a (impl_objectBytes.G k) 1000 (bodyOf Tryz.prog 94) [.con .str a0, .agg [.v (.int .i64 a1_0), .con (.int .i64) a1_1]] [] = impl_objectBytes.f k a0 a1_0 a1_1 := by kernel_rfl
set_option maxRecDepth 100000 in
theorem impl_objectBytes.eq8 (k : Nat) (x0 : List ByteArray) (x3_0 : Int) (x3_1 : List Int) (x5 : ByteArray) (x13 : List Int) (x14 : Int) (x15 : Int) : fromPt Tryz.prog impl_objectBytes.E k impl_objectBytes.a (impl_objectBytes.G k) 1000 (bodyOf Tryz.prog 94) 8 [.con .str x0, .box 0 0, .v (.string x5), .con (.int .i64) x13, .v (.int .i64 x14), .v (.int .i64 x15)] [.box [.v (.int .i64 x3_0), .con (.int .i64) x3_1]] = impl_objectBytes.p8 (k + 1) x0 x3_0 x3_1 x5 x13 x14 x15 := by kernel_rfl
theorem impl_objectBytes.G8_0 {avs : List AV} {H : List HE} : impl_objectBytes.G8 0 avs H = none := by unfold impl_objectBytes.G8; split <;> rfl
theorem impl_objectBytes.G8_s (k : Nat) {avs : List AV} {H : List HE} {x : ByteArray} (h : impl_objectBytes.G8 (k + 1) avs H = some x) : fromPt Tryz.prog impl_objectBytes.E k impl_objectBytes.a (impl_objectBytes.G k) 1000 (bodyOf Tryz.prog 94) 8 avs H = some x := by
  unfold impl_objectBytes.G8 at h
  split at h
  · rw [← h]; exact impl_objectBytes.eq8 _ _ _ _ _ _ _ _
  · cases h
theorem impl_objectBytes.E_ok : EnvOk Tryz.prog impl_objectBytes.E := ⟨⟨impl_WordBytes.sound, callable_of (by kernel_rfl)⟩, ⟨impl_runOf.sound, callable_of (by kernel_rfl)⟩, ⟨impl_zeros.sound, callable_of (by kernel_rfl)⟩, trivial⟩
theorem impl_objectBytes.sound : Sound Tryz.prog 94 impl_objectBytes.s := by
  refine func_sound (f := impl_objectBytes.a) (G := impl_objectBytes.G) (fn := Tryz.f94) (body := bodyOf Tryz.prog 94) 1000 (by kernel_rfl) impl_objectBytes.E_ok Tryz.func94 (by kernel_rfl) (by kernel_rfl) (by kernel_rfl) (ptsOk_of (by kernel_rfl)) ?_ ?_ ?_ ?_
  · intro r H x h
    unfold impl_objectBytes.a at h
    simp only at h
    split at h
    · cases h; rfl
    · cases h
  · exact fun q avs H => pick1_none impl_objectBytes.G8_0 (rfl)
  · intro k q pt avs H x _ h
    rcases pick1_some h with ⟨rfl, h⟩ | h
    · exact impl_objectBytes.G8_s _ h
    cases h
  · intro k avs H o h
    try dsimp only at h
    split at h
    · cases h; exact impl_objectBytes.eq _ _ _ _
    · cases h

def impl_ObjectBytes.a : FnA (ByteArray) := ⟨12, [.tmp 4], .val, [], [], fun x H => match x, H with
  | .v (.string r), [] => some r
  | _, _ => none⟩
def impl_ObjectBytes.s : Spec := mkS [.con .str, .agg [.val, .con (.int .i64)]] (fun k avs H => match avs, H with
  | [.con .str a0, .agg [.v (.int .i64 a1_0), .con (.int .i64) a1_1]], [] => some (impl_ObjectBytes.f k a0 a1_0 a1_1)
  | _, _ => none) (fun r => (.v (.string r), []))
def impl_ObjectBytes.E : Env := [((93, []), impl_ObjOk.s), ((94, []), impl_objectBytes.s)]
def impl_ObjectBytes.G (k p : Nat) (avs : List AV) (H : List HE) : Option (ByteArray) := none
set_option maxRecDepth 100000 in
theorem impl_ObjectBytes.eq (k : Nat) (a0 : List ByteArray) (a1_0 : Int) (a1_1 : List Int) : fromTop Tryz.prog impl_ObjectBytes.E k impl_ObjectBytes.a (impl_ObjectBytes.G k) 1000 (bodyOf Tryz.prog 81) [.con .str a0, .agg [.v (.int .i64 a1_0), .con (.int .i64) a1_1]] [] = impl_ObjectBytes.f k a0 a1_0 a1_1 := by kernel_rfl
theorem impl_ObjectBytes.E_ok : EnvOk Tryz.prog impl_ObjectBytes.E := ⟨⟨impl_ObjOk.sound, callable_of (by kernel_rfl)⟩, ⟨impl_objectBytes.sound, callable_of (by kernel_rfl)⟩, trivial⟩
theorem impl_ObjectBytes.sound : Sound Tryz.prog 81 impl_ObjectBytes.s := by
  refine func_sound (f := impl_ObjectBytes.a) (G := impl_ObjectBytes.G) (fn := Tryz.f81) (body := bodyOf Tryz.prog 81) 1000 (by kernel_rfl) impl_ObjectBytes.E_ok Tryz.func81 (by kernel_rfl) (by kernel_rfl) (by kernel_rfl) (ptsOk_of (by kernel_rfl)) ?_ ?_ ?_ ?_
  · intro r H x h
    unfold impl_ObjectBytes.a at h
    simp only at h
    split at h
    · cases h; rfl
    · cases h
  · intro q avs H; rfl
  · intro k q pt avs H x _ h; cases h
  · intro k avs H o h
    try dsimp only at h
    split at h
    · cases h; exact impl_ObjectBytes.eq _ _ _ _
    · cases h

def impl_ReadObject.a : FnA (Int × List Int × Bool) := ⟨49, [.cell 4 46, .tmp 5], .tup [.agg [.val, .row 2 (.int .i64)], .bool], [], [⟨5, [0, 1, 4, 15], [.con .str, .val, .box [.val, .val], .bool], []⟩, ⟨15, [0, 1, 4, 6, 35], [.con .str, .val, .box [.val, .val], .val, .bool], []⟩], fun x H => match x, H with
  | .tup [.agg [.v (.int .i64 r_0_0), .own 0], .bs false r_1], [.row 2 (.int .i64) r_0_1] => some (r_0_0, r_0_1, r_1)
  | _, _ => none⟩
def impl_ReadObject.s : Spec := mkS [.con .str, .val] (fun k avs H => match avs, H with
  | [.con .str a0, .v (.string a1)], [] => some (impl_ReadObject.f k a0 a1)
  | _, _ => none) (fun r => (.tup [.agg [.v (.int .i64 r.1), .own 0], .bs false r.2.2], [.row 2 (.int .i64) r.2.1]))
def impl_ReadObject.E : Env := [((72, []), impl_TypesOk.s), ((80, []), impl_objectOf.s), ((81, []), impl_ObjectBytes.s), ((55, []), impl_wordAt.s), ((60, []), impl_size_string.s), ((46, []), impl_within.s), ((45, []), impl_runOf.s)]
def impl_ReadObject.G5 (k : Nat) (avs : List AV) (H : List HE) : Option (Int × List Int × Bool) := match avs, H with
  | [.con .str x0, .v (.string x1), .box 0 0, .bs false x15], [.box [.v (.int .i64 x4_0), .v (.slice none 0 0)]] => impl_ReadObject.p5 k x0 x1 x4_0 x15
  | _, _ => none
def impl_ReadObject.G15 (k : Nat) (avs : List AV) (H : List HE) : Option (Int × List Int × Bool) := match avs, H with
  | [.con .str x0, .v (.string x1), .box 0 0, .v (.int .i64 x6), .bs false x35], [.box [.v (.int .i64 x4_0), .v (.slice none 0 0)]] => impl_ReadObject.p15 k x0 x1 x4_0 x6 x35
  | _, _ => none
def impl_ReadObject.G (k p : Nat) (avs : List AV) (H : List HE) : Option (Int × List Int × Bool) := (pick1 5 (impl_ReadObject.G5 k avs H) (pick1 15 (impl_ReadObject.G15 k avs H) none p) p)
set_option maxRecDepth 100000 in
theorem impl_ReadObject.eq (k : Nat) (a0 : List ByteArray) (a1 : ByteArray) : fromTop Tryz.prog impl_ReadObject.E k impl_ReadObject.a (impl_ReadObject.G k) 1000 (bodyOf Tryz.prog 61) [.con .str a0, .v (.string a1)] [] = impl_ReadObject.f k a0 a1 := by kernel_rfl
set_option maxRecDepth 100000 in
theorem impl_ReadObject.eq5 (k : Nat) (x0 : List ByteArray) (x1 : ByteArray) (x4_0 : Int) (x15 : Bool) : fromPt Tryz.prog impl_ReadObject.E k impl_ReadObject.a (impl_ReadObject.G k) 1000 (bodyOf Tryz.prog 61) 5 [.con .str x0, .v (.string x1), .box 0 0, .bs false x15] [.box [.v (.int .i64 x4_0), .v (.slice none 0 0)]] = impl_ReadObject.p5 (k + 1) x0 x1 x4_0 x15 := by kernel_rfl
theorem impl_ReadObject.G5_0 {avs : List AV} {H : List HE} : impl_ReadObject.G5 0 avs H = none := by unfold impl_ReadObject.G5; split <;> rfl
theorem impl_ReadObject.G5_s (k : Nat) {avs : List AV} {H : List HE} {x : Int × List Int × Bool} (h : impl_ReadObject.G5 (k + 1) avs H = some x) : fromPt Tryz.prog impl_ReadObject.E k impl_ReadObject.a (impl_ReadObject.G k) 1000 (bodyOf Tryz.prog 61) 5 avs H = some x := by
  unfold impl_ReadObject.G5 at h
  split at h
  · rw [← h]; exact impl_ReadObject.eq5 _ _ _ _ _
  · cases h
set_option maxRecDepth 100000 in
theorem impl_ReadObject.eq15 (k : Nat) (x0 : List ByteArray) (x1 : ByteArray) (x4_0 : Int) (x6 : Int) (x35 : Bool) : fromPt Tryz.prog impl_ReadObject.E k impl_ReadObject.a (impl_ReadObject.G k) 1000 (bodyOf Tryz.prog 61) 15 [.con .str x0, .v (.string x1), .box 0 0, .v (.int .i64 x6), .bs false x35] [.box [.v (.int .i64 x4_0), .v (.slice none 0 0)]] = impl_ReadObject.p15 (k + 1) x0 x1 x4_0 x6 x35 := by kernel_rfl
theorem impl_ReadObject.G15_0 {avs : List AV} {H : List HE} : impl_ReadObject.G15 0 avs H = none := by unfold impl_ReadObject.G15; split <;> rfl
theorem impl_ReadObject.G15_s (k : Nat) {avs : List AV} {H : List HE} {x : Int × List Int × Bool} (h : impl_ReadObject.G15 (k + 1) avs H = some x) : fromPt Tryz.prog impl_ReadObject.E k impl_ReadObject.a (impl_ReadObject.G k) 1000 (bodyOf Tryz.prog 61) 15 avs H = some x := by
  unfold impl_ReadObject.G15 at h
  split at h
  · rw [← h]; exact impl_ReadObject.eq15 _ _ _ _ _ _
  · cases h
theorem impl_ReadObject.E_ok : EnvOk Tryz.prog impl_ReadObject.E := ⟨⟨impl_TypesOk.sound, callable_of (by kernel_rfl)⟩, ⟨impl_objectOf.sound, callable_of (by kernel_rfl)⟩, ⟨impl_ObjectBytes.sound, callable_of (by kernel_rfl)⟩, ⟨impl_wordAt.sound, callable_of (by kernel_rfl)⟩, ⟨impl_size_string.sound, callable_of (by kernel_rfl)⟩, ⟨impl_within.sound, callable_of (by kernel_rfl)⟩, ⟨impl_runOf.sound, callable_of (by kernel_rfl)⟩, trivial⟩
theorem impl_ReadObject.sound : Sound Tryz.prog 61 impl_ReadObject.s := by
  refine func_sound (f := impl_ReadObject.a) (G := impl_ReadObject.G) (fn := Tryz.f61) (body := bodyOf Tryz.prog 61) 1000 (by kernel_rfl) impl_ReadObject.E_ok Tryz.func61 (by kernel_rfl) (by kernel_rfl) (by kernel_rfl) (ptsOk_of (by kernel_rfl)) ?_ ?_ ?_ ?_
  · intro r H x h
    unfold impl_ReadObject.a at h
    simp only at h
    split at h
    · cases h; rfl
    · cases h
  · exact fun q avs H => pick1_none impl_ReadObject.G5_0 (pick1_none impl_ReadObject.G15_0 (rfl))
  · intro k q pt avs H x _ h
    rcases pick1_some h with ⟨rfl, h⟩ | h
    · exact impl_ReadObject.G5_s _ h
    rcases pick1_some h with ⟨rfl, h⟩ | h
    · exact impl_ReadObject.G15_s _ h
    cases h
  · intro k avs H o h
    try dsimp only at h
    split at h
    · cases h; exact impl_ReadObject.eq _ _ _
    · cases h

def impl_oldObject_1.a : FnA (Bool) := ⟨7, [.tmp 3], .bool, [], [], fun x H => match x, H with
  | .bs false r, [] => some r
  | _, _ => none⟩
def impl_oldObject_1.s : Spec := mkS [.val, .elt (.pair (.int .i64) (.pair (.int .i64) (.pair (.int .i64) (.sl .str))))] (fun k avs H => match avs, H with
  | [.v (.int .i64 a0), .elt (.pair (.int .i64) (.pair (.int .i64) (.pair (.int .i64) (.sl .str)))) a1 0], [] => some (impl_oldObject_1.f a0 a1)
  | _, _ => none) (fun r => (.bs false r, []))
def impl_oldObject_1.E : Env := [((39, []), impl_isDataRef.s)]
def impl_oldObject_1.G (k p : Nat) (avs : List AV) (H : List HE) : Option (Bool) := none
set_option maxRecDepth 100000 in
theorem impl_oldObject_1.eq (k : Nat) (a0 : Int) (a1 : Int × Int × Int × List ByteArray) : fromTop Tryz.prog impl_oldObject_1.E k impl_oldObject_1.a (impl_oldObject_1.G k) 1000 (bodyOf Tryz.prog 63) [.v (.int .i64 a0), .elt (.pair (.int .i64) (.pair (.int .i64) (.pair (.int .i64) (.sl .str)))) a1 0] [] = impl_oldObject_1.f a0 a1 := by kernel_rfl
theorem impl_oldObject_1.E_ok : EnvOk Tryz.prog impl_oldObject_1.E := ⟨⟨impl_isDataRef.sound, callable_of (by kernel_rfl)⟩, trivial⟩
theorem impl_oldObject_1.sound : Sound Tryz.prog 63 impl_oldObject_1.s := by
  refine func_sound (f := impl_oldObject_1.a) (G := impl_oldObject_1.G) (fn := Tryz.f63) (body := bodyOf Tryz.prog 63) 1000 (by kernel_rfl) impl_oldObject_1.E_ok Tryz.func63 (by kernel_rfl) (by kernel_rfl) (by kernel_rfl) (ptsOk_of (by kernel_rfl)) ?_ ?_ ?_ ?_
  · intro r H x h
    unfold impl_oldObject_1.a at h
    simp only at h
    split at h
    · cases h; rfl
    · cases h
  · intro q avs H; rfl
  · intro k q pt avs H x _ h; cases h
  · intro k avs H o h
    try dsimp only at h
    split at h
    · cases h; exact impl_oldObject_1.eq _ _ _
    · cases h

def impl_isObject_at_impl_oldObject_1.a : FnA (Bool) := ⟨51, [.tmp 6], .bool, [], [⟨14, [0, 2, 4, 29, 30, 31], [.con .str, .fn 63 0 [.elt (.pair (.int .i64) (.pair (.int .i64) (.pair (.int .i64) (.sl .str))))], .box [.val, .con (.int .i64)], .con (.int .i64), .val, .val], []⟩], fun x H => match x, H with
  | .bs false r, [] => some r
  | _, _ => none⟩
def impl_isObject_at_impl_oldObject_1.s : Spec := mkS [.con .str, .agg [.val, .con (.int .i64)], .fn 63 0 [.elt (.pair (.int .i64) (.pair (.int .i64) (.pair (.int .i64) (.sl .str))))]] (fun k avs H => match avs, H with
  | [.con .str a0, .agg [.v (.int .i64 a1_0), .con (.int .i64) a1_1], .fn 63 0 [.elt (.pair (.int .i64) (.pair (.int .i64) (.pair (.int .i64) (.sl .str)))) a2_0 0]], [] => some (impl_isObject_at_impl_oldObject_1.f k a0 a1_0 a1_1 a2_0)
  | _, _ => none) (fun r => (.bs false r, []))
def impl_isObject_at_impl_oldObject_1.E : Env := [((60, []), impl_size_string.s), ((46, []), impl_within.s), ((63, []), impl_oldObject_1.s)]
def impl_isObject_at_impl_oldObject_1.G14 (k : Nat) (avs : List AV) (H : List HE) : Option (Bool) := match avs, H with
  | [.con .str x0, .fn 63 0 [.elt (.pair (.int .i64) (.pair (.int .i64) (.pair (.int .i64) (.sl .str)))) x2_0 0], .box 0 0, .con (.int .i64) x29, .v (.int .i64 x30), .v (.int .i64 x31)], [.box [.v (.int .i64 x4_0), .con (.int .i64) x4_1]] => impl_isObject_at_impl_oldObject_1.p14 k x0 x2_0 x4_0 x4_1 x29 x30 x31
  | _, _ => none
def impl_isObject_at_impl_oldObject_1.G (k p : Nat) (avs : List AV) (H : List HE) : Option (Bool) := (pick1 14 (impl_isObject_at_impl_oldObject_1.G14 k avs H) none p)
set_option maxRecDepth 100000 in
theorem impl_isObject_at_impl_oldObject_1.eq (k : Nat) (a0 : List ByteArray) (a1_0 : Int) (a1_1 : List Int) (a2_0 : Int × Int × Int × List ByteArray) : fromTop Tryz.prog impl_isObject_at_impl_oldObject_1.E k impl_isObject_at_impl_oldObject_1.a (impl_isObject_at_impl_oldObject_1.G k) 1000 (bodyOf Tryz.prog 62) [.con .str a0, .agg [.v (.int .i64 a1_0), .con (.int .i64) a1_1], .fn 63 0 [.elt (.pair (.int .i64) (.pair (.int .i64) (.pair (.int .i64) (.sl .str)))) a2_0 0]] [] = impl_isObject_at_impl_oldObject_1.f k a0 a1_0 a1_1 a2_0 := by kernel_rfl
set_option maxRecDepth 100000 in
theorem impl_isObject_at_impl_oldObject_1.eq14 (k : Nat) (x0 : List ByteArray) (x2_0 : Int × Int × Int × List ByteArray) (x4_0 : Int) (x4_1 : List Int) (x29 : List Int) (x30 : Int) (x31 : Int) : fromPt Tryz.prog impl_isObject_at_impl_oldObject_1.E k impl_isObject_at_impl_oldObject_1.a (impl_isObject_at_impl_oldObject_1.G k) 1000 (bodyOf Tryz.prog 62) 14 [.con .str x0, .fn 63 0 [.elt (.pair (.int .i64) (.pair (.int .i64) (.pair (.int .i64) (.sl .str)))) x2_0 0], .box 0 0, .con (.int .i64) x29, .v (.int .i64 x30), .v (.int .i64 x31)] [.box [.v (.int .i64 x4_0), .con (.int .i64) x4_1]] = impl_isObject_at_impl_oldObject_1.p14 (k + 1) x0 x2_0 x4_0 x4_1 x29 x30 x31 := by kernel_rfl
theorem impl_isObject_at_impl_oldObject_1.G14_0 {avs : List AV} {H : List HE} : impl_isObject_at_impl_oldObject_1.G14 0 avs H = none := by unfold impl_isObject_at_impl_oldObject_1.G14; split <;> rfl
theorem impl_isObject_at_impl_oldObject_1.G14_s (k : Nat) {avs : List AV} {H : List HE} {x : Bool} (h : impl_isObject_at_impl_oldObject_1.G14 (k + 1) avs H = some x) : fromPt Tryz.prog impl_isObject_at_impl_oldObject_1.E k impl_isObject_at_impl_oldObject_1.a (impl_isObject_at_impl_oldObject_1.G k) 1000 (bodyOf Tryz.prog 62) 14 avs H = some x := by
  unfold impl_isObject_at_impl_oldObject_1.G14 at h
  split at h
  · rw [← h]; exact impl_isObject_at_impl_oldObject_1.eq14 _ _ _ _ _ _ _ _
  · cases h
theorem impl_isObject_at_impl_oldObject_1.E_ok : EnvOk Tryz.prog impl_isObject_at_impl_oldObject_1.E := ⟨⟨impl_size_string.sound, callable_of (by kernel_rfl)⟩, ⟨impl_within.sound, callable_of (by kernel_rfl)⟩, ⟨impl_oldObject_1.sound, callable_of (by kernel_rfl)⟩, trivial⟩
theorem impl_isObject_at_impl_oldObject_1.sound : Sound Tryz.prog 62 impl_isObject_at_impl_oldObject_1.s := by
  refine func_sound (f := impl_isObject_at_impl_oldObject_1.a) (G := impl_isObject_at_impl_oldObject_1.G) (fn := Tryz.f62) (body := bodyOf Tryz.prog 62) 1000 (by kernel_rfl) impl_isObject_at_impl_oldObject_1.E_ok Tryz.func62 (by kernel_rfl) (by kernel_rfl) (by kernel_rfl) (ptsOk_of (by kernel_rfl)) ?_ ?_ ?_ ?_
  · intro r H x h
    unfold impl_isObject_at_impl_oldObject_1.a at h
    simp only at h
    split at h
    · cases h; rfl
    · cases h
  · exact fun q avs H => pick1_none impl_isObject_at_impl_oldObject_1.G14_0 (rfl)
  · intro k q pt avs H x _ h
    rcases pick1_some h with ⟨rfl, h⟩ | h
    · exact impl_isObject_at_impl_oldObject_1.G14_s _ h
    cases h
  · intro k avs H o h
    try dsimp only at h
    split at h
    · cases h; exact impl_isObject_at_impl_oldObject_1.eq _ _ _ _ _
    · cases h
end
end Go.Proofs.YtbpeiilildchlaaGreatDoor.Abs
