/- Loops: plain lemmas for the proofs about rounds. (Merged out of this claim's own texts.) -/
import Derived.Test.YtmciidoohbmipaaGreatDoorBFnNoted2
import Derived.ChangeArms
import Derived.WideShapes
import Derived.Shelf.Strings.SlTrimAscii
import Derived.Shelf.RegionOpenPlain
import Derived.Lib.Repeat
import Derived.Lib.Hide
import Derived.Lib.AppendZeros
import Derived.Lib.Overlaps
namespace Go.Proofs.YtmciidoohbmipaaGreatDoor.Abs
open Go Go.RowKit
set_option linter.unusedVariables false
set_option linter.unusedSectionVars false
set_option linter.unusedSimpArgs false

/-- From the end down. -/
theorem down {P : Nat → Prop} {n : Nat} (h0 : P n) (hs : ∀ i, i < n → P (i + 1) → P i) : ∀ i, i ≤ n → P i := by
  have key : ∀ d i, n - i = d → i ≤ n → P i := by
    intro d
    induction d with
    | zero => intro i hd hi; obtain rfl : i = n := by omega
              exact h0
    | succ d ih => intro i hd hi; exact hs i (by omega) (ih (i + 1) (by omega) (by omega))
  exact fun i hi => key _ i rfl hi
theorem w64s {i : Nat} (h : i ≤ 4611686018427387904) : wrap64 ((i : Int) + 1) = ((i + 1 : Nat) : Int) := by
  rw [w64 (by omega) (by omega)]; omega
theorem rdg {α : Type} {d : α} {l : List α} {i : Nat} (h : i < l.length) : rdOf d l (i : Int) = l[i] := by
  simp [rdOf, List.getD_eq_getElem?_getD, List.getElem?_eq_getElem h]

/-- A list filled place by place. -/
theorem fill_ev {α : Type} {l : List α} {g : Nat → List α → Int → Option (List α)} (z : α)
    (hs : ∀ i (h : i < l.length) (out : List α), out.length = l.length → ∀ r, Ev (fun k => g k (out.set i l[i]) ((i + 1 : Nat) : Int)) r → Ev (fun k => g k out (i : Int)) r)
    (hf : ∀ out : List α, out.length = l.length → Ev (fun k => g k out (l.length : Int)) out) : Ev (fun k => g k (List.replicate l.length z) 0) l := by
  have key : ∀ i, i ≤ l.length → ∀ out : List α, out.length = l.length → (∀ j : Nat, j < i → out[j]? = l[j]?) → Ev (fun k => g k out (i : Int)) l := by
    refine down ?_ ?_
    · intro out ho ht
      have : out = l := List.ext_getElem? fun j => by
        by_cases h : j < l.length
        · exact ht j h
        · rw [List.getElem?_eq_none (by omega), List.getElem?_eq_none (by omega)]
      subst this
      exact hf out ho
    · intro i hi ih out ho ht
      refine hs i hi out ho l (ih _ (by rw [List.length_set]; exact ho) fun j hj => ?_)
      by_cases e : j = i
      · subst e; rw [List.getElem?_set_self (by omega), List.getElem?_eq_getElem hi]
      · rw [List.getElem?_set_ne (fun h => e h.symm)]; exact ht j (by omega)
  exact key 0 (Nat.zero_le _) _ (by simp) (fun j hj => by omega)

/-- A sum of non-negative parts, for the sizes of arguments. -/
theorem sz_loop {α : Type} {l : List α} {ok : α → Prop} {g : Nat → Int → Int → Option Int} (hl : l.length ≤ 4611686018427387904)
    (hs : ∀ i (h : i < l.length) (left : Int), 0 ≤ left → left ≤ 1048576 → (∃ r, r < 0 ∧ Ev (fun k => g k left (i : Int)) r) ∨ ∃ left', 0 ≤ left' ∧ left' ≤ left ∧ ok l[i] ∧ ∀ r, Ev (fun k => g k left' ((i + 1 : Nat) : Int)) r → Ev (fun k => g k left (i : Int)) r)
    (hf : ∀ left : Int, Ev (fun k => g k left (l.length : Int)) left) : ∀ left : Int, 0 ≤ left → left ≤ 1048576 → ∃ r, Ev (fun k => g k left 0) r ∧ (0 ≤ r → r ≤ left ∧ ∀ x ∈ l, ok x) := by
  have key : ∀ i, i ≤ l.length → ∀ left : Int, 0 ≤ left → left ≤ 1048576 → ∃ r, Ev (fun k => g k left (i : Int)) r ∧ (0 ≤ r → r ≤ left ∧ ∀ x ∈ l.drop i, ok x) := by
    refine down ?_ ?_
    · intro left h0 h1
      exact ⟨left, hf left, fun _ => ⟨Int.le_refl _, by simp⟩⟩
    · intro i hi ih left h0 h1
      rcases hs i hi left h0 h1 with ⟨r, hr, he⟩ | ⟨left', a0, a1, ho, hst⟩
      · exact ⟨r, he, fun h => by omega⟩
      · obtain ⟨r, he, hr⟩ := ih left' a0 (by omega)
        refine ⟨r, hst r he, fun h => ⟨by have := (hr h).1; omega, ?_⟩⟩
        rw [List.drop_eq_getElem_cons hi]
        intro x hx
        rcases List.mem_cons.1 hx with rfl | hx
        · exact ho
        · exact (hr h).2 x hx
  intro left h0 h1
  obtain ⟨r, he, hr⟩ := key 0 (Nat.zero_le _) left h0 h1
  exact ⟨r, he, by simpa using hr⟩

/-- The references among an object's values, from one on. -/
def refsB (p : Int → Bool) (t : ByteArray) : Nat → List Int → Bool
  | _, [] => true
  | i, v :: l => if bt t (i : Int) = 114 then p v && refsB p t (i + 1) l else refsB p t (i + 1) l
/-- isObject's loop, at any condition. -/
theorem refs_ev {types : List ByteArray} {vals : List Int} {tp : Int} {p : Int → Bool} {t : Nat → Int → Option Bool} {g : Nat → Int → Option Bool} (h0 : 0 ≤ tp) (h1 : tp < types.length) (hv : vals.length = (rdOf ByteArray.empty types tp).size) (hvl : vals.length ≤ 1099511627776)
    (hg : ∀ k (i : Int), g (k + 1) i = (if i < (vals.length : Int) then (if 0 ≤ i then (if i < (vals.length : Int) then (if 0 ≤ tp then (if tp < (types.length : Int) then (if 0 ≤ i then (if i < ((rdOf ByteArray.empty types tp).size : Int) then (if (byteAt (rdOf ByteArray.empty types tp) i) = 114 then ((t k (rd vals i)).bind fun t3 => (if t3 = true then (g k (wrap64 (i + 1))) else (some false))) else (g k (wrap64 (i + 1)))) else none) else none) else none) else none) else none) else none) else (some true)))
    (ht : ∀ x ∈ vals, Ev (fun k => t k x) (p x)) : Ev (fun k => g k 0) (refsB p (rdOf ByteArray.empty types tp) 0 vals) := by
  have key : ∀ i, i ≤ vals.length → Ev (fun k => g k (i : Int)) (refsB p (rdOf ByteArray.empty types tp) i (vals.drop i)) := by
    refine down ?_ ?_
    · rw [List.drop_eq_nil_of_le (Nat.le_refl _)]
      refine Ev.step (fun k => hg k _) ?_
      exact Ev.neg (by omega) (Ev.eq rfl)
    · intro i hi ih
      refine Ev.step (fun k => hg k _) ?_
      rw [rd_get hi, w64s (by omega), List.drop_eq_getElem_cons hi, refsB]
      refine Ev.pos (by omega) (Ev.pos (by omega) (Ev.pos (by omega) (Ev.pos h0 (Ev.pos h1 (Ev.pos (by omega) (Ev.pos (by omega) ?_))))))
      by_cases c : bt (rdOf ByteArray.empty types tp) (i : Int) = 114
      · rw [if_pos c]
        refine Ev.pos c (Ev.bind (ht _ (List.getElem_mem hi)) (Ev.cases (fun c2 => ?_) (fun c2 => ?_)))
        · rw [c2, Bool.true_and]; exact ih
        · rw [Bool.eq_false_iff.2 c2, Bool.false_and]; exact Ev.eq rfl
      · rw [if_neg c]
        exact Ev.neg c ih
  have h := key 0 (Nat.zero_le _)
  rw [List.drop_zero] at h
  exact h
/-- The same answer from every place on. -/
theorem each_ev {β : Type} {n : Nat} {g : Nat → Int → Option β} {r : β} (hs : ∀ i, i < n → Ev (fun k => g k ((i + 1 : Nat) : Int)) r → Ev (fun k => g k (i : Int)) r) (hf : Ev (fun k => g k (n : Int)) r) : Ev (fun k => g k 0) r :=
  down (P := fun i => Ev (fun k => g k (i : Int)) r) hf hs 0 (Nat.zero_le _)
/-- A condition asked of all elements in order. -/
theorem all_ev {α : Type} {l : List α} {p : α → Bool} {g : Nat → Int → Option Bool}
    (hs : ∀ i (h : i < l.length), (p l[i] = true → ∀ r, Ev (fun k => g k ((i + 1 : Nat) : Int)) r → Ev (fun k => g k (i : Int)) r) ∧ (p l[i] = false → Ev (fun k => g k (i : Int)) false))
    (b : Bool) (hf : Ev (fun k => g k (l.length : Int)) b) : Ev (fun k => g k 0) (l.all p && b) := by
  have key : ∀ i, i ≤ l.length → Ev (fun k => g k (i : Int)) ((l.drop i).all p && b) := by
    refine down ?_ ?_
    · rw [List.drop_eq_nil_of_le (Nat.le_refl _)]
      simpa using hf
    · intro i hi ih
      rw [List.drop_eq_getElem_cons hi, List.all_cons]
      cases c : p l[i] with
      | true => rw [Bool.true_and]; exact (hs i hi).1 c _ ih
      | false => rw [Bool.false_and, Bool.false_and]; exact (hs i hi).2 c
  have h := key 0 (Nat.zero_le _)
  rw [List.drop_zero] at h
  exact h
end Go.Proofs.YtmciidoohbmipaaGreatDoor.Abs
namespace Go.Proofs.YtmciidoohbmipaaGreatDoor.Abs
open Go Go.RowKit Go.ChangeShapes Go.WideShapes
set_option linter.unusedVariables false
set_option linter.unusedSectionVars false
set_option linter.unusedSimpArgs false

def okL {α : Type} (p : α → Prop) (l : List α) : Prop := l.length ≤ maxLen ∧ ∀ a ∈ l, p a

/-- What is known of a value from outside. -/
def Ty.ok : (t : Ty) → t.den → Prop
  | .int k, x => (Lit.int k x).wf = true
  | .bool, _ => True
  | .str, s => ByteArray.size s ≤ maxLen
  | .sl t, l => okL t.ok l
  | .pair a b, x => a.ok x.1 ∧ b.ok x.2

def opFs (P : Program) (r : TypeId → Option Ty) : Nat → List Field → Option Ty
  | _, [] => none
  | o, f :: fs => match r f.type with
    | none => none
    | some t => match Nat.beq f.offset o, Nat.beq (P.cellsOf f.type) t.sz with
      | true, true => match fs with
        | [] => some t
        | _ :: _ => match opFs P r (o + t.sz) fs with
          | some u => some (.pair t u)
          | none => none
      | _, _ => none

/-- A type with its cells in order. -/
def opTy (P : Program) : Nat → TypeId → Option Ty
  | 0, _ => none
  | n + 1, T => match P.underlying T with
    | some (.int k) => some (.int k)
    | some .bool => some .bool
    | some .string => some .str
    | some (.slice e) => match opTy P n e with
      | some t => match Nat.beq (P.cellsOf e) t.sz with
        | true => some (.sl t)
        | false => none
      | none => none
    | some (.struct fs) => match opFs P (opTy P n) 0 fs.toList with
      | some t => match Nat.beq (P.cellsOf T) t.sz with
        | true => some t
        | false => none
      | none => none
    | _ => none

section
variable {H : Type} {enc : TypeId × Value → H} {P : Program} {w : World} {base : Nat} {spare : Nat → Bool} {held : Bool} {M : Nat → Prop} (hM : ∀ b, ¬ M b)

def Opens (enc : TypeId × Value → H) (P : Program) (w : World) (base : Nat) (spare : Nat → Bool) (held : Bool) (M : Nat → Prop) (T : TypeId) (t : Ty) : Prop :=
  ∀ (fuel : Nat) (cs : List Value) (x : DataW H × List MemPlace), DataW.trod enc P w base spare held fuel T cs = some x → ∃ a : t.den, t.KR M w a cs ∧ t.ok a

theorem opFs_open {r : TypeId → Option Ty} (ih : ∀ T t, r T = some t → Opens enc P w base spare held M T t) {n : Nat} {cs : List Value} : (fs : List Field) → (o : Nat) → (t : Ty) → opFs P r o fs = some t →
    (∀ (i : Nat) (f : Field), fs[i]? = some f → ∃ x, DataW.trod enc P w base spare held n f.type ((cs.drop f.offset).take (P.cellsOf f.type)) = some x) → cs.length = o + t.sz → ∃ a : t.den, t.KR M w a (cs.drop o) ∧ t.ok a
  | [], o, t, h, _, _ => by cases h
  | f :: fs, o, t, h, hf, hl => by
    unfold opFs at h
    split at h
    · cases h
    rename_i t0 ht0
    split at h
    case h_2 => cases h
    rename_i h1 h2
    have h1 := Nat.eq_of_beq_eq_true h1
    have h2 := Nat.eq_of_beq_eq_true h2
    obtain ⟨x, hx⟩ := hf 0 f rfl
    rw [h1, h2] at hx
    obtain ⟨a, ka, oa⟩ := ih _ _ ht0 _ _ _ hx
    split at h
    · injection h with h
      subst h
      rw [List.take_of_length_le (by rw [List.length_drop]; omega)] at ka
      exact ⟨a, ka, oa⟩
    · split at h
      case h_2 => cases h
      rename_i u hu
      injection h with h
      subst h
      obtain ⟨b, kb, ob⟩ := opFs_open ih _ (o + t0.sz) u hu (fun i f' hi => hf (i + 1) f' (by simpa using hi)) (by rw [hl]; show o + (t0.sz + u.sz) = _; omega)
      refine ⟨(a, b), ⟨_, _, ?_, ka, kb⟩, oa, ob⟩
      rw [← List.drop_drop, List.take_append_drop]

theorem add_spot {w : World} {a : Addr} {v : Value} (h : w.cell? (a.add 0) = some v) : a = ⟨a.block, a.off, none⟩ := plain_addr (by rw [show a.add 0 = a from rfl] at h; exact h)

include hM
theorem opens : (n : Nat) → (T : TypeId) → (t : Ty) → opTy P n T = some t → Opens enc P w base spare held M T t
  | 0, _, _, h => by cases h
  | n + 1, T, t, h => by
    intro fuel cs x hx
    unfold opTy at h
    split at h
    · rename_i k hu
      injection h with h
      subst h
      obtain ⟨m, rfl, _, hw⟩ := DataW.trod_int hu hx
      exact ⟨m, rfl, hw⟩
    · rename_i hu
      injection h with h
      subst h
      obtain ⟨b, rfl, _⟩ := DataW.trod_bool hu hx
      exact ⟨b, rfl, trivial⟩
    · rename_i hu
      injection h with h
      subst h
      obtain ⟨s, rfl, _, hs⟩ := DataW.trod_string hu hx
      exact ⟨s, rfl, hs⟩
    · rename_i e hu
      split at h
      case h_2 => cases h
      rename_i t0 ht0
      split at h
      case h_2 => cases h
      rename_i hc
      have hc := Nat.eq_of_beq_eq_true hc
      injection h with h
      subst h
      have ih := opens n e t0 ht0
      rcases DataW.trod_slice hu hx with ⟨rfl, _⟩ | ⟨a, len, cap, elems, rest, m, _, rfl, _, hb, hl, hm, hlen, hel, _⟩
      · exact ⟨[], ⟨none, 0, rfl, Nat.le_refl _, fun i x hx => by simp at hx⟩, Nat.zero_le _, fun a ha => by cases ha⟩
      · have each : ∀ i, i < len → ∃ y : t0.den, ∃ c : List Value, w.cells? base (a.add (i * P.cellsOf e)) (P.cellsOf e) = some c ∧ t0.KR M w y c ∧ t0.ok y := by
          intro i hi
          have h1 := hel i hi
          rw [List.getElem?_eq_getElem (by omega)] at h1
          obtain ⟨c, hc1, hc2⟩ := Option.bind_eq_some_iff.1 h1
          obtain ⟨y, hy, ho⟩ := ih m c _ hc2
          exact ⟨y, c, hc1, hy, ho⟩
        obtain ⟨ys, hyl, hys⟩ : ∃ ys : List t0.den, ys.length = len ∧ ∀ i (h : i < ys.length), ∃ c : List Value, w.cells? base (a.add (i * P.cellsOf e)) (P.cellsOf e) = some c ∧ t0.KR M w ys[i] c ∧ t0.ok ys[i] := by
          refine ⟨List.ofFn fun i : Fin len => Classical.choose (each i i.2), by simp, fun i h => ?_⟩
          have hi : i < len := by simpa using h
          rw [List.getElem_ofFn]
          exact Classical.choose_spec (each i hi)
        refine ⟨ys, ⟨some a, cap, by rw [hyl], by omega, fun i y hy => ?_⟩, by omega, fun y hy => ?_⟩
        · have hi : i < ys.length := (List.getElem?_eq_some_iff.1 hy).1
          obtain ⟨c0, hc0, hk0, _⟩ := hys 0 (by omega)
          have hsz := t0.sz_pos
          have hcell0 := (World.cells?_some hc0).2.2 0 (by omega)
          have hl0 := (World.cells?_some hc0).2.1
          rw [List.getElem?_eq_getElem (by omega), Nat.zero_mul] at hcell0
          have hpl : a = ⟨a.block, a.off, none⟩ := plain_addr (a := a) (by rw [show (a.add 0).add 0 = a from rfl] at hcell0; exact hcell0)
          obtain ⟨c, hc1, hk, _⟩ := hys i hi
          have hye : ys[i] = y := by
            have := List.getElem?_eq_getElem hi
            rw [this] at hy
            injection hy
          rw [hye] at hk
          refine ⟨a.block, a.off, c, by rw [← hpl], hM _, KR_len t0 hk, hk, fun j u hu => ?_⟩
          have hj := (List.getElem?_eq_some_iff.1 hu).1
          have hcl := (World.cells?_some hc1).2.1
          have hcell := (World.cells?_some hc1).2.2 j (by omega)
          rw [hu, hpl, add_at, add_at, hc, Nat.add_assoc] at hcell
          exact hcell
        · obtain ⟨i, hi, rfl⟩ := List.getElem_of_mem hy
          obtain ⟨_, _, _, ho⟩ := hys i hi
          exact ho
    · rename_i fs hu
      split at h
      case h_2 => cases h
      rename_i t0 ht0
      split at h
      case h_2 => cases h
      rename_i hc
      have hc := Nat.eq_of_beq_eq_true hc
      injection h with h
      subst h
      obtain ⟨xs, m, _, _, hlen, hxl, hf⟩ := DataW.trod_struct hu hx
      have := opFs_open (n := m) (cs := cs) (fun T t hT => opens n T t hT) fs.toList 0 t0 ht0 (fun i f hi => by
        have hi' : fs[i]? = some f := by simpa using hi
        have hlt : i < xs.length := by
          rw [hxl]
          exact (Array.getElem?_eq_some_iff.1 hi').1
        exact ⟨_, (hf i f hi').trans (List.getElem?_eq_getElem hlt)⟩) (by rw [hlen, hc, Nat.zero_add])
      simpa using this
    · cases h
omit hM

/-- An argument out of its cells. -/
def argAV (agg : Bool) (cs : List AV) : AV := match agg, cs with
  | true, cs => .agg cs
  | false, [c] => c
  | false, _ => .dead

theorem arg_struct {M : Nat → Prop} {w : World} {ρ : Nat → Value} {hp : Heap} {t : Ty} {a : t.den} {cs : Array Value} (h : t.KR M w a (Value.agg cs).cells.toList) : R M w ρ hp (argAV true (t.cells a)) (.agg cs) :=
  ⟨cs.toList, by simp, R_cells' (by simpa [Value.cells] using h)⟩
theorem arg_cell {M : Nat → Prop} {w : World} {ρ : Nat → Value} {hp : Heap} {t : Ty} {a : t.den} {v : Value} {c : AV} (hv : v.cells = #[v]) (h : t.KR M w a v.cells.toList) (hc : t.cells a = [c]) : R M w ρ hp (argAV false (t.cells a)) v := by
  have := R_cells' (ρ := ρ) (hp := hp) h
  rw [hc, hv] at this
  rw [hc]
  obtain ⟨u, q, e, h1, h2⟩ := this
  injection e with e1 e2
  rw [e1]
  exact h1

/-- A value that is no struct is one cell. -/
theorem okWide_cell {w : World} {r : Reach} {base : Nat} {T : TypeId} {v : Value} (hu : (match P.underlying T with | some (.int _) => true | some .bool => true | some .string => true | some (.slice _) => true | _ => false) = true) (h : Value.okWide P w r base T v) : v.cells = #[v] := by
  split at hu
  · rename_i k hT
    obtain ⟨n, rfl⟩ := okWide_int hT h
    rfl
  · rename_i hT
    obtain ⟨n, rfl⟩ := okWide_bool hT h
    rfl
  · rename_i hT
    obtain ⟨n, rfl⟩ := okWide_string hT h
    rfl
  · rename_i e hT
    obtain ⟨a, len, cap, rfl⟩ := okWide_slice hT h
    rfl
  · cases hu
end
end Go.Proofs.YtmciidoohbmipaaGreatDoor.Abs
namespace Go.Proofs.YtmciidoohbmipaaGreatDoor.Abs
open Go Go.RowKit
set_option linter.unusedVariables false
set_option linter.unusedSectionVars false
set_option linter.unusedSimpArgs false
noncomputable section
def laws_big.f (a0 : List Int) : Option (Bool) := (some (decide ((a0.length : Int) > 1048576)))
def spec_l1Open.f (a0 : List Int) : Option (List Int × Int) := (some (a0, 0))
def spec_l1Rd_next.f (a0_0 : List Int) (a0_1 : Int) : Option (List Int × Int × Int) := (if a0_1 ≥ (a0_0.length : Int) then (some (a0_0, a0_1, 0)) else (if 0 ≤ (wrap64 ((wrap64 (a0_1 + 1)) - 1)) then (if (wrap64 ((wrap64 (a0_1 + 1)) - 1)) < (a0_0.length : Int) then (some (a0_0, (wrap64 (a0_1 + 1)), (wrap64 (rd a0_0 (wrap64 ((wrap64 (a0_1 + 1)) - 1)))))) else none) else none))
def spec_l1Rd_below.f (a0_0 : List Int) (a0_1 : Int) (a1 : Int) : Option (List Int × Int × Int) := (if a1 ≤ 1 then (some (a0_0, a0_1, 0)) else (if a1 ≤ 256 then ((spec_l1Rd_next.f a0_0 a0_1).bind fun t1 => (if a1 = 0 then none else (some (t1.1, t1.2.1, (Int.tmod t1.2.2 a1))))) else ((spec_l1Rd_next.f a0_0 a0_1).bind fun t2 => ((spec_l1Rd_next.f t2.1 t2.2.1).bind fun t3 => (if a1 = 0 then none else (some (t3.1, t3.2.1, (Int.tmod (wrap64 ((wrap64 (t2.2.2 * 256)) + t3.2.2)) a1))))))))
def spec_l1Rd_once.f (a0_0 : List Int) (a0_1 : Int) (a1 : Int) : Option (List Int × Int × Bool) := ((spec_l1Rd_below.f a0_0 a0_1 a1).bind fun t1 => (some (t1.1, t1.2.1, (decide (t1.2.2 = (wrap64 (a1 - 1)))))))
def spec_l1Rd_kinds.p8 : Nat → List Int → Int → ByteArray → Int → Option (List Int × Int × ByteArray)
 | 0, _, _, _, _ => none
 | k + 1, h0_0, h0_1, x5, x6 => (if x6 > 0 then ((spec_l1Rd_below.f h0_0 h0_1 2).bind fun t2 => (if 0 ≤ t2.2.2 then (if t2.2.2 < 2 then (if x5.size + (rdOf ByteArray.empty ([(⟨#[105]⟩ : ByteArray), (⟨#[114]⟩ : ByteArray)] : List ByteArray) t2.2.2).size ≤ 9223372036854775807 then (spec_l1Rd_kinds.p8 k t2.1 t2.2.1 (x5 ++ (rdOf ByteArray.empty ([(⟨#[105]⟩ : ByteArray), (⟨#[114]⟩ : ByteArray)] : List ByteArray) t2.2.2)) (wrap64 (x6 - 1))) else none) else none) else none)) else (some (h0_0, h0_1, x5)))
def spec_l1Rd_kinds.f (k : Nat) (a0_0 : List Int) (a0_1 : Int) (a1 : Int) : Option (List Int × Int × ByteArray) := ((spec_l1Rd_below.f a0_0 a0_1 a1).bind fun t1 => (spec_l1Rd_kinds.p8 k t1.1 t1.2.1 (⟨#[]⟩ : ByteArray) (wrap64 (1 + t1.2.2))))
def spec_l1Rd_types.p8 : Nat → List Int → Int → List ByteArray → Int → Option (List Int × Int × List ByteArray)
 | 0, _, _, _, _ => none
 | k + 1, h0_0, h0_1, x3, x4 => (if x4 > 0 then ((spec_l1Rd_once.f h0_0 h0_1 4).bind fun t3 => (if t3.2.2 = true then ((spec_l1Rd_kinds.f k t3.1 t3.2.1 23).bind fun t4 => (if x3.length + 1 ≤ 8796093022208 then (spec_l1Rd_types.p8 k t4.1 t4.2.1 (x3 ++ ([t4.2.2] : List ByteArray)) (wrap64 (x4 - 1))) else none)) else ((spec_l1Rd_kinds.f k t3.1 t3.2.1 5).bind fun t5 => (if x3.length + 1 ≤ 8796093022208 then (spec_l1Rd_types.p8 k t5.1 t5.2.1 (x3 ++ ([t5.2.2] : List ByteArray)) (wrap64 (x4 - 1))) else none)))) else (some (h0_0, h0_1, x3)))
def spec_l1Rd_types.f (k : Nat) (a0_0 : List Int) (a0_1 : Int) : Option (List Int × Int × List ByteArray) := ((spec_l1Rd_below.f a0_0 a0_1 4).bind fun t1 => (if 0 ≤ t1.2.2 then (if t1.2.2 < 4 then ((spec_l1Rd_below.f t1.1 t1.2.1 3).bind fun t2 => (spec_l1Rd_types.p8 k t2.1 t2.2.1 ([(rdOf ByteArray.empty ([(⟨#[105, 114]⟩ : ByteArray), (⟨#[114, 114, 105]⟩ : ByteArray), (⟨#[114, 105]⟩ : ByteArray), (⟨#[105, 114, 114]⟩ : ByteArray)] : List ByteArray) t1.2.2)] : List ByteArray) t2.2.2)) else none) else none))
def spec_l1Rd_small.f (k : Nat) (a0_0 : List Int) (a0_1 : Int) : Option (List Int × Int × Int × Int × Int × List ByteArray) := ((spec_l1Rd_below.f a0_0 a0_1 5).bind fun t1 => ((spec_l1Rd_below.f t1.1 t1.2.1 30).bind fun t2 => ((spec_l1Rd_types.f k t2.1 t2.2.1).bind fun t3 => ((spec_l1Rd_below.f t3.1 t3.2.1 8).bind fun t4 => (if (wrap64 ((wrap64 (4 + (wrap64 (1 + t1.2.2)))) + (wrap64 (1 + t4.2.2)))) < 8 then (some (t4.1, t4.2.1, 8, (wrap64 (1 + t1.2.2)), (wrap64 (4 + t2.2.2)), t3.2.2)) else (some (t4.1, t4.2.1, (wrap64 ((wrap64 (4 + (wrap64 (1 + t1.2.2)))) + (wrap64 (1 + t4.2.2)))), (wrap64 (1 + t1.2.2)), (wrap64 (4 + t2.2.2)), t3.2.2)))))))
def spec_l1In.f (a0 : Int) (a1 : Int) (a2 : Int) : Option (Bool) := (if a0 ≥ a1 then (some (decide (a0 ≤ a2))) else (some false))
def spec_l3Type.p6 : Nat → ByteArray → Int → Option (Bool)
 | 0, _, _ => none
 | k + 1, x0, x3 => (if x3 < (x0.size : Int) then (if 0 ≤ x3 then (if x3 < (x0.size : Int) then (if (byteAt x0 x3) = 105 then (spec_l3Type.p6 k x0 (wrap64 (x3 + 1))) else (if 0 ≤ x3 then (if x3 < (x0.size : Int) then (if (byteAt x0 x3) = 114 then (spec_l3Type.p6 k x0 (wrap64 (x3 + 1))) else (some false)) else none) else none)) else none) else none) else ((spec_l1In.f (x0.size : Int) 1 23).bind fun t1 => (some t1)))
def spec_l3Type.f (k : Nat) (a0 : ByteArray) : Option (Bool) := (spec_l3Type.p6 k a0 0)
def spec_TypesOk.p14 : Nat → List ByteArray → Int → Option (Bool)
 | 0, _, _ => none
 | k + 1, x0, x3 => (if x3 < (x0.length : Int) then (if 0 ≤ x3 then (if x3 < (x0.length : Int) then ((spec_l3Type.f k (rdOf ByteArray.empty x0 x3)).bind fun t2 => (if t2 = true then (spec_TypesOk.p14 k x0 (wrap64 (x3 + 1))) else (some false))) else none) else none) else (some true))
def spec_TypesOk.f (k : Nat) (a0 : List ByteArray) : Option (Bool) := ((spec_l1In.f (a0.length : Int) 1 12).bind fun t1 => (if t1 = true then (spec_TypesOk.p14 k a0 0) else (some false)))
def spec_ConfigOk.f (k : Nat) (a0_0 : Int) (a0_1 : Int) (a0_2 : Int) (a0_3 : List ByteArray) : Option (Bool) := ((spec_l1In.f a0_0 8 128).bind fun t1 => (if t1 = true then ((spec_l1In.f a0_1 1 32).bind fun t2 => (if t2 = true then (if a0_1 ≤ (wrap64 (a0_0 - 5)) then ((spec_l1In.f a0_2 2 400).bind fun t3 => (if t3 = true then ((spec_TypesOk.f k a0_3).bind fun t4 => (some t4)) else (some false))) else (some false)) else (some false))) else (some false)))
def spec_WordBytes.p8 : Nat → Int → List Int → Int → Option (ByteArray)
 | 0, _, _, _ => none
 | k + 1, x0, x3, x4 => (if x4 < 8 then (if (IntKind.wrap .u64 (wrap64 (56 - (wrap64 (8 * x4))))) < 0 then none else (if 0 ≤ x4 then (if x4 < (x3.length : Int) then (spec_WordBytes.p8 k x0 (x3.set x4.toNat ((shrA .u64 (IntKind.wrap .u64 x0) (IntKind.wrap .u64 (wrap64 (56 - (wrap64 (8 * x4)))))) % 256)) (wrap64 (x4 + 1))) else none) else none)) else (some (strOf x3)))
def spec_WordBytes.f (k : Nat) (a0 : Int) : Option (ByteArray) := (spec_WordBytes.p8 k a0 (List.replicate 8 (0 : Int)) 0)
def spec_ShortBytes.f (k : Nat) (a0 : Int) : Option (ByteArray) := ((spec_l1In.f a0 0 65535).bind fun t1 => (if t1 = true then ((spec_WordBytes.f k a0).bind fun t2 => (if 6 ≤ (t2.size : Int) then (some (t2.extract 6 (t2.size : Int).toNat)) else none)) else (some (⟨#[]⟩ : ByteArray))))
def spec_l1Zeros.f (a0 : Int) : Option (ByteArray) := (if 0 ≤ a0 then (if a0.toNat ≤ 281474976710656 then (some (strOf (List.replicate a0.toNat (0 : Int)))) else none) else none)
mutual
def spec_l1Crc.p8 : Nat → ByteArray → Int → Int → Option (ByteArray)
 | 0, _, _, _ => none
 | k + 1, x0, x3, x4 => (if x4 < (x0.size : Int) then (if 0 ≤ x4 then (if x4 < (x0.size : Int) then (spec_l1Crc.p22 k x0 (xorA .u32 x3 (IntKind.wrap .u32 (byteAt x0 x4))) x4 0) else none) else none) else (some (strOf ([((shrA .u32 (xorA .u32 4294967295 x3) 24) % 256), ((shrA .u32 (xorA .u32 4294967295 x3) 16) % 256), ((shrA .u32 (xorA .u32 4294967295 x3) 8) % 256), ((xorA .u32 4294967295 x3) % 256)] : List Int))))
def spec_l1Crc.p22 : Nat → ByteArray → Int → Int → Int → Option (ByteArray)
 | 0, _, _, _, _ => none
 | k + 1, x0, x3, x4, x5 => (if x5 < 8 then (if (Int.tmod x3 2) = 1 then (spec_l1Crc.p22 k x0 (xorA .u32 (shrA .u32 x3 1) 3988292384) x4 (wrap64 (x5 + 1))) else (spec_l1Crc.p22 k x0 (shrA .u32 x3 1) x4 (wrap64 (x5 + 1)))) else (spec_l1Crc.p8 k x0 x3 (wrap64 (x4 + 1))))
end
def spec_l1Crc.f (k : Nat) (a0 : ByteArray) : Option (ByteArray) := (spec_l1Crc.p8 k a0 4294967295 0)
def spec_Sealed.f (k : Nat) (a0 : ByteArray) : Option (ByteArray) := (if (a0.size : Int) > 60 then (some (⟨#[]⟩ : ByteArray)) else ((spec_l1Zeros.f (wrap64 (60 - (a0.size : Int)))).bind fun t1 => (if a0.size + t1.size ≤ 9223372036854775807 then ((spec_l1Crc.f k (a0 ++ t1)).bind fun t2 => (if (a0 ++ t1).size + t2.size ≤ 9223372036854775807 then (some ((a0 ++ t1) ++ t2)) else none)) else none)))
mutual
def spec_l3Super.p8 : Nat → Int → Int → Int → List ByteArray → ByteArray → Int → Option (ByteArray)
 | 0, _, _, _, _, _, _ => none
 | k + 1, x1_0, x1_1, x1_2, x1_3, x3, x4 => (if x4 < (x1_3.length : Int) then (spec_l3Super.p23 k x1_0 x1_1 x1_2 x1_3 x3 x4 0 0) else ((spec_Sealed.f k x3).bind fun t4 => (some t4)))
def spec_l3Super.p23 : Nat → Int → Int → Int → List ByteArray → ByteArray → Int → Int → Int → Option (ByteArray)
 | 0, _, _, _, _, _, _, _, _ => none
 | k + 1, x1_0, x1_1, x1_2, x1_3, x3, x4, x5, x6 => (if 0 ≤ x4 then (if x4 < (x1_3.length : Int) then (if x6 < ((rdOf ByteArray.empty x1_3 x4).size : Int) then (if 0 ≤ x4 then (if x4 < (x1_3.length : Int) then (if 0 ≤ x6 then (if x6 < ((rdOf ByteArray.empty x1_3 x4).size : Int) then (if (byteAt (rdOf ByteArray.empty x1_3 x4) x6) = 114 then (if (IntKind.wrap .u64 x6) < 0 then none else (spec_l3Super.p23 k x1_0 x1_1 x1_2 x1_3 x3 x4 (orA .i64 x5 (shlA .i64 1 (IntKind.wrap .u64 x6))) (wrap64 (x6 + 1)))) else (spec_l3Super.p23 k x1_0 x1_1 x1_2 x1_3 x3 x4 x5 (wrap64 (x6 + 1)))) else none) else none) else none) else none) else (if 0 ≤ x4 then (if x4 < (x1_3.length : Int) then (if x3.size + (strOf ([(((rdOf ByteArray.empty x1_3 x4).size : Int) % 256), ((shrA .i64 x5 16) % 256), ((shrA .i64 x5 8) % 256), (x5 % 256)] : List Int)).size ≤ 9223372036854775807 then (spec_l3Super.p8 k x1_0 x1_1 x1_2 x1_3 (x3 ++ (strOf ([(((rdOf ByteArray.empty x1_3 x4).size : Int) % 256), ((shrA .i64 x5 16) % 256), ((shrA .i64 x5 8) % 256), (x5 % 256)] : List Int))) (wrap64 (x4 + 1))) else none) else none) else none)) else none) else none)
end
def spec_l3Super.f (k : Nat) (a0_0 : Int) (a0_1 : Int) (a0_2 : Int) (a0_3 : List ByteArray) : Option (ByteArray) := ((spec_ShortBytes.f k a0_0).bind fun t1 => (if (⟨#[78, 86, 71, 49]⟩ : ByteArray).size + t1.size ≤ 9223372036854775807 then ((spec_ShortBytes.f k a0_1).bind fun t2 => (if ((⟨#[78, 86, 71, 49]⟩ : ByteArray) ++ t1).size + t2.size ≤ 9223372036854775807 then ((spec_ShortBytes.f k a0_2).bind fun t3 => (if (((⟨#[78, 86, 71, 49]⟩ : ByteArray) ++ t1) ++ t2).size + t3.size ≤ 9223372036854775807 then (if ((((⟨#[78, 86, 71, 49]⟩ : ByteArray) ++ t1) ++ t2) ++ t3).size + (strOf ([((a0_3.length : Int) % 256)] : List Int)).size ≤ 9223372036854775807 then (spec_l3Super.p8 k a0_0 a0_1 a0_2 a0_3 (((((⟨#[78, 86, 71, 49]⟩ : ByteArray) ++ t1) ++ t2) ++ t3) ++ (strOf ([((a0_3.length : Int) % 256)] : List Int))) 0) else none) else none)) else none)) else none))
def spec_EpochLine.f (k : Nat) (a0 : Int) : Option (ByteArray) := ((spec_l1In.f a0 0 1000000000).bind fun t1 => (if t1 = true then ((spec_WordBytes.f k a0).bind fun t2 => ((spec_Sealed.f k t2).bind fun t3 => (some t3))) else (some (⟨#[]⟩ : ByteArray))))
def spec_Format.f (k : Nat) (a0_0 : Int) (a0_1 : Int) (a0_2 : Int) (a0_3 : List ByteArray) : Option (ByteArray) := ((spec_ConfigOk.f k a0_0 a0_1 a0_2 a0_3).bind fun t1 => (if t1 = true then ((spec_l3Super.f k a0_0 a0_1 a0_2 a0_3).bind fun t2 => ((spec_EpochLine.f k 0).bind fun t3 => (if t2.size + t3.size ≤ 9223372036854775807 then ((spec_l1Zeros.f (wrap64 ((wrap64 (64 * a0_0)) - 128))).bind fun t4 => (if (t2 ++ t3).size + t4.size ≤ 9223372036854775807 then (some ((t2 ++ t3) ++ t4)) else none)) else none))) else (some (⟨#[]⟩ : ByteArray))))
def spec_l2With.f (a0 : ByteArray) (a1 : Int) (a2 : ByteArray) : Option (ByteArray) := (if 0 ≤ a1 then (if a1 ≤ (a0.size : Int) then (if (a0.extract 0 a1.toNat).size + a2.size ≤ 9223372036854775807 then (if 0 ≤ (wrap64 (a1 + (a2.size : Int))) then (if (wrap64 (a1 + (a2.size : Int))) ≤ (a0.size : Int) then (if ((a0.extract 0 a1.toNat) ++ a2).size + (a0.extract (wrap64 (a1 + (a2.size : Int))).toNat (a0.size : Int).toNat).size ≤ 9223372036854775807 then (some (((a0.extract 0 a1.toNat) ++ a2) ++ (a0.extract (wrap64 (a1 + (a2.size : Int))).toNat (a0.size : Int).toNat))) else none) else none) else none) else none) else none) else none)
def spec_l1Rd_size.f (a0_0 : List Int) (a0_1 : Int) (a1 : Int) (a2 : Int) : Option (List Int × Int × Int) := (if a1 = 0 then none else (if (wrap64 (1 + (wrap64 (Int.tdiv (a0_0.length : Int) a1)))) > a2 then ((spec_l1Rd_below.f a0_0 a0_1 a2).bind fun t1 => (some (t1.1, t1.2.1, (wrap64 (1 + t1.2.2))))) else ((spec_l1Rd_below.f a0_0 a0_1 (wrap64 (1 + (wrap64 (Int.tdiv (a0_0.length : Int) a1))))).bind fun t2 => (some (t2.1, t2.2.1, (wrap64 (1 + t2.2.2)))))))
def spec_l2Count.f (a0_0 : ByteArray) (a0_1 : List (Int × ByteArray × ByteArray)) : Option (Int) := (some (wrap64 (Int.tdiv (a0_0.size : Int) 64)))
def spec_DeviceOk.p14 : Nat → ByteArray → List (Int × ByteArray × ByteArray) → Int → Option (Bool)
 | 0, _, _, _ => none
 | k + 1, x1_0, x1_1, x3 => (if x3 < (x1_1.length : Int) then (if 0 ≤ x3 then (if x3 < (x1_1.length : Int) then ((spec_l2Count.f x1_0 x1_1).bind fun t3 => ((spec_l1In.f (rdOf (0, (ByteArray.empty, ByteArray.empty)) x1_1 x3).1 0 (wrap64 (t3 - 1))).bind fun t4 => (if t4 = true then (if x3 > 0 then (if 0 ≤ (wrap64 (x3 - 1)) then (if (wrap64 (x3 - 1)) < (x1_1.length : Int) then (if (rdOf (0, (ByteArray.empty, ByteArray.empty)) x1_1 x3).1 ≤ (rdOf (0, (ByteArray.empty, ByteArray.empty)) x1_1 (wrap64 (x3 - 1))).1 then (some false) else (if ((rdOf (0, (ByteArray.empty, ByteArray.empty)) x1_1 x3).2.1.size : Int) = 64 then (if ((rdOf (0, (ByteArray.empty, ByteArray.empty)) x1_1 x3).2.2.size : Int) = 64 then (spec_DeviceOk.p14 k x1_0 x1_1 (wrap64 (x3 + 1))) else (if (rdOf (0, (ByteArray.empty, ByteArray.empty)) x1_1 x3).2.2.toList = (⟨#[]⟩ : ByteArray).toList then (spec_DeviceOk.p14 k x1_0 x1_1 (wrap64 (x3 + 1))) else (some false))) else (some false))) else none) else none) else (if ((rdOf (0, (ByteArray.empty, ByteArray.empty)) x1_1 x3).2.1.size : Int) = 64 then (if ((rdOf (0, (ByteArray.empty, ByteArray.empty)) x1_1 x3).2.2.size : Int) = 64 then (spec_DeviceOk.p14 k x1_0 x1_1 (wrap64 (x3 + 1))) else (if (rdOf (0, (ByteArray.empty, ByteArray.empty)) x1_1 x3).2.2.toList = (⟨#[]⟩ : ByteArray).toList then (spec_DeviceOk.p14 k x1_0 x1_1 (wrap64 (x3 + 1))) else (some false))) else (some false))) else (some false)))) else none) else none) else (some true))
def spec_DeviceOk.f (k : Nat) (a0_0 : ByteArray) (a0_1 : List (Int × ByteArray × ByteArray)) : Option (Bool) := (if (Int.tmod (a0_0.size : Int) 64) = 0 then ((spec_l2Count.f a0_0 a0_1).bind fun t1 => ((spec_l1In.f t1 1 128).bind fun t2 => (if t2 = true then (spec_DeviceOk.p14 k a0_0 a0_1 0) else (some false)))) else (some false))
def spec_l2Seen.p8 : Nat → ByteArray → List (Int × ByteArray × ByteArray) → List Int → Int → Option (ByteArray)
 | 0, _, _, _, _ => none
 | k + 1, x1_0, x1_1, x3, x4 => (if x4 < (x1_1.length : Int) then (if 0 ≤ x4 then (if x4 < (x1_1.length : Int) then (if 0 ≤ (wrap64 (64 * (rdOf (0, (ByteArray.empty, ByteArray.empty)) x1_1 x4).1)) then (if (wrap64 (64 * (rdOf (0, (ByteArray.empty, ByteArray.empty)) x1_1 x4).1)) ≤ (x3.length : Int) then (if 0 ≤ x4 then (if x4 < (x1_1.length : Int) then (spec_l2Seen.p8 k x1_0 x1_1 (cpy x3 (wrap64 (64 * (rdOf (0, (ByteArray.empty, ByteArray.empty)) x1_1 x4).1)).toNat (rdOf (0, (ByteArray.empty, ByteArray.empty)) x1_1 x4).2.1) (wrap64 (x4 + 1))) else none) else none) else none) else none) else none) else none) else (some (strOf x3)))
def spec_l2Seen.f (k : Nat) (a0_0 : ByteArray) (a0_1 : List (Int × ByteArray × ByteArray)) : Option (ByteArray) := (spec_l2Seen.p8 k a0_0 a0_1 (numsOf a0_0) 0)
def spec_Seen.f (k : Nat) (a0_0 : ByteArray) (a0_1 : List (Int × ByteArray × ByteArray)) : Option (ByteArray) := ((spec_DeviceOk.f k a0_0 a0_1).bind fun t1 => (if t1 = true then ((spec_l2Seen.f k a0_0 a0_1).bind fun t2 => (some t2)) else (some (⟨#[]⟩ : ByteArray))))
def spec_l5Image.f (k : Nat) (a0_0 : Int) (a0_1 : Int) (a0_2 : Int) (a0_3 : List ByteArray) (a1 : ByteArray) : Option (Bool) := ((spec_ConfigOk.f k a0_0 a0_1 a0_2 a0_3).bind fun t1 => (if t1 = true then (some (decide ((a1.size : Int) = (wrap64 (64 * a0_0))))) else (some false)))
def spec_l5Line.f (a0 : ByteArray) (a1 : Int) : Option (ByteArray) := (if 0 ≤ (wrap64 ((wrap64 (64 * a1)) + 64)) then (if (wrap64 ((wrap64 (64 * a1)) + 64)) ≤ (a0.size : Int) then (if 0 ≤ (wrap64 (64 * a1)) then (if (wrap64 (64 * a1)) ≤ (wrap64 ((wrap64 (64 * a1)) + 64)) then (some (a0.extract (wrap64 (64 * a1)).toNat (wrap64 ((wrap64 (64 * a1)) + 64)).toNat)) else none) else none) else none) else none)
def spec_ReadWord.p16 : Nat → ByteArray → Int → Int → Option (Int × Bool)
 | 0, _, _, _ => none
 | k + 1, x0, x4, x5 => (if x5 < 8 then (if 0 ≤ x5 then (if x5 < (x0.size : Int) then (spec_ReadWord.p16 k x0 (orA .u64 (shlA .u64 x4 8) (IntKind.wrap .u64 (byteAt x0 x5))) (wrap64 (x5 + 1))) else none) else none) else (some ((wrap64 x4), true)))
def spec_ReadWord.f (k : Nat) (a0 : ByteArray) : Option (Int × Bool) := (if (a0.size : Int) = 8 then (spec_ReadWord.p16 k a0 0 0) else (some (0, false)))
def spec_ReadEpoch.f (k : Nat) (a0 : ByteArray) : Option (Int × Bool) := (if (a0.size : Int) = 64 then (if 8 ≤ (a0.size : Int) then ((spec_ReadWord.f k (a0.extract 0 8)).bind fun t1 => ((spec_EpochLine.f k t1.1).bind fun t2 => (if t2.toList = a0.toList then (some (t1.1, true)) else (some (0, false))))) else none) else (some (0, false)))
def spec_EpochOf.f (k : Nat) (a0_0 : Int) (a0_1 : Int) (a0_2 : Int) (a0_3 : List ByteArray) (a1 : ByteArray) : Option (Int) := ((spec_l5Image.f k a0_0 a0_1 a0_2 a0_3 a1).bind fun t1 => (if t1 = true then ((spec_l5Line.f a1 1).bind fun t2 => ((spec_ReadEpoch.f k t2).bind fun t3 => (if t3.2 = true then (some t3.1) else (some (-1))))) else (some (-1))))
def spec_ReadShort.f (a0 : ByteArray) : Option (Int × Bool) := (if (a0.size : Int) = 2 then (if 0 < (a0.size : Int) then (if 1 < (a0.size : Int) then (some ((wrap64 ((wrap64 ((wrap64 (byteAt a0 0)) * 256)) + (wrap64 (byteAt a0 1)))), true)) else none) else none) else (some (0, false)))
def spec_RecordLine.p5 : Nat → Int → Int → Int → ByteArray → Bool → Option (ByteArray)
 | 0, _, _, _, _, _ => none
 | k + 1, x1_0, x1_1, x1_2, x1_3, x24 => (if x24 = true then (some (⟨#[]⟩ : ByteArray)) else (if (⟨#[85]⟩ : ByteArray).size + (strOf ([(x1_1 % 256)] : List Int)).size ≤ 9223372036854775807 then ((spec_ShortBytes.f k x1_2).bind fun t4 => (if ((⟨#[85]⟩ : ByteArray) ++ (strOf ([(x1_1 % 256)] : List Int))).size + t4.size ≤ 9223372036854775807 then ((spec_WordBytes.f k x1_0).bind fun t5 => (if (((⟨#[85]⟩ : ByteArray) ++ (strOf ([(x1_1 % 256)] : List Int))) ++ t4).size + t5.size ≤ 9223372036854775807 then (if ((((⟨#[85]⟩ : ByteArray) ++ (strOf ([(x1_1 % 256)] : List Int))) ++ t4) ++ t5).size + x1_3.size ≤ 9223372036854775807 then ((spec_Sealed.f k (((((⟨#[85]⟩ : ByteArray) ++ (strOf ([(x1_1 % 256)] : List Int))) ++ t4) ++ t5) ++ x1_3)).bind fun t6 => (some t6)) else none) else none)) else none)) else none))
def spec_RecordLine.f (k : Nat) (a0_0 : Int) (a0_1 : Int) (a0_2 : Int) (a0_3 : ByteArray) : Option (ByteArray) := ((spec_l1In.f a0_0 0 999999999).bind fun t1 => (if t1 = true then ((spec_l1In.f a0_1 0 31).bind fun t2 => (if t2 = true then ((spec_l1In.f a0_2 0 255).bind fun t3 => (if t3 = true then (spec_RecordLine.p5 k a0_0 a0_1 a0_2 a0_3 (!decide ((a0_3.size : Int) = 32))) else (spec_RecordLine.p5 k a0_0 a0_1 a0_2 a0_3 true))) else (spec_RecordLine.p5 k a0_0 a0_1 a0_2 a0_3 true))) else (spec_RecordLine.p5 k a0_0 a0_1 a0_2 a0_3 true)))
def spec_ReadRecord.f (k : Nat) (a0 : ByteArray) : Option (Int × Int × Int × ByteArray × Bool) := (if (a0.size : Int) = 64 then (if 1 < (a0.size : Int) then (if 44 ≤ (a0.size : Int) then (if 4 ≤ (a0.size : Int) then ((spec_ReadShort.f (a0.extract 2 4)).bind fun t1 => (if 12 ≤ (a0.size : Int) then ((spec_ReadWord.f k (a0.extract 4 12)).bind fun t2 => ((spec_RecordLine.f k t2.1 (wrap64 (byteAt a0 1)) t1.1 (a0.extract 12 44)).bind fun t3 => (if t3.toList = a0.toList then (some (t2.1, (wrap64 (byteAt a0 1)), t1.1, (a0.extract 12 44), true)) else (some (0, 0, 0, (⟨#[]⟩ : ByteArray), false))))) else none)) else none) else none) else none) else (some (0, 0, 0, (⟨#[]⟩ : ByteArray), false)))
def spec_l5Half.f (a0_0 : Int) (a0_1 : Int) (a0_2 : Int) (a0_3 : List ByteArray) (a1 : Int) : Option (Bool) := (if a1 = 4 then (some true) else (if a1 = 5 then (some true) else ((spec_l1In.f a1 (wrap64 (2 * (wrap64 (4 + a0_1)))) (wrap64 ((wrap64 (2 * a0_0)) - 1))).bind fun t1 => (some t1))))
def spec_l5Place.p6 : Nat → List (Int × Int × Int × ByteArray) → Int → Int → Option (Int)
 | 0, _, _, _ => none
 | k + 1, x0, x1, x5 => (if x5 < (x0.length : Int) then (if 0 ≤ x5 then (if x5 < (x0.length : Int) then (if (rdOf (0, (0, (0, ByteArray.empty))) x0 x5).2.2.1 = x1 then (some x5) else (spec_l5Place.p6 k x0 x1 (wrap64 (x5 + 1)))) else none) else none) else (some (-1)))
def spec_l5Place.f (k : Nat) (a0 : List (Int × Int × Int × ByteArray)) (a1 : Int) : Option (Int) := (spec_l5Place.p6 k a0 a1 0)
mutual
def spec_LogOf.p18 : Nat → ByteArray → Int → Int → Int → List ByteArray → Int → List (Int × Int × Int × ByteArray) → Int → Option (List (Int × Int × Int × ByteArray) × Bool)
 | 0, _, _, _, _, _, _, _, _ => none
 | k + 1, x1, x2_0, x2_1, x2_2, x2_3, x6, x7, x8 => (if x8 < x2_1 then ((spec_l5Line.f x1 (wrap64 (4 + x8))).bind fun t2 => ((spec_ReadRecord.f k t2).bind fun t3 => (if t3.2.2.2.2 = true then (spec_LogOf.p32 k x1 x2_0 x2_1 x2_2 x2_3 x6 x7 x8 t3.1 t3.2.1 t3.2.2.1 t3.2.2.2.1 t3.2.2.2.2 (decide (t3.1 > x6))) else (spec_LogOf.p32 k x1 x2_0 x2_1 x2_2 x2_3 x6 x7 x8 t3.1 t3.2.1 t3.2.2.1 t3.2.2.2.1 t3.2.2.2.2 false)))) else (some (x7, true)))
def spec_LogOf.p32 : Nat → ByteArray → Int → Int → Int → List ByteArray → Int → List (Int × Int × Int × ByteArray) → Int → Int → Int → Int → ByteArray → Bool → Bool → Option (List (Int × Int × Int × ByteArray) × Bool)
 | 0, _, _, _, _, _, _, _, _, _, _, _, _, _, _ => none
 | k + 1, x1, x2_0, x2_1, x2_2, x2_3, x6, x7, x8, x9_0, x9_1, x9_2, x9_3, x10, x37 => (if x37 = true then (some (([] : List (Int × Int × Int × ByteArray)), false)) else (if x10 = true then (spec_LogOf.p40 k x1 x2_0 x2_1 x2_2 x2_3 x6 x7 x8 x9_0 x9_1 x9_2 x9_3 (!decide (x9_0 = x6))) else (spec_LogOf.p40 k x1 x2_0 x2_1 x2_2 x2_3 x6 x7 x8 x9_0 x9_1 x9_2 x9_3 true)))
def spec_LogOf.p40 : Nat → ByteArray → Int → Int → Int → List ByteArray → Int → List (Int × Int × Int × ByteArray) → Int → Int → Int → Int → ByteArray → Bool → Option (List (Int × Int × Int × ByteArray) × Bool)
 | 0, _, _, _, _, _, _, _, _, _, _, _, _, _ => none
 | k + 1, x1, x2_0, x2_1, x2_2, x2_3, x6, x7, x8, x9_0, x9_1, x9_2, x9_3, x45 => (if x45 = true then (spec_LogOf.p18 k x1 x2_0 x2_1 x2_2 x2_3 x6 x7 (wrap64 (x8 + 1))) else (if x8 = (x7.length : Int) then (if x9_1 = x8 then ((spec_l5Half.f x2_0 x2_1 x2_2 x2_3 x9_2).bind fun t4 => (if t4 = true then ((spec_l5Place.f k x7 x9_2).bind fun t5 => (spec_LogOf.p46 k x1 x2_0 x2_1 x2_2 x2_3 x6 x7 x8 x9_0 x9_1 x9_2 x9_3 (decide (t5 ≥ 0)))) else (spec_LogOf.p46 k x1 x2_0 x2_1 x2_2 x2_3 x6 x7 x8 x9_0 x9_1 x9_2 x9_3 true))) else (spec_LogOf.p46 k x1 x2_0 x2_1 x2_2 x2_3 x6 x7 x8 x9_0 x9_1 x9_2 x9_3 true)) else (spec_LogOf.p46 k x1 x2_0 x2_1 x2_2 x2_3 x6 x7 x8 x9_0 x9_1 x9_2 x9_3 true)))
def spec_LogOf.p46 : Nat → ByteArray → Int → Int → Int → List ByteArray → Int → List (Int × Int × Int × ByteArray) → Int → Int → Int → Int → ByteArray → Bool → Option (List (Int × Int × Int × ByteArray) × Bool)
 | 0, _, _, _, _, _, _, _, _, _, _, _, _, _ => none
 | k + 1, x1, x2_0, x2_1, x2_2, x2_3, x6, x7, x8, x9_0, x9_1, x9_2, x9_3, x69 => (if x69 = true then (some (([] : List (Int × Int × Int × ByteArray)), false)) else (if x7.length + 1 ≤ 3518437208883 then (spec_LogOf.p18 k x1 x2_0 x2_1 x2_2 x2_3 x6 (x7 ++ ([(x9_0, (x9_1, (x9_2, x9_3)))] : List (Int × Int × Int × ByteArray))) (wrap64 (x8 + 1))) else none))
end
def spec_LogOf.f (k : Nat) (a0_0 : Int) (a0_1 : Int) (a0_2 : Int) (a0_3 : List ByteArray) (a1 : ByteArray) : Option (List (Int × Int × Int × ByteArray) × Bool) := ((spec_EpochOf.f k a0_0 a0_1 a0_2 a0_3 a1).bind fun t1 => (if t1 < 0 then (some (([] : List (Int × Int × Int × ByteArray)), false)) else (spec_LogOf.p18 k a1 a0_0 a0_1 a0_2 a0_3 t1 ([] : List (Int × Int × Int × ByteArray)) 0)))
def spec_l5Bad.f (k : Nat) (a0_0 : Int) (a0_1 : Int) (a0_2 : Int) (a0_3 : List ByteArray) (a1_0 : ByteArray) (a1_1 : List (Int × ByteArray × ByteArray)) : Option (Bool) := ((spec_Seen.f k a1_0 a1_1).bind fun t1 => ((spec_LogOf.f k a0_0 a0_1 a0_2 a0_3 t1).bind fun t2 => (some (!t2.2))))
def spec_l2Copy.f (a0_0 : ByteArray) (a0_1 : List (Int × ByteArray × ByteArray)) : Option (ByteArray × List (Int × ByteArray × ByteArray)) := (if 0 + a0_1.length ≤ 3518437208883 then (some (a0_0, (([] : List (Int × ByteArray × ByteArray)) ++ a0_1))) else none)
def spec_l5W_on.f (a0_0 : ByteArray) (a0_1 : List (Int × ByteArray × ByteArray)) (a0_2 : Int) (a0_3 : Int) (a0_4 : Bool) : Option (ByteArray × List (Int × ByteArray × ByteArray) × Int × Int × Bool × Bool) := (if a0_4 = true then (some (a0_0, a0_1, a0_2, a0_3, true, false)) else (if a0_2 = 0 then (some (a0_0, a0_1, a0_2, a0_3, true, false)) else (if a0_2 > 0 then (some (a0_0, a0_1, (wrap64 (a0_2 - 1)), (wrap64 (a0_3 + 1)), a0_4, true)) else (some (a0_0, a0_1, a0_2, (wrap64 (a0_3 + 1)), a0_4, true)))))
mutual
def spec_l2Flush.p8 : Nat → Int → ByteArray → ByteArray → List (Int × ByteArray × ByteArray) → Int → Option (ByteArray × List (Int × ByteArray × ByteArray))
 | 0, _, _, _, _, _ => none
 | k + 1, x1, x4_0, x5_0, x5_1, x6 => (if x6 < (x5_1.length : Int) then (if 0 ≤ x6 then (if x6 < (x5_1.length : Int) then (if (rdOf (0, (ByteArray.empty, ByteArray.empty)) x5_1 x6).1 = x1 then (if 0 ≤ x6 then (if x6 < (x5_1.length : Int) then (if 0 ≤ x6 then (if x6 < (x5_1.length : Int) then (spec_l2Flush.p22 k x1 x4_0 x5_0 (x5_1.set x6.toNat ((rdOf (0, (ByteArray.empty, ByteArray.empty)) x5_1 x6).1, ((rdOf (0, (ByteArray.empty, ByteArray.empty)) x5_1 x6).2.1, (rdOf (0, (ByteArray.empty, ByteArray.empty)) x5_1 x6).2.1))) x6) else none) else none) else none) else none) else (spec_l2Flush.p22 k x1 x4_0 x5_0 x5_1 x6)) else none) else none) else (some (x5_0, x5_1)))
def spec_l2Flush.p22 : Nat → Int → ByteArray → ByteArray → List (Int × ByteArray × ByteArray) → Int → Option (ByteArray × List (Int × ByteArray × ByteArray))
 | 0, _, _, _, _, _ => none
 | k + 1, x1, x4_0, x5_0, x5_1, x6 => (spec_l2Flush.p8 k x1 x4_0 x5_0 x5_1 (wrap64 (x6 + 1)))
end
def spec_l2Flush.f (k : Nat) (a0_0 : ByteArray) (a0_1 : List (Int × ByteArray × ByteArray)) (a1 : Int) : Option (ByteArray × List (Int × ByteArray × ByteArray)) := ((spec_l2Copy.f a0_0 a0_1).bind fun t1 => (spec_l2Flush.p8 k a1 (⟨#[]⟩ : ByteArray) t1.1 t1.2 0))
def spec_l5W_flush.f (k : Nat) (a0_0 : ByteArray) (a0_1 : List (Int × ByteArray × ByteArray)) (a0_2 : Int) (a0_3 : Int) (a0_4 : Bool) (a1 : Int) : Option (ByteArray × List (Int × ByteArray × ByteArray) × Int × Int × Bool) := ((spec_l5W_on.f a0_0 a0_1 a0_2 a0_3 a0_4).bind fun t1 => (if t1.2.2.2.2.2 = true then ((spec_l2Flush.f k t1.1 t1.2.1 a1).bind fun t2 => (some (t2.1, t2.2, t1.2.2.1, t1.2.2.2.1, t1.2.2.2.2.1))) else (some (t1.1, t1.2.1, t1.2.2.1, t1.2.2.2.1, t1.2.2.2.2.1))))
def spec_l2Fence.p10 : Nat → ByteArray → List (Int × ByteArray × ByteArray) → ByteArray → List Int → ByteArray → List (Int × ByteArray × ByteArray) → Int → Option (ByteArray × List (Int × ByteArray × ByteArray))
 | 0, _, _, _, _, _, _, _ => none
 | k + 1, x1_0, x1_1, x2_0, x3, x4_0, x4_1, x5 => (if x5 < (x1_1.length : Int) then (if 0 ≤ x5 then (if x5 < (x1_1.length : Int) then (if 0 ≤ (wrap64 (64 * (rdOf (0, (ByteArray.empty, ByteArray.empty)) x1_1 x5).1)) then (if (wrap64 (64 * (rdOf (0, (ByteArray.empty, ByteArray.empty)) x1_1 x5).1)) ≤ (x3.length : Int) then (if (rdOf (0, (ByteArray.empty, ByteArray.empty)) x1_1 x5).2.2.toList = (rdOf (0, (ByteArray.empty, ByteArray.empty)) x1_1 x5).2.1.toList then (spec_l2Fence.p10 k x1_0 x1_1 x2_0 (cpy x3 (wrap64 (64 * (rdOf (0, (ByteArray.empty, ByteArray.empty)) x1_1 x5).1)).toNat (rdOf (0, (ByteArray.empty, ByteArray.empty)) x1_1 x5).2.2) x4_0 x4_1 (wrap64 (x5 + 1))) else (if x4_1.length + 1 ≤ 3518437208883 then (spec_l2Fence.p10 k x1_0 x1_1 x2_0 (cpy x3 (wrap64 (64 * (rdOf (0, (ByteArray.empty, ByteArray.empty)) x1_1 x5).1)).toNat (rdOf (0, (ByteArray.empty, ByteArray.empty)) x1_1 x5).2.2) x4_0 (x4_1 ++ ([((rdOf (0, (ByteArray.empty, ByteArray.empty)) x1_1 x5).1, ((rdOf (0, (ByteArray.empty, ByteArray.empty)) x1_1 x5).2.1, (⟨#[]⟩ : ByteArray)))] : List (Int × ByteArray × ByteArray))) (wrap64 (x5 + 1))) else none)) else none) else none) else none) else none) else (some ((strOf x3), x4_1)))
def spec_l2Fence.f (k : Nat) (a0_0 : ByteArray) (a0_1 : List (Int × ByteArray × ByteArray)) : Option (ByteArray × List (Int × ByteArray × ByteArray)) := (spec_l2Fence.p10 k a0_0 a0_1 (⟨#[]⟩ : ByteArray) (numsOf a0_0) (⟨#[]⟩ : ByteArray) ([] : List (Int × ByteArray × ByteArray)) 0)
def spec_l5W_fence.f (k : Nat) (a0_0 : ByteArray) (a0_1 : List (Int × ByteArray × ByteArray)) (a0_2 : Int) (a0_3 : Int) (a0_4 : Bool) : Option (ByteArray × List (Int × ByteArray × ByteArray) × Int × Int × Bool) := ((spec_l5W_on.f a0_0 a0_1 a0_2 a0_3 a0_4).bind fun t1 => (if t1.2.2.2.2.2 = true then ((spec_l2Fence.f k t1.1 t1.2.1).bind fun t2 => (some (t2.1, t2.2, t1.2.2.1, t1.2.2.2.1, t1.2.2.2.2.1))) else (some (t1.1, t1.2.1, t1.2.2.1, t1.2.2.2.1, t1.2.2.2.2.1))))
mutual
def spec_l2Store.p12 : Nat → Int → ByteArray → ByteArray → List (Int × ByteArray × ByteArray) → ByteArray → Int → ByteArray → List (Int × ByteArray × ByteArray) → Bool → Int → Option (ByteArray × List (Int × ByteArray × ByteArray))
 | 0, _, _, _, _, _, _, _, _, _, _ => none
 | k + 1, x1, x2, x3_0, x3_1, x6_0, x7, x8_0, x8_1, x9, x10 => (if x10 < (x3_1.length : Int) then (if 0 ≤ x10 then (if x10 < (x3_1.length : Int) then (if x9 = true then (spec_l2Store.p26 k x1 x2 x3_0 x3_1 x6_0 x7 x8_0 x8_1 x9 x10 (rdOf (0, (ByteArray.empty, ByteArray.empty)) x3_1 x10).1 (rdOf (0, (ByteArray.empty, ByteArray.empty)) x3_1 x10).2.1 (rdOf (0, (ByteArray.empty, ByteArray.empty)) x3_1 x10).2.2 false) else (spec_l2Store.p26 k x1 x2 x3_0 x3_1 x6_0 x7 x8_0 x8_1 x9 x10 (rdOf (0, (ByteArray.empty, ByteArray.empty)) x3_1 x10).1 (rdOf (0, (ByteArray.empty, ByteArray.empty)) x3_1 x10).2.1 (rdOf (0, (ByteArray.empty, ByteArray.empty)) x3_1 x10).2.2 (decide ((rdOf (0, (ByteArray.empty, ByteArray.empty)) x3_1 x10).1 > x7)))) else none) else none) else (if x9 = true then (some (x8_0, x8_1)) else (if 0 ≤ (wrap64 ((wrap64 (64 * x7)) + 64)) then (if (wrap64 ((wrap64 (64 * x7)) + 64)) ≤ (x3_0.size : Int) then (if 0 ≤ (wrap64 (64 * x7)) then (if (wrap64 (64 * x7)) ≤ (wrap64 ((wrap64 (64 * x7)) + 64)) then ((spec_l2With.f (x3_0.extract (wrap64 (64 * x7)).toNat (wrap64 ((wrap64 (64 * x7)) + 64)).toNat) (Int.tmod x1 64) x2).bind fun t1 => (if x8_1.length + 1 ≤ 3518437208883 then (some (x8_0, (x8_1 ++ ([(x7, (t1, (⟨#[]⟩ : ByteArray)))] : List (Int × ByteArray × ByteArray))))) else none)) else none) else none) else none) else none)))
def spec_l2Store.p26 : Nat → Int → ByteArray → ByteArray → List (Int × ByteArray × ByteArray) → ByteArray → Int → ByteArray → List (Int × ByteArray × ByteArray) → Bool → Int → Int → ByteArray → ByteArray → Bool → Option (ByteArray × List (Int × ByteArray × ByteArray))
 | 0, _, _, _, _, _, _, _, _, _, _, _, _, _, _ => none
 | k + 1, x1, x2, x3_0, x3_1, x6_0, x7, x8_0, x8_1, x9, x10, x11_0, x11_1, x11_2, x36 => (if x36 = true then (if 0 ≤ (wrap64 ((wrap64 (64 * x7)) + 64)) then (if (wrap64 ((wrap64 (64 * x7)) + 64)) ≤ (x3_0.size : Int) then (if 0 ≤ (wrap64 (64 * x7)) then (if (wrap64 (64 * x7)) ≤ (wrap64 ((wrap64 (64 * x7)) + 64)) then ((spec_l2With.f (x3_0.extract (wrap64 (64 * x7)).toNat (wrap64 ((wrap64 (64 * x7)) + 64)).toNat) (Int.tmod x1 64) x2).bind fun t2 => (if x8_1.length + 1 ≤ 3518437208883 then (spec_l2Store.p31 k x1 x2 x3_0 x3_1 x6_0 x7 x8_0 (x8_1 ++ ([(x7, (t2, (⟨#[]⟩ : ByteArray)))] : List (Int × ByteArray × ByteArray))) true x10 x11_0 x11_1 x11_2) else none)) else none) else none) else none) else none) else (spec_l2Store.p31 k x1 x2 x3_0 x3_1 x6_0 x7 x8_0 x8_1 x9 x10 x11_0 x11_1 x11_2))
def spec_l2Store.p31 : Nat → Int → ByteArray → ByteArray → List (Int × ByteArray × ByteArray) → ByteArray → Int → ByteArray → List (Int × ByteArray × ByteArray) → Bool → Int → Int → ByteArray → ByteArray → Option (ByteArray × List (Int × ByteArray × ByteArray))
 | 0, _, _, _, _, _, _, _, _, _, _, _, _, _ => none
 | k + 1, x1, x2, x3_0, x3_1, x6_0, x7, x8_0, x8_1, x9, x10, x11_0, x11_1, x11_2 => (if x11_0 = x7 then ((spec_l2With.f x11_1 (Int.tmod x1 64) x2).bind fun t3 => (spec_l2Store.p39 k x1 x2 x3_0 x3_1 x6_0 x7 x8_0 x8_1 true x10 x11_0 t3 x11_2)) else (spec_l2Store.p39 k x1 x2 x3_0 x3_1 x6_0 x7 x8_0 x8_1 x9 x10 x11_0 x11_1 x11_2))
def spec_l2Store.p39 : Nat → Int → ByteArray → ByteArray → List (Int × ByteArray × ByteArray) → ByteArray → Int → ByteArray → List (Int × ByteArray × ByteArray) → Bool → Int → Int → ByteArray → ByteArray → Option (ByteArray × List (Int × ByteArray × ByteArray))
 | 0, _, _, _, _, _, _, _, _, _, _, _, _, _ => none
 | k + 1, x1, x2, x3_0, x3_1, x6_0, x7, x8_0, x8_1, x9, x10, x11_0, x11_1, x11_2 => (if x8_1.length + 1 ≤ 3518437208883 then (spec_l2Store.p12 k x1 x2 x3_0 x3_1 x6_0 x7 x8_0 (x8_1 ++ ([(x11_0, (x11_1, x11_2))] : List (Int × ByteArray × ByteArray))) x9 (wrap64 (x10 + 1))) else none)
end
def spec_l2Store.f (k : Nat) (a0_0 : ByteArray) (a0_1 : List (Int × ByteArray × ByteArray)) (a1 : Int) (a2 : ByteArray) : Option (ByteArray × List (Int × ByteArray × ByteArray)) := (spec_l2Store.p12 k a1 a2 a0_0 a0_1 (⟨#[]⟩ : ByteArray) (wrap64 (Int.tdiv a1 64)) a0_0 ([] : List (Int × ByteArray × ByteArray)) false 0)
def spec_l5W_store.f (k : Nat) (a0_0 : ByteArray) (a0_1 : List (Int × ByteArray × ByteArray)) (a0_2 : Int) (a0_3 : Int) (a0_4 : Bool) (a1 : Int) (a2 : ByteArray) : Option (ByteArray × List (Int × ByteArray × ByteArray) × Int × Int × Bool) := ((spec_l5W_on.f a0_0 a0_1 a0_2 a0_3 a0_4).bind fun t1 => (if t1.2.2.2.2.2 = true then ((spec_l2Store.f k t1.1 t1.2.1 a1 a2).bind fun t2 => (some (t2.1, t2.2, t1.2.2.1, t1.2.2.2.1, t1.2.2.2.2.1))) else (some (t1.1, t1.2.1, t1.2.2.1, t1.2.2.2.1, t1.2.2.2.2.1))))
def spec_l5W_next.f (k : Nat) (a0_0 : ByteArray) (a0_1 : List (Int × ByteArray × ByteArray)) (a0_2 : Int) (a0_3 : Int) (a0_4 : Bool) (a1_0 : Int) (a1_1 : Int) (a1_2 : Int) (a1_3 : List ByteArray) (a2 : Int) : Option (ByteArray × List (Int × ByteArray × ByteArray) × Int × Int × Bool) := ((spec_EpochLine.f k (wrap64 (a2 + 1))).bind fun t1 => ((spec_l5W_store.f k a0_0 a0_1 a0_2 a0_3 a0_4 64 t1).bind fun t2 => ((spec_l5W_flush.f k t2.1 t2.2.1 t2.2.2.1 t2.2.2.2.1 t2.2.2.2.2 1).bind fun t3 => ((spec_l5W_fence.f k t3.1 t3.2.1 t3.2.2.1 t3.2.2.2.1 t3.2.2.2.2).bind fun t4 => (some (t4.1, t4.2.1, t4.2.2.1, t4.2.2.2.1, t4.2.2.2.2))))))
def spec_l5W_end.p18 : Nat → ByteArray → List (Int × ByteArray × ByteArray) → Int → Int → Bool → Int → Int → Int → List ByteArray → ByteArray → List (Int × ByteArray × ByteArray) → Int → Option (ByteArray × List (Int × ByteArray × ByteArray) × Int × Int × Bool)
 | 0, _, _, _, _, _, _, _, _, _, _, _, _ => none
 | k + 1, h0_0, h0_1, h0_2, h0_3, h0_4, x3_0, x3_1, x3_2, x3_3, x4, x7, x8 => (if x8 < (x7.length : Int) then (if 0 ≤ x8 then (if x8 < (x7.length : Int) then ((spec_l5W_flush.f k h0_0 h0_1 h0_2 h0_3 h0_4 (rdOf (0, (ByteArray.empty, ByteArray.empty)) x7 x8).1).bind fun t4 => (spec_l5W_end.p18 k t4.1 t4.2.1 t4.2.2.1 t4.2.2.2.1 t4.2.2.2.2 x3_0 x3_1 x3_2 x3_3 x4 x7 (wrap64 (x8 + 1)))) else none) else none) else ((spec_l5W_fence.f k h0_0 h0_1 h0_2 h0_3 h0_4).bind fun t5 => ((spec_EpochOf.f k x3_0 x3_1 x3_2 x3_3 x4).bind fun t6 => ((spec_l5W_next.f k t5.1 t5.2.1 t5.2.2.1 t5.2.2.2.1 t5.2.2.2.2 x3_0 x3_1 x3_2 x3_3 t6).bind fun t7 => (some (t7.1, t7.2.1, t7.2.2.1, t7.2.2.2.1, t7.2.2.2.2))))))
def spec_l5W_end.f (k : Nat) (a0_0 : ByteArray) (a0_1 : List (Int × ByteArray × ByteArray)) (a0_2 : Int) (a0_3 : Int) (a0_4 : Bool) (a1_0 : Int) (a1_1 : Int) (a1_2 : Int) (a1_3 : List ByteArray) : Option (ByteArray × List (Int × ByteArray × ByteArray) × Int × Int × Bool) := ((spec_l2Seen.f k a0_0 a0_1).bind fun t1 => ((spec_LogOf.f k a1_0 a1_1 a1_2 a1_3 t1).bind fun t2 => (if (t2.1.length : Int) = 0 then (some (a0_0, a0_1, a0_2, a0_3, a0_4)) else ((spec_l2Copy.f a0_0 a0_1).bind fun t3 => (spec_l5W_end.p18 k a0_0 a0_1 a0_2 a0_3 a0_4 a1_0 a1_1 a1_2 a1_3 t1 t3.2 0)))))
def spec_Ended.f (k : Nat) (a0_0 : Int) (a0_1 : Int) (a0_2 : Int) (a0_3 : List ByteArray) (a1_0 : ByteArray) (a1_1 : List (Int × ByteArray × ByteArray)) : Option (ByteArray × List (Int × ByteArray × ByteArray) × Int) := ((spec_l5Bad.f k a0_0 a0_1 a0_2 a0_3 a1_0 a1_1).bind fun t1 => (if t1 = true then (some ((⟨#[]⟩ : ByteArray), ([] : List (Int × ByteArray × ByteArray)), 1)) else ((spec_l2Copy.f a1_0 a1_1).bind fun t2 => ((spec_l5W_end.f k t2.1 t2.2 (-1) 0 false a0_0 a0_1 a0_2 a0_3).bind fun t3 => (some (t3.1, t3.2.1, 0))))))
mutual
def spec_l5W_back.p16 : Nat → ByteArray → List (Int × ByteArray × ByteArray) → Int → Int → Bool → Int → Int → Int → List ByteArray → ByteArray → List (Int × Int × Int × ByteArray) → Int → Option (ByteArray × List (Int × ByteArray × ByteArray) × Int × Int × Bool)
 | 0, _, _, _, _, _, _, _, _, _, _, _, _ => none
 | k + 1, h0_0, h0_1, h0_2, h0_3, h0_4, x3_0, x3_1, x3_2, x3_3, x4, x5, x7 => (if x7 ≥ 0 then (if 0 ≤ x7 then (if x7 < (x5.length : Int) then (if 0 ≤ x7 then (if x7 < (x5.length : Int) then ((spec_l5W_store.f k h0_0 h0_1 h0_2 h0_3 h0_4 (wrap64 (32 * (rdOf (0, (0, (0, ByteArray.empty))) x5 x7).2.2.1)) (rdOf (0, (0, (0, ByteArray.empty))) x5 x7).2.2.2).bind fun t3 => (spec_l5W_back.p16 k t3.1 t3.2.1 t3.2.2.1 t3.2.2.2.1 t3.2.2.2.2 x3_0 x3_1 x3_2 x3_3 x4 x5 (wrap64 (x7 - 1)))) else none) else none) else none) else none) else (spec_l5W_back.p31 k h0_0 h0_1 h0_2 h0_3 h0_4 x3_0 x3_1 x3_2 x3_3 x4 x5 0))
def spec_l5W_back.p31 : Nat → ByteArray → List (Int × ByteArray × ByteArray) → Int → Int → Bool → Int → Int → Int → List ByteArray → ByteArray → List (Int × Int × Int × ByteArray) → Int → Option (ByteArray × List (Int × ByteArray × ByteArray) × Int × Int × Bool)
 | 0, _, _, _, _, _, _, _, _, _, _, _, _ => none
 | k + 1, h0_0, h0_1, h0_2, h0_3, h0_4, x3_0, x3_1, x3_2, x3_3, x4, x5, x8 => (if x8 < x3_0 then ((spec_l5Place.f k x5 (wrap64 (2 * x8))).bind fun t4 => (if t4 ≥ 0 then ((spec_l5W_flush.f k h0_0 h0_1 h0_2 h0_3 h0_4 x8).bind fun t5 => (spec_l5W_back.p31 k t5.1 t5.2.1 t5.2.2.1 t5.2.2.2.1 t5.2.2.2.2 x3_0 x3_1 x3_2 x3_3 x4 x5 (wrap64 (x8 + 1)))) else ((spec_l5Place.f k x5 (wrap64 ((wrap64 (2 * x8)) + 1))).bind fun t6 => (if t6 ≥ 0 then ((spec_l5W_flush.f k h0_0 h0_1 h0_2 h0_3 h0_4 x8).bind fun t7 => (spec_l5W_back.p31 k t7.1 t7.2.1 t7.2.2.1 t7.2.2.2.1 t7.2.2.2.2 x3_0 x3_1 x3_2 x3_3 x4 x5 (wrap64 (x8 + 1)))) else (spec_l5W_back.p31 k h0_0 h0_1 h0_2 h0_3 h0_4 x3_0 x3_1 x3_2 x3_3 x4 x5 (wrap64 (x8 + 1))))))) else ((spec_l5W_fence.f k h0_0 h0_1 h0_2 h0_3 h0_4).bind fun t8 => ((spec_EpochOf.f k x3_0 x3_1 x3_2 x3_3 x4).bind fun t9 => ((spec_l5W_next.f k t8.1 t8.2.1 t8.2.2.1 t8.2.2.2.1 t8.2.2.2.2 x3_0 x3_1 x3_2 x3_3 t9).bind fun t10 => (some (t10.1, t10.2.1, t10.2.2.1, t10.2.2.2.1, t10.2.2.2.2))))))
end
def spec_l5W_back.f (k : Nat) (a0_0 : ByteArray) (a0_1 : List (Int × ByteArray × ByteArray)) (a0_2 : Int) (a0_3 : Int) (a0_4 : Bool) (a1_0 : Int) (a1_1 : Int) (a1_2 : Int) (a1_3 : List ByteArray) : Option (ByteArray × List (Int × ByteArray × ByteArray) × Int × Int × Bool) := ((spec_l2Seen.f k a0_0 a0_1).bind fun t1 => ((spec_LogOf.f k a1_0 a1_1 a1_2 a1_3 t1).bind fun t2 => (if (t2.1.length : Int) = 0 then (some (a0_0, a0_1, a0_2, a0_3, a0_4)) else (spec_l5W_back.p16 k a0_0 a0_1 a0_2 a0_3 a0_4 a1_0 a1_1 a1_2 a1_3 t1 t2.1 (wrap64 ((t2.1.length : Int) - 1))))))
def spec_RolledBack.f (k : Nat) (a0_0 : Int) (a0_1 : Int) (a0_2 : Int) (a0_3 : List ByteArray) (a1_0 : ByteArray) (a1_1 : List (Int × ByteArray × ByteArray)) : Option (ByteArray × List (Int × ByteArray × ByteArray) × Int) := ((spec_l5Bad.f k a0_0 a0_1 a0_2 a0_3 a1_0 a1_1).bind fun t1 => (if t1 = true then (some ((⟨#[]⟩ : ByteArray), ([] : List (Int × ByteArray × ByteArray)), 1)) else ((spec_l2Copy.f a1_0 a1_1).bind fun t2 => ((spec_l5W_back.f k t2.1 t2.2 (-1) 0 false a0_0 a0_1 a0_2 a0_3).bind fun t3 => (some (t3.1, t3.2.1, 0))))))
def spec_l2Evict.p8 : Nat → Int → ByteArray → List (Int × ByteArray × ByteArray) → ByteArray → ByteArray → List (Int × ByteArray × ByteArray) → Int → Option (ByteArray × List (Int × ByteArray × ByteArray))
 | 0, _, _, _, _, _, _, _ => none
 | k + 1, x1, x2_0, x2_1, x4_0, x5_0, x5_1, x6 => (if x6 < (x2_1.length : Int) then (if 0 ≤ x6 then (if x6 < (x2_1.length : Int) then (if (rdOf (0, (ByteArray.empty, ByteArray.empty)) x2_1 x6).1 = x1 then ((spec_l2With.f x5_0 (wrap64 (64 * x1)) (rdOf (0, (ByteArray.empty, ByteArray.empty)) x2_1 x6).2.1).bind fun t1 => (spec_l2Evict.p8 k x1 x2_0 x2_1 x4_0 t1 x5_1 (wrap64 (x6 + 1)))) else (if x5_1.length + 1 ≤ 3518437208883 then (spec_l2Evict.p8 k x1 x2_0 x2_1 x4_0 x5_0 (x5_1 ++ ([(rdOf (0, (ByteArray.empty, ByteArray.empty)) x2_1 x6)] : List (Int × ByteArray × ByteArray))) (wrap64 (x6 + 1))) else none)) else none) else none) else (some (x5_0, x5_1)))
def spec_l2Evict.f (k : Nat) (a0_0 : ByteArray) (a0_1 : List (Int × ByteArray × ByteArray)) (a1 : Int) : Option (ByteArray × List (Int × ByteArray × ByteArray)) := (spec_l2Evict.p8 k a1 a0_0 a0_1 (⟨#[]⟩ : ByteArray) a0_0 ([] : List (Int × ByteArray × ByteArray)) 0)
def spec_l1Rd_word.p8 : Nat → List Int → Int → Int → Int → Option (List Int × Int × Int)
 | 0, _, _, _, _ => none
 | k + 1, h0_0, h0_1, x3, x4 => (if x4 < 8 then ((spec_l1Rd_next.f h0_0 h0_1).bind fun t1 => (spec_l1Rd_word.p8 k t1.1 t1.2.1 (orA .u64 (shlA .u64 x3 8) (IntKind.wrap .u64 t1.2.2)) (wrap64 (x4 + 1)))) else (some (h0_0, h0_1, x3)))
def spec_l1Rd_word.f (k : Nat) (a0_0 : List Int) (a0_1 : Int) : Option (List Int × Int × Int) := (spec_l1Rd_word.p8 k a0_0 a0_1 0 0)
def spec_l1Rd_near.f (k : Nat) (a0_0 : List Int) (a0_1 : Int) (a1 : Int) (a2 : Int) : Option (List Int × Int × Int) := ((spec_l1Rd_below.f a0_0 a0_1 8).bind fun t1 => (if t1.2.2 = 0 then (some (t1.1, t1.2.1, a1)) else (if t1.2.2 = 1 then (some (t1.1, t1.2.1, a2)) else (if a2 < a1 then (some (t1.1, t1.2.1, a1)) else ((spec_l1Rd_word.f k t1.1 t1.2.1).bind fun t2 => (if (IntKind.wrap .u64 (wrap64 ((wrap64 (a2 - a1)) + 1))) = 0 then none else (some (t2.1, t2.2.1, (wrap64 (a1 + (wrap64 (Int.tmod (shrA .u64 t2.2.2 1) (IntKind.wrap .u64 (wrap64 ((wrap64 (a2 - a1)) + 1)))))))))))))))
def spec_l1Rd_off.f (k : Nat) (a0_0 : List Int) (a0_1 : Int) (a1 : Int) (a2 : Int) : Option (List Int × Int × Int) := ((spec_l1Rd_once.f a0_0 a0_1 24).bind fun t1 => (if t1.2.2 = true then ((spec_l1Rd_below.f t1.1 t1.2.1 4).bind fun t2 => (if 0 ≤ t2.2.2 then (if t2.2.2 < 4 then (some (t2.1, t2.2.1, (rd ([(wrap64 (a1 - 1)), (wrap64 (a2 + 1)), (-9223372036854775808), 9223372036854775807] : List Int) t2.2.2))) else none) else none)) else ((spec_l1Rd_near.f k t1.1 t1.2.1 a1 a2).bind fun t3 => (some (t3.1, t3.2.1, t3.2.2)))))
def spec_l1Rd_keep.p8 : Nat → List Int → Int → Int → List Int → Int → Option (List Int × Int × List Int)
 | 0, _, _, _, _, _ => none
 | k + 1, h0_0, h0_1, x1, x5, x6 => (if x6 < x1 then ((spec_l1Rd_below.f h0_0 h0_1 3).bind fun t1 => (if x5.length + 1 ≤ 17592186044416 then (spec_l1Rd_keep.p8 k t1.1 t1.2.1 x1 (x5 ++ ([t1.2.2] : List Int)) (wrap64 (x6 + 1))) else none)) else ((spec_l1Rd_below.f h0_0 h0_1 12).bind fun t2 => (if t2.2.2 = 0 then ((spec_l1Rd_below.f t2.1 t2.2.1 3).bind fun t3 => (if x5.length + 1 ≤ 17592186044416 then (some (t3.1, t3.2.1, (x5 ++ ([t3.2.2] : List Int)))) else none)) else (if t2.2.2 = 1 then (if 0 ≤ (wrap64 (Int.tdiv (x5.length : Int) 2)) then (if (wrap64 (Int.tdiv (x5.length : Int) 2)) ≤ (x5.length : Int) then (some (t2.1, t2.2.1, ((x5.take (wrap64 (Int.tdiv (x5.length : Int) 2)).toNat).drop 0))) else none) else none) else (if t2.2.2 = 2 then (if (x5.length : Int) > 0 then ((spec_l1Rd_below.f t2.1 t2.2.1 (x5.length : Int)).bind fun t4 => ((spec_l1Rd_off.f k t4.1 t4.2.1 0 2).bind fun t5 => (if 0 ≤ t4.2.2 then (if t4.2.2 < (x5.length : Int) then (some (t5.1, t5.2.1, (x5.set t4.2.2.toNat t5.2.2))) else none) else none))) else (some (t2.1, t2.2.1, x5))) else (some (t2.1, t2.2.1, x5)))))))
def spec_l1Rd_keep.f (k : Nat) (a0_0 : List Int) (a0_1 : Int) (a1 : Int) : Option (List Int × Int × List Int) := (spec_l1Rd_keep.p8 k a0_0 a0_1 a1 ([] : List Int) 0)
mutual
def spec_l2Crash.p8 : Nat → List Int → ByteArray → List (Int × ByteArray × ByteArray) → ByteArray → List Int → Int → Option (ByteArray)
 | 0, _, _, _, _, _, _ => none
 | k + 1, x1, x2_0, x2_1, x4_0, x5, x6 => (if x6 < (x2_1.length : Int) then (spec_l2Crash.p12 k x1 x2_0 x2_1 x4_0 x5 x6 (decide (x6 < (x1.length : Int)))) else (spec_l2Crash.p12 k x1 x2_0 x2_1 x4_0 x5 x6 false))
def spec_l2Crash.p12 : Nat → List Int → ByteArray → List (Int × ByteArray × ByteArray) → ByteArray → List Int → Int → Bool → Option (ByteArray)
 | 0, _, _, _, _, _, _, _ => none
 | k + 1, x1, x2_0, x2_1, x4_0, x5, x6, x21 => (if x21 = true then (if 0 ≤ x6 then (if x6 < (x2_1.length : Int) then (if 0 ≤ x6 then (if x6 < (x1.length : Int) then (if (rd x1 x6) = 1 then (if 0 ≤ (wrap64 (64 * (rdOf (0, (ByteArray.empty, ByteArray.empty)) x2_1 x6).1)) then (if (wrap64 (64 * (rdOf (0, (ByteArray.empty, ByteArray.empty)) x2_1 x6).1)) ≤ (x5.length : Int) then (spec_l2Crash.p8 k x1 x2_0 x2_1 x4_0 (cpy x5 (wrap64 (64 * (rdOf (0, (ByteArray.empty, ByteArray.empty)) x2_1 x6).1)).toNat (rdOf (0, (ByteArray.empty, ByteArray.empty)) x2_1 x6).2.2) (wrap64 (x6 + 1))) else none) else none) else (if (rd x1 x6) = 2 then (if 0 ≤ (wrap64 (64 * (rdOf (0, (ByteArray.empty, ByteArray.empty)) x2_1 x6).1)) then (if (wrap64 (64 * (rdOf (0, (ByteArray.empty, ByteArray.empty)) x2_1 x6).1)) ≤ (x5.length : Int) then (spec_l2Crash.p8 k x1 x2_0 x2_1 x4_0 (cpy x5 (wrap64 (64 * (rdOf (0, (ByteArray.empty, ByteArray.empty)) x2_1 x6).1)).toNat (rdOf (0, (ByteArray.empty, ByteArray.empty)) x2_1 x6).2.1) (wrap64 (x6 + 1))) else none) else none) else (spec_l2Crash.p8 k x1 x2_0 x2_1 x4_0 x5 (wrap64 (x6 + 1))))) else none) else none) else none) else none) else (some (strOf x5)))
end
def spec_l2Crash.f (k : Nat) (a0_0 : ByteArray) (a0_1 : List (Int × ByteArray × ByteArray)) (a1 : List Int) : Option (ByteArray) := (spec_l2Crash.p8 k a1 a0_0 a0_1 (⟨#[]⟩ : ByteArray) (numsOf a0_0) 0)
def spec_l1Rd_loggable.f (a0_0 : List Int) (a0_1 : Int) (a1_0 : Int) (a1_1 : Int) (a1_2 : Int) (a1_3 : List ByteArray) : Option (List Int × Int × Int) := ((spec_l1Rd_once.f a0_0 a0_1 3).bind fun t1 => (if t1.2.2 = true then ((spec_l1Rd_below.f t1.1 t1.2.1 64).bind fun t2 => (some (t2.1, t2.2.1, (wrap64 (128 + t2.2.2))))) else ((spec_l1Rd_below.f t1.1 t1.2.1 (wrap64 (64 * (wrap64 ((wrap64 (a1_0 - 4)) - a1_1))))).bind fun t3 => (some (t3.1, t3.2.1, (wrap64 ((wrap64 (64 * (wrap64 (4 + a1_1)))) + t3.2.2)))))))
def spec_l5W_note.f (k : Nat) (a0_0 : ByteArray) (a0_1 : List (Int × ByteArray × ByteArray)) (a0_2 : Int) (a0_3 : Int) (a0_4 : Bool) (a1_0 : Int) (a1_1 : Int) (a1_2 : Int) (a1_3 : List ByteArray) (a2 : Int) : Option (ByteArray × List (Int × ByteArray × ByteArray) × Int × Int × Bool × Int) := ((spec_l2Seen.f k a0_0 a0_1).bind fun t1 => ((spec_LogOf.f k a1_0 a1_1 a1_2 a1_3 t1).bind fun t2 => ((spec_EpochOf.f k a1_0 a1_1 a1_2 a1_3 t1).bind fun t3 => ((spec_l5Place.f k t2.1 a2).bind fun t4 => (if t4 ≥ 0 then (some (a0_0, a0_1, a0_2, a0_3, a0_4, 0)) else (if (t2.1.length : Int) = a1_1 then (some (a0_0, a0_1, a0_2, a0_3, a0_4, 3)) else (if t3 = 1000000000 then (some (a0_0, a0_1, a0_2, a0_3, a0_4, 3)) else (if 0 ≤ (wrap64 ((wrap64 (32 * a2)) + 32)) then (if (wrap64 ((wrap64 (32 * a2)) + 32)) ≤ (t1.size : Int) then (if 0 ≤ (wrap64 (32 * a2)) then (if (wrap64 (32 * a2)) ≤ (wrap64 ((wrap64 (32 * a2)) + 32)) then ((spec_RecordLine.f k t3 (t2.1.length : Int) a2 (t1.extract (wrap64 (32 * a2)).toNat (wrap64 ((wrap64 (32 * a2)) + 32)).toNat)).bind fun t5 => ((spec_l5W_store.f k a0_0 a0_1 a0_2 a0_3 a0_4 (wrap64 (64 * (wrap64 (4 + (t2.1.length : Int))))) t5).bind fun t6 => ((spec_l5W_flush.f k t6.1 t6.2.1 t6.2.2.1 t6.2.2.2.1 t6.2.2.2.2 (wrap64 (4 + (t2.1.length : Int)))).bind fun t7 => ((spec_l5W_fence.f k t7.1 t7.2.1 t7.2.2.1 t7.2.2.2.1 t7.2.2.2.2).bind fun t8 => (some (t8.1, t8.2.1, t8.2.2.1, t8.2.2.2.1, t8.2.2.2.2, 0)))))) else none) else none) else none) else none))))))))
def spec_Logged.p15 : Nat → Int → ByteArray → Int → Int → Int → List ByteArray → ByteArray → List (Int × ByteArray × ByteArray) → ByteArray → Bool → Option (ByteArray × List (Int × ByteArray × ByteArray) × Int)
 | 0, _, _, _, _, _, _, _, _, _, _ => none
 | k + 1, x2, x3, x4_0, x4_1, x4_2, x4_3, x5_0, x5_1, x8_0, x39 => (if x39 = true then (some ((⟨#[]⟩ : ByteArray), ([] : List (Int × ByteArray × ByteArray)), 2)) else ((spec_l2Copy.f x5_0 x5_1).bind fun t4 => ((spec_l5W_note.f k t4.1 t4.2 (-1) 0 false x4_0 x4_1 x4_2 x4_3 (wrap64 (Int.tdiv x2 32))).bind fun t5 => (if t5.2.2.2.2.2 = 0 then ((spec_l5W_store.f k t5.1 t5.2.1 t5.2.2.1 t5.2.2.2.1 t5.2.2.2.2.1 x2 x3).bind fun t6 => (some (t6.1, t6.2.1, 0))) else (some ((⟨#[]⟩ : ByteArray), ([] : List (Int × ByteArray × ByteArray)), t5.2.2.2.2.2))))))
def spec_Logged.f (k : Nat) (a0_0 : Int) (a0_1 : Int) (a0_2 : Int) (a0_3 : List ByteArray) (a1_0 : ByteArray) (a1_1 : List (Int × ByteArray × ByteArray)) (a2 : Int) (a3 : ByteArray) : Option (ByteArray × List (Int × ByteArray × ByteArray) × Int) := ((spec_l5Bad.f k a0_0 a0_1 a0_2 a0_3 a1_0 a1_1).bind fun t1 => (if t1 = true then (some ((⟨#[]⟩ : ByteArray), ([] : List (Int × ByteArray × ByteArray)), 1)) else (if a2 < 0 then (spec_Logged.p15 k a2 a3 a0_0 a0_1 a0_2 a0_3 a1_0 a1_1 (⟨#[]⟩ : ByteArray) true) else ((spec_l1In.f (a3.size : Int) 1 32).bind fun t2 => (if t2 = true then (if (wrap64 ((Int.tmod a2 32) + (a3.size : Int))) > 32 then (spec_Logged.p15 k a2 a3 a0_0 a0_1 a0_2 a0_3 a1_0 a1_1 (⟨#[]⟩ : ByteArray) true) else ((spec_l5Half.f a0_0 a0_1 a0_2 a0_3 (wrap64 (Int.tdiv a2 32))).bind fun t3 => (spec_Logged.p15 k a2 a3 a0_0 a0_1 a0_2 a0_3 a1_0 a1_1 (⟨#[]⟩ : ByteArray) (!t3)))) else (spec_Logged.p15 k a2 a3 a0_0 a0_1 a0_2 a0_3 a1_0 a1_1 (⟨#[]⟩ : ByteArray) true))))))
def spec_l1Rd_bytes.p8 : Nat → List Int → Int → List Int → Int → Option (List Int × Int × ByteArray)
 | 0, _, _, _, _ => none
 | k + 1, h0_0, h0_1, x5, x6 => (if x6 > 0 then ((spec_l1Rd_below.f h0_0 h0_1 256).bind fun t2 => (if x5.length + 1 ≤ 140737488355328 then (spec_l1Rd_bytes.p8 k t2.1 t2.2.1 (x5 ++ ([(t2.2.2 % 256)] : List Int)) (wrap64 (x6 - 1))) else none)) else (some (h0_0, h0_1, (strOf x5))))
def spec_l1Rd_bytes.f (k : Nat) (a0_0 : List Int) (a0_1 : Int) (a1 : Int) : Option (List Int × Int × ByteArray) := ((spec_l1Rd_below.f a0_0 a0_1 (wrap64 (a1 + 1))).bind fun t1 => (spec_l1Rd_bytes.p8 k t1.1 t1.2.1 ([] : List Int) t1.2.2))
def spec_l1Rd_hurt.f (a0_0 : List Int) (a0_1 : Int) (a1 : ByteArray) : Option (List Int × Int × ByteArray) := ((spec_l1Rd_below.f a0_0 a0_1 6).bind fun t1 => (if t1.2.2 = 1 then ((spec_l1Rd_below.f t1.1 t1.2.1 (wrap64 ((a1.size : Int) + 1))).bind fun t2 => (if 0 ≤ t2.2.2 then (if t2.2.2 ≤ (a1.size : Int) then (some (t2.1, t2.2.1, (a1.extract 0 t2.2.2.toNat))) else none) else none)) else (if t1.2.2 = 2 then (if (a1.size : Int) > 0 then ((spec_l1Rd_below.f t1.1 t1.2.1 (a1.size : Int)).bind fun t3 => (if 0 ≤ t3.2.2 then (if t3.2.2 ≤ (a1.size : Int) then ((spec_l1Rd_below.f t3.1 t3.2.1 4).bind fun t4 => (if 0 ≤ t4.2.2 then (if t4.2.2 < 4 then (if (a1.extract 0 t3.2.2.toNat).size + (rdOf ByteArray.empty ([(⟨#[0]⟩ : ByteArray), (⟨#[55]⟩ : ByteArray), (⟨#[255]⟩ : ByteArray), (⟨#[32]⟩ : ByteArray)] : List ByteArray) t4.2.2).size ≤ 9223372036854775807 then (if 0 ≤ (wrap64 (t3.2.2 + 1)) then (if (wrap64 (t3.2.2 + 1)) ≤ (a1.size : Int) then (if ((a1.extract 0 t3.2.2.toNat) ++ (rdOf ByteArray.empty ([(⟨#[0]⟩ : ByteArray), (⟨#[55]⟩ : ByteArray), (⟨#[255]⟩ : ByteArray), (⟨#[32]⟩ : ByteArray)] : List ByteArray) t4.2.2)).size + (a1.extract (wrap64 (t3.2.2 + 1)).toNat (a1.size : Int).toNat).size ≤ 9223372036854775807 then (some (t4.1, t4.2.1, (((a1.extract 0 t3.2.2.toNat) ++ (rdOf ByteArray.empty ([(⟨#[0]⟩ : ByteArray), (⟨#[55]⟩ : ByteArray), (⟨#[255]⟩ : ByteArray), (⟨#[32]⟩ : ByteArray)] : List ByteArray) t4.2.2)) ++ (a1.extract (wrap64 (t3.2.2 + 1)).toNat (a1.size : Int).toNat)))) else none) else none) else none) else none) else none) else none)) else none) else none)) else (some (t1.1, t1.2.1, a1))) else (if t1.2.2 = 3 then ((spec_l1Rd_below.f t1.1 t1.2.1 4).bind fun t5 => (if 0 ≤ t5.2.2 then (if t5.2.2 < 4 then (if a1.size + (rdOf ByteArray.empty ([(⟨#[0]⟩ : ByteArray), (⟨#[49]⟩ : ByteArray), (⟨#[10]⟩ : ByteArray), (⟨#[32]⟩ : ByteArray)] : List ByteArray) t5.2.2).size ≤ 9223372036854775807 then (some (t5.1, t5.2.1, (a1 ++ (rdOf ByteArray.empty ([(⟨#[0]⟩ : ByteArray), (⟨#[49]⟩ : ByteArray), (⟨#[10]⟩ : ByteArray), (⟨#[32]⟩ : ByteArray)] : List ByteArray) t5.2.2)))) else none) else none) else none)) else (some (t1.1, t1.2.1, a1))))))
def spec_l1Rd_logged.p14 : Nat → List Int → Int → Int → Int → Int → List ByteArray → ByteArray → ByteArray → List (Int × ByteArray × ByteArray) → Int → Option (List Int × Int × ByteArray × List (Int × ByteArray × ByteArray))
 | 0, _, _, _, _, _, _, _, _, _, _ => none
 | k + 1, h0_0, h0_1, x3_0, x3_1, x3_2, x3_3, x4_0, x5_0, x5_1, x6 => (if x6 > 0 then ((spec_l1Rd_below.f h0_0 h0_1 12).bind fun t8 => (if t8.2.2 = 0 then ((spec_Ended.f k x3_0 x3_1 x3_2 x3_3 x5_0 x5_1).bind fun t9 => (spec_l1Rd_logged.p14 k t8.1 t8.2.1 x3_0 x3_1 x3_2 x3_3 x4_0 t9.1 t9.2.1 (wrap64 (x6 - 1)))) else (if t8.2.2 = 1 then ((spec_RolledBack.f k x3_0 x3_1 x3_2 x3_3 x5_0 x5_1).bind fun t10 => (spec_l1Rd_logged.p14 k t8.1 t8.2.1 x3_0 x3_1 x3_2 x3_3 x4_0 t10.1 t10.2.1 (wrap64 (x6 - 1)))) else (if t8.2.2 = 2 then ((spec_l1Rd_below.f t8.1 t8.2.1 x3_0).bind fun t11 => ((spec_l2Evict.f k x5_0 x5_1 t11.2.2).bind fun t12 => (spec_l1Rd_logged.p14 k t11.1 t11.2.1 x3_0 x3_1 x3_2 x3_3 x4_0 t12.1 t12.2 (wrap64 (x6 - 1))))) else (if t8.2.2 = 3 then ((spec_l1Rd_keep.f k t8.1 t8.2.1 (x5_1.length : Int)).bind fun t13 => ((spec_l2Crash.f k x5_0 x5_1 t13.2.2).bind fun t14 => (spec_l1Rd_logged.p14 k t13.1 t13.2.1 x3_0 x3_1 x3_2 x3_3 x4_0 t14 ([] : List (Int × ByteArray × ByteArray)) (wrap64 (x6 - 1))))) else ((spec_l1Rd_loggable.f t8.1 t8.2.1 x3_0 x3_1 x3_2 x3_3).bind fun t15 => ((spec_l1Rd_below.f t15.1 t15.2.1 3).bind fun t16 => (if 0 ≤ t16.2.2 then (if t16.2.2 < 3 then ((spec_Logged.f k x3_0 x3_1 x3_2 x3_3 x5_0 x5_1 t15.2.2 (rdOf ByteArray.empty ([(⟨#[97]⟩ : ByteArray), (⟨#[98, 99, 100]⟩ : ByteArray), (⟨#[0, 1]⟩ : ByteArray)] : List ByteArray) t16.2.2)).bind fun t17 => (if t17.2.2 = 0 then (spec_l1Rd_logged.p14 k t16.1 t16.2.1 x3_0 x3_1 x3_2 x3_3 x4_0 t17.1 t17.2.1 (wrap64 (x6 - 1))) else (spec_l1Rd_logged.p14 k t16.1 t16.2.1 x3_0 x3_1 x3_2 x3_3 x4_0 x5_0 x5_1 (wrap64 (x6 - 1))))) else none) else none)))))))) else ((spec_l1Rd_below.f h0_0 h0_1 30).bind fun t18 => (if t18.2.2 = 0 then ((spec_l1Rd_below.f t18.1 t18.2.1 (wrap64 (Int.tdiv (x5_0.size : Int) 32))).bind fun t19 => ((spec_l1Rd_bytes.f k t19.1 t19.2.1 3).bind fun t20 => (if t20.2.2.size + (⟨#[120]⟩ : ByteArray).size ≤ 9223372036854775807 then ((spec_l2Store.f k x5_0 x5_1 (wrap64 (t19.2.2 * 32)) (t20.2.2 ++ (⟨#[120]⟩ : ByteArray))).bind fun t21 => (some (t20.1, t20.2.1, t21.1, t21.2))) else none))) else (if t18.2.2 = 1 then ((spec_l1Rd_below.f t18.1 t18.2.1 4).bind fun t22 => ((spec_l1Rd_below.f t22.1 t22.2.1 2).bind fun t23 => ((spec_l1Rd_below.f t23.1 t23.2.1 40).bind fun t24 => ((spec_l1Zeros.f 32).bind fun t25 => ((spec_RecordLine.f k t22.2.2 t23.2.2 t24.2.2 t25).bind fun t26 => ((spec_l2Store.f k x5_0 x5_1 256 t26).bind fun t27 => (some (t24.1, t24.2.1, t27.1, t27.2)))))))) else (if t18.2.2 = 2 then ((spec_l1Rd_hurt.f t18.1 t18.2.1 x5_0).bind fun t28 => (some (t28.1, t28.2.1, t28.2.2, x5_1))) else (some (t18.1, t18.2.1, x5_0, x5_1)))))))
def spec_l1Rd_logged.f (k : Nat) (a0_0 : List Int) (a0_1 : Int) (a1_0 : Int) (a1_1 : Int) (a1_2 : Int) (a1_3 : List ByteArray) : Option (List Int × Int × ByteArray × List (Int × ByteArray × ByteArray)) := ((spec_Format.f k a1_0 a1_1 a1_2 a1_3).bind fun t1 => ((spec_l1Rd_once.f a0_0 a0_1 20).bind fun t2 => (if t2.2.2 = true then ((spec_l1Rd_below.f t2.1 t2.2.1 2).bind fun t3 => ((spec_EpochLine.f k (wrap64 (1000000000 - t3.2.2))).bind fun t4 => ((spec_l2With.f t1 64 t4).bind fun t5 => ((spec_l1Rd_size.f t3.1 t3.2.1 3 12).bind fun t6 => (spec_l1Rd_logged.p14 k t6.1 t6.2.1 a1_0 a1_1 a1_2 a1_3 (⟨#[]⟩ : ByteArray) t5 ([] : List (Int × ByteArray × ByteArray)) t6.2.2))))) else ((spec_l1Rd_size.f t2.1 t2.2.1 3 12).bind fun t7 => (spec_l1Rd_logged.p14 k t7.1 t7.2.1 a1_0 a1_1 a1_2 a1_3 (⟨#[]⟩ : ByteArray) t1 ([] : List (Int × ByteArray × ByteArray)) t7.2.2)))))
def spec_DrawNoted.f (k : Nat) (a0 : List Int) : Option (Int × Int × Int × List ByteArray × ByteArray × List (Int × ByteArray × ByteArray) × Int) := ((spec_l1Open.f a0).bind fun t1 => ((spec_l1Rd_small.f k t1.1 t1.2).bind fun t2 => ((spec_l1Rd_logged.f k t2.1 t2.2.1 t2.2.2.1 t2.2.2.2.1 t2.2.2.2.2.1 t2.2.2.2.2.2).bind fun t3 => ((spec_l1Rd_once.f t3.1 t3.2.1 6).bind fun t4 => (if t4.2.2 = true then ((spec_l1Rd_off.f k t4.1 t4.2.1 0 (wrap64 (2 * t2.2.2.1))).bind fun t5 => (some (t2.2.2.1, t2.2.2.2.1, t2.2.2.2.2.1, t2.2.2.2.2.2, t3.2.2.1, t3.2.2.2, t5.2.2))) else ((spec_l1Rd_loggable.f t4.1 t4.2.1 t2.2.2.1 t2.2.2.2.1 t2.2.2.2.2.1 t2.2.2.2.2.2).bind fun t6 => (some (t2.2.2.1, t2.2.2.2.1, t2.2.2.2.2.1, t2.2.2.2.2.2, t3.2.2.1, t3.2.2.2, (wrap64 (Int.tdiv t6.2.2 32))))))))))
def impl_within.f (a0 : Int) (a1 : Int) (a2 : Int) : Option (Bool) := (if a0 ≥ a1 then (some (decide (a0 ≤ a2))) else (some false))
def impl_size_string.f (a0 : List ByteArray) : Option (Int) := (some (a0.length : Int))
def strings_Trim.f (a0 a1 : ByteArray) : Option ByteArray :=
  if a0.size ≤ 9223372036854775807 then (if a1.size ≤ 1000 then (if a1.data.toList.all (fun b => decide (b.toNat < 128)) = true then some ⟨(Lib.trimS a0.data.toList a1.data.toList).toArray⟩ else none) else none) else none

def impl_isType.f (a0 : ByteArray) : Option (Bool) := ((impl_within.f (a0.size : Int) 1 23).bind fun t1 => (if t1 = true then ((strings_Trim.f a0 (⟨#[105, 114]⟩ : ByteArray)).bind fun t2 => (some (decide (t2.toList = (⟨#[]⟩ : ByteArray).toList)))) else (some false)))
def impl_TypesOk_1.f (a0 : ByteArray) : Option (Bool) := ((impl_isType.f a0).bind fun t1 => (some (!t1)))
def slices_IndexFunc_string_at_impl_TypesOk_1.p6 : Nat → List ByteArray → Int → Int → Option (Int)
 | 0, _, _, _ => none
 | k + 1, x0, x7, x8 => (if x8 < x7 then (if 0 ≤ x8 then (if x8 < (x0.length : Int) then ((impl_TypesOk_1.f (rdOf ByteArray.empty x0 x8)).bind fun t1 => (if t1 = true then (some x8) else (slices_IndexFunc_string_at_impl_TypesOk_1.p6 k x0 x7 (wrap64 (x8 + 1))))) else none) else none) else (some (-1)))
def slices_IndexFunc_string_at_impl_TypesOk_1.f (k : Nat) (a0 : List ByteArray) : Option (Int) := (slices_IndexFunc_string_at_impl_TypesOk_1.p6 k a0 (a0.length : Int) 0)
def slices_ContainsFunc_string_at_impl_TypesOk_1.f (k : Nat) (a0 : List ByteArray) : Option (Bool) := ((slices_IndexFunc_string_at_impl_TypesOk_1.f k a0).bind fun t1 => (some (decide (t1 ≥ 0))))
def impl_TypesOk.f (k : Nat) (a0 : List ByteArray) : Option (Bool) := ((impl_size_string.f a0).bind fun t1 => ((impl_within.f t1 1 12).bind fun t2 => (if t2 = true then ((slices_ContainsFunc_string_at_impl_TypesOk_1.f k a0).bind fun t3 => (some (!t3))) else (some false))))
def impl_ConfigOk.f (k : Nat) (a0_0 : Int) (a0_1 : Int) (a0_2 : Int) (a0_3 : List ByteArray) : Option (Bool) := ((impl_within.f a0_0 8 128).bind fun t1 => (if t1 = true then ((impl_within.f a0_1 1 (if (wrap64 (a0_0 - 5)) < 32 then (wrap64 (a0_0 - 5)) else 32)).bind fun t2 => (if t2 = true then ((impl_within.f a0_2 2 400).bind fun t3 => (if t3 = true then ((impl_TypesOk.f k a0_3).bind fun t4 => (some t4)) else (some false))) else (some false))) else (some false)))
def _impl_Device_has.f (a0_0 : ByteArray) (a0_1 : List (Int × ByteArray × ByteArray)) (a1 : Int) : Option (Bool) := ((impl_within.f a1 0 (wrap64 ((wrap64 (Int.tdiv (a0_0.size : Int) 64)) - 1))).bind fun t1 => (some t1))
def impl_DeviceOk.p14 : Nat → ByteArray → List (Int × ByteArray × ByteArray) → List (Int × ByteArray × ByteArray) → Int → Int → Option (Bool)
 | 0, _, _, _, _, _ => none
 | k + 1, x1_0, x1_1, x19, x20, x21 => (if x21 < x20 then (if 0 ≤ x21 then (if x21 < (x19.length : Int) then ((_impl_Device_has.f x1_0 x1_1 (rdOf (0, (ByteArray.empty, ByteArray.empty)) x19 x21).1).bind fun t2 => (if t2 = true then (if x21 > 0 then (if 0 ≤ (wrap64 (x21 - 1)) then (if (wrap64 (x21 - 1)) < (x1_1.length : Int) then (if (rdOf (0, (ByteArray.empty, ByteArray.empty)) x19 x21).1 ≤ (rdOf (0, (ByteArray.empty, ByteArray.empty)) x1_1 (wrap64 (x21 - 1))).1 then (some false) else (if ((rdOf (0, (ByteArray.empty, ByteArray.empty)) x19 x21).2.1.size : Int) = 64 then (if ((rdOf (0, (ByteArray.empty, ByteArray.empty)) x19 x21).2.2.size : Int) = 64 then (impl_DeviceOk.p14 k x1_0 x1_1 x19 x20 (wrap64 (x21 + 1))) else (if (rdOf (0, (ByteArray.empty, ByteArray.empty)) x19 x21).2.2.toList = (⟨#[]⟩ : ByteArray).toList then (impl_DeviceOk.p14 k x1_0 x1_1 x19 x20 (wrap64 (x21 + 1))) else (some false))) else (some false))) else none) else none) else (if ((rdOf (0, (ByteArray.empty, ByteArray.empty)) x19 x21).2.1.size : Int) = 64 then (if ((rdOf (0, (ByteArray.empty, ByteArray.empty)) x19 x21).2.2.size : Int) = 64 then (impl_DeviceOk.p14 k x1_0 x1_1 x19 x20 (wrap64 (x21 + 1))) else (if (rdOf (0, (ByteArray.empty, ByteArray.empty)) x19 x21).2.2.toList = (⟨#[]⟩ : ByteArray).toList then (impl_DeviceOk.p14 k x1_0 x1_1 x19 x20 (wrap64 (x21 + 1))) else (some false))) else (some false))) else (some false))) else none) else none) else (some true))
def impl_DeviceOk.f (k : Nat) (a0_0 : ByteArray) (a0_1 : List (Int × ByteArray × ByteArray)) : Option (Bool) := (if (Int.tmod (a0_0.size : Int) 64) = 0 then ((impl_within.f (wrap64 (Int.tdiv (a0_0.size : Int) 64)) 1 128).bind fun t1 => (if t1 = true then (impl_DeviceOk.p14 k a0_0 a0_1 a0_1 (a0_1.length : Int) 0) else (some false))) else (some false))
def cmp_isNaN_int64.f (a0 : Int) : Option (Bool) := (some (!decide (a0 = a0)))
def cmp_Compare_int64.f (a0 : Int) (a1 : Int) : Option (Int) := ((cmp_isNaN_int64.f a0).bind fun t1 => ((cmp_isNaN_int64.f a1).bind fun t2 => (if t1 = true then (if t2 = true then (some 0) else (some (-1))) else (if t2 = true then (some 1) else (if a0 < a1 then (some (-1)) else (if a0 > a1 then (some 1) else (some 0)))))))
def _impl_Device_find_1.f (a0_0 : Int) (a0_1 : ByteArray) (a0_2 : ByteArray) (a1 : Int) : Option (Int) := ((cmp_Compare_int64.f a0_0 a1).bind fun t1 => (some t1))
def slices_BinarySearchFunc_int64_at__impl_Device_find_1.p8 : Nat → List (Int × ByteArray × ByteArray) → Int → Int → Int → Int → Option (Int × Bool)
 | 0, _, _, _, _, _ => none
 | k + 1, x0, x1, x8, x9, x10 => (if x9 < x10 then (if 0 ≤ (wrap64 (shrA .u64 (IntKind.wrap .u64 (wrap64 (x9 + x10))) 1)) then (if (wrap64 (shrA .u64 (IntKind.wrap .u64 (wrap64 (x9 + x10))) 1)) < (x0.length : Int) then ((_impl_Device_find_1.f (rdOf (0, (ByteArray.empty, ByteArray.empty)) x0 (wrap64 (shrA .u64 (IntKind.wrap .u64 (wrap64 (x9 + x10))) 1))).1 (rdOf (0, (ByteArray.empty, ByteArray.empty)) x0 (wrap64 (shrA .u64 (IntKind.wrap .u64 (wrap64 (x9 + x10))) 1))).2.1 (rdOf (0, (ByteArray.empty, ByteArray.empty)) x0 (wrap64 (shrA .u64 (IntKind.wrap .u64 (wrap64 (x9 + x10))) 1))).2.2 x1).bind fun t1 => (if t1 < 0 then (slices_BinarySearchFunc_int64_at__impl_Device_find_1.p8 k x0 x1 x8 (wrap64 ((wrap64 (shrA .u64 (IntKind.wrap .u64 (wrap64 (x9 + x10))) 1)) + 1)) x10) else (slices_BinarySearchFunc_int64_at__impl_Device_find_1.p8 k x0 x1 x8 x9 (wrap64 (shrA .u64 (IntKind.wrap .u64 (wrap64 (x9 + x10))) 1))))) else none) else none) else (if x9 < x8 then (if 0 ≤ x9 then (if x9 < (x0.length : Int) then ((_impl_Device_find_1.f (rdOf (0, (ByteArray.empty, ByteArray.empty)) x0 x9).1 (rdOf (0, (ByteArray.empty, ByteArray.empty)) x0 x9).2.1 (rdOf (0, (ByteArray.empty, ByteArray.empty)) x0 x9).2.2 x1).bind fun t2 => (some (x9, (decide (t2 = 0))))) else none) else none) else (some (x9, false))))
def slices_BinarySearchFunc_int64_at__impl_Device_find_1.f (k : Nat) (a0 : List (Int × ByteArray × ByteArray)) (a1 : Int) : Option (Int × Bool) := (slices_BinarySearchFunc_int64_at__impl_Device_find_1.p8 k a0 a1 (a0.length : Int) 0 (a0.length : Int))
def _impl_Device_find.f (k : Nat) (a0_0 : ByteArray) (a0_1 : List (Int × ByteArray × ByteArray)) (a1 : Int) : Option (Int × Bool) := ((slices_BinarySearchFunc_int64_at__impl_Device_find_1.f k a0_1 a1).bind fun t1 => (some (t1.1, t1.2)))
def _impl_Device_safeLine.f (a0_0 : ByteArray) (a0_1 : List (Int × ByteArray × ByteArray)) (a1 : Int) : Option (ByteArray) := (if 0 ≤ (wrap64 ((wrap64 (64 * a1)) + 64)) then (if (wrap64 ((wrap64 (64 * a1)) + 64)) ≤ (a0_0.size : Int) then (if 0 ≤ (wrap64 (64 * a1)) then (if (wrap64 (64 * a1)) ≤ (wrap64 ((wrap64 (64 * a1)) + 64)) then (some (a0_0.extract (wrap64 (64 * a1)).toNat (wrap64 ((wrap64 (64 * a1)) + 64)).toNat)) else none) else none) else none) else none)
def _impl_Device_seenLine.f (k : Nat) (a0_0 : ByteArray) (a0_1 : List (Int × ByteArray × ByteArray)) (a1 : Int) : Option (ByteArray) := ((_impl_Device_find.f k a0_0 a0_1 a1).bind fun t1 => (if t1.2 = true then (if 0 ≤ t1.1 then (if t1.1 < (a0_1.length : Int) then (some (rdOf (0, (ByteArray.empty, ByteArray.empty)) a0_1 t1.1).2.1) else none) else none) else ((_impl_Device_safeLine.f a0_0 a0_1 a1).bind fun t2 => (some t2))))
def strings_Builder_WriteString.f (a0 : List Int) (a1 : ByteArray) : Option (List Int × Int) := if a0.length + a1.size ≤ 140737488355328 then some (a0 ++ numsOf a1, (a1.size : Int)) else none

def strings_Builder_String.f (a0 : List Int) : Option ByteArray := if okB a0 = true then some (strOf a0) else none

def _impl_Device_seen.p8 : Nat → ByteArray → List (Int × ByteArray × ByteArray) → List Int → Int → Option (ByteArray)
 | 0, _, _, _, _ => none
 | k + 1, x1_0, x1_1, x3, x4 => ((_impl_Device_has.f x1_0 x1_1 x4).bind fun t1 => (if t1 = true then ((_impl_Device_seenLine.f k x1_0 x1_1 x4).bind fun t2 => ((strings_Builder_WriteString.f x3 t2).bind fun t3 => (_impl_Device_seen.p8 k x1_0 x1_1 t3.1 (wrap64 (x4 + 1))))) else ((strings_Builder_String.f x3).bind fun t4 => (some t4))))
def _impl_Device_seen.f (k : Nat) (a0_0 : ByteArray) (a0_1 : List (Int × ByteArray × ByteArray)) : Option (ByteArray) := (_impl_Device_seen.p8 k a0_0 a0_1 ([] : List Int) 0)
def impl_isImage.f (k : Nat) (a0_0 : Int) (a0_1 : Int) (a0_2 : Int) (a0_3 : List ByteArray) (a1 : ByteArray) : Option (Bool) := ((impl_ConfigOk.f k a0_0 a0_1 a0_2 a0_3).bind fun t1 => (if t1 = true then (some (decide ((a1.size : Int) = (wrap64 (64 * a0_0))))) else (some false)))
def impl_lineOf.f (a0 : ByteArray) (a1 : Int) : Option (ByteArray) := (if 0 ≤ (wrap64 ((wrap64 (64 * a1)) + 64)) then (if (wrap64 ((wrap64 (64 * a1)) + 64)) ≤ (a0.size : Int) then (if 0 ≤ (wrap64 (64 * a1)) then (if (wrap64 (64 * a1)) ≤ (wrap64 ((wrap64 (64 * a1)) + 64)) then (some (a0.extract (wrap64 (64 * a1)).toNat (wrap64 ((wrap64 (64 * a1)) + 64)).toNat)) else none) else none) else none) else none)
def impl_bigBytes.p8 : Nat → Int → Int → List Int → Int → Int → Option (ByteArray)
 | 0, _, _, _, _, _ => none
 | k + 1, x0, x1, x5, x10, x11 => (if x11 < x10 then (if 0 ≤ (wrap64 ((wrap64 (x1 - 1)) - x11)) then (if (wrap64 ((wrap64 (x1 - 1)) - x11)) < (x5.length : Int) then (impl_bigBytes.p8 k (shrA .u64 x0 8) x1 (x5.set (wrap64 ((wrap64 (x1 - 1)) - x11)).toNat (x0 % 256)) x10 (wrap64 (x11 + 1))) else none) else none) else (some (strOf x5)))
def impl_bigBytes.f (k : Nat) (a0 : Int) (a1 : Int) : Option (ByteArray) := (if 0 ≤ a1 then (if a1.toNat ≤ 281474976710656 then (impl_bigBytes.p8 k a0 a1 (List.replicate a1.toNat (0 : Int)) ((List.replicate a1.toNat (0 : Int)).length : Int) 0) else none) else none)
mutual
def impl_Crc.p16 : Nat → ByteArray → Int → Int → Int → Option (ByteArray)
 | 0, _, _, _, _ => none
 | k + 1, x0, x3, x10, x11 => (if x11 < x10 then (if 0 ≤ x11 then (if x11 < (x0.size : Int) then (impl_Crc.p32 k x0 (xorA .u32 x3 (IntKind.wrap .u32 (byteAt x0 x11))) x10 x11 0) else none) else none) else ((impl_bigBytes.f k (IntKind.wrap .u64 (xorA .u32 4294967295 x3)) 4).bind fun t1 => (some t1)))
def impl_Crc.p32 : Nat → ByteArray → Int → Int → Int → Int → Option (ByteArray)
 | 0, _, _, _, _, _ => none
 | k + 1, x0, x3, x10, x11, x20 => (if x20 < 8 then (if (andA .u32 x3 1) = 1 then (impl_Crc.p32 k x0 (xorA .u32 (shrA .u32 x3 1) 3988292384) x10 x11 (wrap64 (x20 + 1))) else (impl_Crc.p32 k x0 (shrA .u32 x3 1) x10 x11 (wrap64 (x20 + 1)))) else (impl_Crc.p16 k x0 x3 x10 (wrap64 (x11 + 1))))
end
def impl_Crc.f (k : Nat) (a0 : ByteArray) : Option (ByteArray) := (if (a0.size : Int) > 20000 then (some (⟨#[]⟩ : ByteArray)) else (impl_Crc.p16 k a0 4294967295 (a0.size : Int) 0))
def impl_Unsealed.f (k : Nat) (a0 : ByteArray) : Option (ByteArray × Bool) := (if (a0.size : Int) = 64 then (if 60 ≤ (a0.size : Int) then ((impl_Crc.f k (a0.extract 0 60)).bind fun t1 => (if 60 ≤ (a0.size : Int) then (if t1.toList = (a0.extract 60 (a0.size : Int).toNat).toList then (if 60 ≤ (a0.size : Int) then (some ((a0.extract 0 60), true)) else none) else (some ((⟨#[]⟩ : ByteArray), false))) else none)) else none) else (some ((⟨#[]⟩ : ByteArray), false)))
def impl_wordAt.p8 : Nat → ByteArray → Int → Int → Int → Option (Int)
 | 0, _, _, _, _ => none
 | k + 1, x0, x1, x5, x7 => (if x7 < 8 then (if 0 ≤ (wrap64 (x1 + x7)) then (if (wrap64 (x1 + x7)) < (x0.size : Int) then (impl_wordAt.p8 k x0 x1 (orA .i64 (shlA .i64 x5 8) (wrap64 (byteAt x0 (wrap64 (x1 + x7))))) (wrap64 (x7 + 1))) else none) else none) else (some x5))
def impl_wordAt.f (k : Nat) (a0 : ByteArray) (a1 : Int) : Option (Int) := (impl_wordAt.p8 k a0 a1 0 0)
def impl_WordBytes.f (k : Nat) (a0 : Int) : Option (ByteArray) := ((impl_bigBytes.f k (IntKind.wrap .u64 a0) 8).bind fun t1 => (some t1))
def strings_Repeat.f (a0 : ByteArray) (a1 : Int) : Option ByteArray :=
  if 0 ≤ a1 then (if a1 ≤ 1048576 then (if a0.size ≤ 1048576 then some ⟨(Lib.repeatL a0.data.toList a1.toNat).toArray⟩ else none) else none) else none

def impl_zeros.f (a0 : Int) : Option (ByteArray) := ((strings_Repeat.f (⟨#[0]⟩ : ByteArray) a0).bind fun t1 => (some t1))
def impl_Sealed.f (k : Nat) (a0 : ByteArray) : Option (ByteArray) := (if (a0.size : Int) > 60 then (some (⟨#[]⟩ : ByteArray)) else ((impl_zeros.f (wrap64 (60 - (a0.size : Int)))).bind fun t1 => (if a0.size + t1.size ≤ 9223372036854775807 then ((impl_Crc.f k (a0 ++ t1)).bind fun t2 => (if (a0 ++ t1).size + t2.size ≤ 9223372036854775807 then (some ((a0 ++ t1) ++ t2)) else none)) else none)))
def impl_EpochLine.f (k : Nat) (a0 : Int) : Option (ByteArray) := ((impl_within.f a0 0 1000000000).bind fun t1 => (if t1 = true then ((impl_WordBytes.f k a0).bind fun t2 => ((impl_Sealed.f k t2).bind fun t3 => (some t3))) else (some (⟨#[]⟩ : ByteArray))))
def impl_ReadEpoch.f (k : Nat) (a0 : ByteArray) : Option (Int × Bool) := ((impl_Unsealed.f k a0).bind fun t1 => (if t1.2 = true then ((impl_wordAt.f k t1.1 0).bind fun t2 => ((impl_within.f t2 0 1000000000).bind fun t3 => (if t3 = true then ((impl_EpochLine.f k t2).bind fun t4 => (if t4.toList = a0.toList then (some (t2, true)) else (some (0, false)))) else (some (0, false))))) else (some (0, false))))
def impl_EpochOf.f (k : Nat) (a0_0 : Int) (a0_1 : Int) (a0_2 : Int) (a0_3 : List ByteArray) (a1 : ByteArray) : Option (Int) := ((impl_isImage.f k a0_0 a0_1 a0_2 a0_3 a1).bind fun t1 => (if t1 = true then ((impl_lineOf.f a1 1).bind fun t2 => ((impl_ReadEpoch.f k t2).bind fun t3 => (if t3.2 = true then (some t3.1) else (some (-1))))) else (some (-1))))
def impl_ReadShort.f (a0 : ByteArray) : Option (Int × Bool) := (if (a0.size : Int) = 2 then (if 0 < (a0.size : Int) then (if 1 < (a0.size : Int) then (some ((orA .i64 (shlA .i64 (wrap64 (byteAt a0 0)) 8) (wrap64 (byteAt a0 1))), true)) else none) else none) else (some (0, false)))
def impl_ShortBytes.f (a0 : Int) : Option (ByteArray) := ((impl_within.f a0 0 65535).bind fun t1 => (if t1 = true then (some (strOf ([((shrA .i64 a0 8) % 256), (a0 % 256)] : List Int))) else (some (⟨#[]⟩ : ByteArray))))
def impl_RecordLine.p5 : Nat → Int → Int → Int → ByteArray → Bool → Option (ByteArray)
 | 0, _, _, _, _, _ => none
 | k + 1, x1_0, x1_1, x1_2, x1_3, x24 => (if x24 = true then (some (⟨#[]⟩ : ByteArray)) else (if (⟨#[85]⟩ : ByteArray).size + (strOf ([(x1_1 % 256)] : List Int)).size ≤ 9223372036854775807 then ((impl_ShortBytes.f x1_2).bind fun t4 => (if ((⟨#[85]⟩ : ByteArray) ++ (strOf ([(x1_1 % 256)] : List Int))).size + t4.size ≤ 9223372036854775807 then ((impl_WordBytes.f k x1_0).bind fun t5 => (if (((⟨#[85]⟩ : ByteArray) ++ (strOf ([(x1_1 % 256)] : List Int))) ++ t4).size + t5.size ≤ 9223372036854775807 then (if ((((⟨#[85]⟩ : ByteArray) ++ (strOf ([(x1_1 % 256)] : List Int))) ++ t4) ++ t5).size + x1_3.size ≤ 9223372036854775807 then ((impl_Sealed.f k (((((⟨#[85]⟩ : ByteArray) ++ (strOf ([(x1_1 % 256)] : List Int))) ++ t4) ++ t5) ++ x1_3)).bind fun t6 => (some t6)) else none) else none)) else none)) else none))
def impl_RecordLine.f (k : Nat) (a0_0 : Int) (a0_1 : Int) (a0_2 : Int) (a0_3 : ByteArray) : Option (ByteArray) := ((impl_within.f a0_0 0 999999999).bind fun t1 => (if t1 = true then ((impl_within.f a0_1 0 31).bind fun t2 => (if t2 = true then ((impl_within.f a0_2 0 255).bind fun t3 => (if t3 = true then (impl_RecordLine.p5 k a0_0 a0_1 a0_2 a0_3 (!decide ((a0_3.size : Int) = 32))) else (impl_RecordLine.p5 k a0_0 a0_1 a0_2 a0_3 true))) else (impl_RecordLine.p5 k a0_0 a0_1 a0_2 a0_3 true))) else (impl_RecordLine.p5 k a0_0 a0_1 a0_2 a0_3 true)))
def impl_ReadRecord.f (k : Nat) (a0 : ByteArray) : Option (Int × Int × Int × ByteArray × Bool) := ((impl_Unsealed.f k a0).bind fun t1 => (if t1.2 = true then (if 1 < (t1.1.size : Int) then ((impl_wordAt.f k t1.1 4).bind fun t2 => (if 44 ≤ (t1.1.size : Int) then (if 4 ≤ (t1.1.size : Int) then ((impl_ReadShort.f (t1.1.extract 2 4)).bind fun t3 => ((impl_RecordLine.f k t2 (wrap64 (byteAt t1.1 1)) t3.1 (t1.1.extract 12 44)).bind fun t4 => (if t4.toList = a0.toList then (some (t2, (wrap64 (byteAt t1.1 1)), t3.1, (t1.1.extract 12 44), true)) else (some (0, 0, 0, (⟨#[]⟩ : ByteArray), false))))) else none) else none)) else none) else (some (0, 0, 0, (⟨#[]⟩ : ByteArray), false))))
def impl_LogOf_1.f (a0_0 : Int) (a0_1 : Int) (a0_2 : Int) (a0_3 : ByteArray) (a1 : Int × Int × Int × ByteArray) : Option (Bool) := (some (decide (a0_2 = a1.2.2.1)))
def slices_IndexFunc_implRecord_at_impl_LogOf_1.p6 : Nat → List (Int × Int × Int × ByteArray) → Int × Int × Int × ByteArray → Int → Int → Option (Int)
 | 0, _, _, _, _ => none
 | k + 1, x0, x1_0, x7, x8 => (if x8 < x7 then (if 0 ≤ x8 then (if x8 < (x0.length : Int) then ((impl_LogOf_1.f (rdOf (0, (0, (0, ByteArray.empty))) x0 x8).1 (rdOf (0, (0, (0, ByteArray.empty))) x0 x8).2.1 (rdOf (0, (0, (0, ByteArray.empty))) x0 x8).2.2.1 (rdOf (0, (0, (0, ByteArray.empty))) x0 x8).2.2.2 x1_0).bind fun t1 => (if t1 = true then (some x8) else (slices_IndexFunc_implRecord_at_impl_LogOf_1.p6 k x0 x1_0 x7 (wrap64 (x8 + 1))))) else none) else none) else (some (-1)))
def slices_IndexFunc_implRecord_at_impl_LogOf_1.f (k : Nat) (a0 : List (Int × Int × Int × ByteArray)) (a1_0 : Int × Int × Int × ByteArray) : Option (Int) := (slices_IndexFunc_implRecord_at_impl_LogOf_1.p6 k a0 a1_0 (a0.length : Int) 0)
def slices_ContainsFunc_implRecord_at_impl_LogOf_1.f (k : Nat) (a0 : List (Int × Int × Int × ByteArray)) (a1_0 : Int × Int × Int × ByteArray) : Option (Bool) := ((slices_IndexFunc_implRecord_at_impl_LogOf_1.f k a0 a1_0).bind fun t1 => (some (decide (t1 ≥ 0))))
def impl_size_implRecord.f (a0 : List (Int × Int × Int × ByteArray)) : Option (Int) := (some (a0.length : Int))
def impl_canLog.f (a0_0 : Int) (a0_1 : Int) (a0_2 : Int) (a0_3 : List ByteArray) (a1 : Int) : Option (Bool) := ((impl_within.f a1 4 5).bind fun t1 => (if t1 = true then (some true) else ((impl_within.f a1 (wrap64 (2 * (wrap64 (4 + a0_1)))) (wrap64 ((wrap64 (2 * a0_0)) - 1))).bind fun t2 => (some t2))))
mutual
def impl_LogOf.p18 : Nat → ByteArray → Int → Int → Int → List ByteArray → Int → List (Int × Int × Int × ByteArray) → Int → Int → Option (List (Int × Int × Int × ByteArray) × Bool)
 | 0, _, _, _, _, _, _, _, _, _ => none
 | k + 1, x1, x2_0, x2_1, x2_2, x2_3, x6, x7, x19, x20 => (if x20 < x19 then ((impl_lineOf.f x1 (wrap64 (4 + x20))).bind fun t2 => ((impl_ReadRecord.f k t2).bind fun t3 => (if t3.2.2.2.2 = true then (impl_LogOf.p34 k x1 x2_0 x2_1 x2_2 x2_3 x6 x7 x20 t3.1 t3.2.1 t3.2.2.1 t3.2.2.2.1 x19 x20 (decide (t3.1 < x6))) else (impl_LogOf.p34 k x1 x2_0 x2_1 x2_2 x2_3 x6 x7 x20 t3.1 t3.2.1 t3.2.2.1 t3.2.2.2.1 x19 x20 true)))) else (some (x7, true)))
def impl_LogOf.p34 : Nat → ByteArray → Int → Int → Int → List ByteArray → Int → List (Int × Int × Int × ByteArray) → Int → Int → Int → Int → ByteArray → Int → Int → Bool → Option (List (Int × Int × Int × ByteArray) × Bool)
 | 0, _, _, _, _, _, _, _, _, _, _, _, _, _, _, _ => none
 | k + 1, x1, x2_0, x2_1, x2_2, x2_3, x6, x7, x8, x9_0, x9_1, x9_2, x9_3, x19, x20, x38 => (if x38 = true then (impl_LogOf.p18 k x1 x2_0 x2_1 x2_2 x2_3 x6 x7 x19 (wrap64 (x20 + 1))) else ((slices_ContainsFunc_implRecord_at_impl_LogOf_1.f k x7 (x9_0, (x9_1, (x9_2, x9_3)))).bind fun t4 => (if x9_0 > x6 then (impl_LogOf.p42 k x1 x2_0 x2_1 x2_2 x2_3 x6 x7 x9_0 x9_1 x9_2 x9_3 x19 x20 true) else ((impl_size_implRecord.f x7).bind fun t5 => (if t5 = x8 then (if x9_1 = x8 then ((impl_canLog.f x2_0 x2_1 x2_2 x2_3 x9_2).bind fun t6 => (if t6 = true then (impl_LogOf.p42 k x1 x2_0 x2_1 x2_2 x2_3 x6 x7 x9_0 x9_1 x9_2 x9_3 x19 x20 t4) else (impl_LogOf.p42 k x1 x2_0 x2_1 x2_2 x2_3 x6 x7 x9_0 x9_1 x9_2 x9_3 x19 x20 true))) else (impl_LogOf.p42 k x1 x2_0 x2_1 x2_2 x2_3 x6 x7 x9_0 x9_1 x9_2 x9_3 x19 x20 true)) else (impl_LogOf.p42 k x1 x2_0 x2_1 x2_2 x2_3 x6 x7 x9_0 x9_1 x9_2 x9_3 x19 x20 true))))))
def impl_LogOf.p42 : Nat → ByteArray → Int → Int → Int → List ByteArray → Int → List (Int × Int × Int × ByteArray) → Int → Int → Int → ByteArray → Int → Int → Bool → Option (List (Int × Int × Int × ByteArray) × Bool)
 | 0, _, _, _, _, _, _, _, _, _, _, _, _, _, _ => none
 | k + 1, x1, x2_0, x2_1, x2_2, x2_3, x6, x7, x9_0, x9_1, x9_2, x9_3, x19, x20, x67 => (if x67 = true then (some (([] : List (Int × Int × Int × ByteArray)), false)) else (if x7.length + 1 ≤ 3518437208883 then (impl_LogOf.p18 k x1 x2_0 x2_1 x2_2 x2_3 x6 (x7 ++ ([(x9_0, (x9_1, (x9_2, x9_3)))] : List (Int × Int × Int × ByteArray))) x19 (wrap64 (x20 + 1))) else none))
end
def impl_LogOf.f (k : Nat) (a0_0 : Int) (a0_1 : Int) (a0_2 : Int) (a0_3 : List ByteArray) (a1 : ByteArray) : Option (List (Int × Int × Int × ByteArray) × Bool) := ((impl_EpochOf.f k a0_0 a0_1 a0_2 a0_3 a1).bind fun t1 => (if t1 < 0 then (some (([] : List (Int × Int × Int × ByteArray)), false)) else (impl_LogOf.p18 k a1 a0_0 a0_1 a0_2 a0_3 t1 ([] : List (Int × Int × Int × ByteArray)) a0_1 0)))
def impl_loggedOn.p5 : Nat → Int → Int → Int → List ByteArray → ByteArray → List (Int × ByteArray × ByteArray) → Bool → Option (List (Int × Int × Int × ByteArray) × Int × Bool)
 | 0, _, _, _, _, _, _, _ => none
 | k + 1, x2_0, x2_1, x2_2, x2_3, x3_0, x3_1, x17 => (if x17 = true then (some (([] : List (Int × Int × Int × ByteArray)), 0, false)) else ((_impl_Device_seen.f k x3_0 x3_1).bind fun t3 => ((impl_LogOf.f k x2_0 x2_1 x2_2 x2_3 t3).bind fun t4 => ((impl_EpochOf.f k x2_0 x2_1 x2_2 x2_3 t3).bind fun t5 => (some (t4.1, t5, t4.2))))))
def impl_loggedOn.f (k : Nat) (a0_0 : Int) (a0_1 : Int) (a0_2 : Int) (a0_3 : List ByteArray) (a1_0 : ByteArray) (a1_1 : List (Int × ByteArray × ByteArray)) : Option (List (Int × Int × Int × ByteArray) × Int × Bool) := ((impl_ConfigOk.f k a0_0 a0_1 a0_2 a0_3).bind fun t1 => (if t1 = true then ((impl_DeviceOk.f k a1_0 a1_1).bind fun t2 => (impl_loggedOn.p5 k a0_0 a0_1 a0_2 a0_3 a1_0 a1_1 (!t2))) else (impl_loggedOn.p5 k a0_0 a0_1 a0_2 a0_3 a1_0 a1_1 true)))
def slices_Clone_implLine.f (a0 : List (Int × ByteArray × ByteArray)) : Option (List (Int × ByteArray × ByteArray)) := if a0.length ≤ 1099511627776 then some a0 else none

def _impl_Device_own.f (a0_0 : ByteArray) (a0_1 : List (Int × ByteArray × ByteArray)) : Option (ByteArray × List (Int × ByteArray × ByteArray)) := ((slices_Clone_implLine.f a0_1).bind fun t1 => (some (a0_0, t1)))
def impl_newMachine.f (a0_0 : ByteArray) (a0_1 : List (Int × ByteArray × ByteArray)) (a1 : Int) : Option (ByteArray × List (Int × ByteArray × ByteArray) × Int × Int) := ((_impl_Device_own.f a0_0 a0_1).bind fun t1 => (some (t1.1, t1.2, (if (-1) < a1 then a1 else (-1)), 0)))
def impl_machine_note_1.f (a0_0 : Int) (a0_1 : Int) (a0_2 : Int) (a0_3 : ByteArray) (a1 : Int) : Option (Bool) := (some (decide (a0_2 = a1)))
def slices_IndexFunc_implRecord_at_impl_machine_note_1.p6 : Nat → List (Int × Int × Int × ByteArray) → Int → Int → Int → Option (Int)
 | 0, _, _, _, _ => none
 | k + 1, x0, x1_0, x7, x8 => (if x8 < x7 then (if 0 ≤ x8 then (if x8 < (x0.length : Int) then ((impl_machine_note_1.f (rdOf (0, (0, (0, ByteArray.empty))) x0 x8).1 (rdOf (0, (0, (0, ByteArray.empty))) x0 x8).2.1 (rdOf (0, (0, (0, ByteArray.empty))) x0 x8).2.2.1 (rdOf (0, (0, (0, ByteArray.empty))) x0 x8).2.2.2 x1_0).bind fun t1 => (if t1 = true then (some x8) else (slices_IndexFunc_implRecord_at_impl_machine_note_1.p6 k x0 x1_0 x7 (wrap64 (x8 + 1))))) else none) else none) else (some (-1)))
def slices_IndexFunc_implRecord_at_impl_machine_note_1.f (k : Nat) (a0 : List (Int × Int × Int × ByteArray)) (a1_0 : Int) : Option (Int) := (slices_IndexFunc_implRecord_at_impl_machine_note_1.p6 k a0 a1_0 (a0.length : Int) 0)
def slices_ContainsFunc_implRecord_at_impl_machine_note_1.f (k : Nat) (a0 : List (Int × Int × Int × ByteArray)) (a1_0 : Int) : Option (Bool) := ((slices_IndexFunc_implRecord_at_impl_machine_note_1.f k a0 a1_0).bind fun t1 => (some (decide (t1 ≥ 0))))
def impl_machine_seen.f (k : Nat) (a0_0 : ByteArray) (a0_1 : List (Int × ByteArray × ByteArray)) (a0_2 : Int) (a0_3 : Int) : Option (ByteArray × List (Int × ByteArray × ByteArray) × Int × Int × ByteArray) := ((_impl_Device_seen.f k a0_0 a0_1).bind fun t1 => (some (a0_0, a0_1, a0_2, a0_3, t1)))
def impl_Half.f (a0 : ByteArray) (a1 : Int) : Option (ByteArray) := (if a1 < 0 then (some (⟨#[]⟩ : ByteArray)) else (if a1 ≥ (wrap64 (Int.tdiv (a0.size : Int) 32)) then (some (⟨#[]⟩ : ByteArray)) else (if 0 ≤ (wrap64 ((wrap64 (32 * a1)) + 32)) then (if (wrap64 ((wrap64 (32 * a1)) + 32)) ≤ (a0.size : Int) then (if 0 ≤ (wrap64 (32 * a1)) then (if (wrap64 (32 * a1)) ≤ (wrap64 ((wrap64 (32 * a1)) + 32)) then (some (a0.extract (wrap64 (32 * a1)).toNat (wrap64 ((wrap64 (32 * a1)) + 32)).toNat)) else none) else none) else none) else none)))
def impl_machine_step.f (a0_0 : ByteArray) (a0_1 : List (Int × ByteArray × ByteArray)) (a0_2 : Int) (a0_3 : Int) : Option (ByteArray × List (Int × ByteArray × ByteArray) × Int × Int) := (if a0_2 = 0 then none else (some (a0_0, a0_1, (if (-1) < (wrap64 (a0_2 - 1)) then (wrap64 (a0_2 - 1)) else (-1)), (wrap64 (a0_3 + 1)))))
def impl_replaced.f (a0 : ByteArray) (a1 : Int) (a2 : ByteArray) : Option (ByteArray) := (if 0 ≤ a1 then (if a1 ≤ (a0.size : Int) then (if (a0.extract 0 a1.toNat).size + a2.size ≤ 9223372036854775807 then (if 0 ≤ (wrap64 (a1 + (a2.size : Int))) then (if (wrap64 (a1 + (a2.size : Int))) ≤ (a0.size : Int) then (if ((a0.extract 0 a1.toNat) ++ a2).size + (a0.extract (wrap64 (a1 + (a2.size : Int))).toNat (a0.size : Int).toNat).size ≤ 9223372036854775807 then (some (((a0.extract 0 a1.toNat) ++ a2) ++ (a0.extract (wrap64 (a1 + (a2.size : Int))).toNat (a0.size : Int).toNat))) else none) else none) else none) else none) else none) else none)
def slices_Insert_implLine.f (a0 : List (Int × ByteArray × ByteArray)) (a1 : Int) (a2 : List (Int × ByteArray × ByteArray)) : Option (List (Int × ByteArray × ByteArray)) := if 0 ≤ a1 then (if a1 ≤ a0.length then (if 0 < a2.length then (if a0.length + a2.length ≤ 1073741824 then some (a0.take a1.toNat ++ (a2 ++ a0.drop a1.toNat)) else none) else none) else none) else none

def impl_Device_store.p10 : Nat → ByteArray → List (Int × ByteArray × ByteArray) → Int → ByteArray → Int → Option (ByteArray × List (Int × ByteArray × ByteArray))
 | 0, _, _, _, _, _ => none
 | k + 1, h0_0, h0_1, x1, x2, x7 => (if 0 ≤ x7 then (if x7 < (h0_1.length : Int) then ((impl_replaced.f (rdOf (0, (ByteArray.empty, ByteArray.empty)) h0_1 x7).2.1 (Int.tmod x1 64) x2).bind fun t4 => (if 0 ≤ x7 then (if x7 < (h0_1.length : Int) then (some (h0_0, (h0_1.set x7.toNat ((rdOf (0, (ByteArray.empty, ByteArray.empty)) h0_1 x7).1, (t4, (rdOf (0, (ByteArray.empty, ByteArray.empty)) h0_1 x7).2.2))))) else none) else none)) else none) else none)
def impl_Device_store.f (k : Nat) (a0_0 : ByteArray) (a0_1 : List (Int × ByteArray × ByteArray)) (a1 : Int) (a2 : ByteArray) : Option (ByteArray × List (Int × ByteArray × ByteArray)) := ((_impl_Device_find.f k a0_0 a0_1 (wrap64 (Int.tdiv a1 64))).bind fun t1 => (if t1.2 = true then (impl_Device_store.p10 k a0_0 a0_1 a1 a2 t1.1) else ((_impl_Device_safeLine.f a0_0 a0_1 (wrap64 (Int.tdiv a1 64))).bind fun t2 => ((slices_Insert_implLine.f a0_1 t1.1 ([((wrap64 (Int.tdiv a1 64)), (t2, (⟨#[]⟩ : ByteArray)))] : List (Int × ByteArray × ByteArray))).bind fun t3 => (impl_Device_store.p10 k a0_0 t3 a1 a2 t1.1)))))
def impl_machine_store.f (k : Nat) (a0_0 : ByteArray) (a0_1 : List (Int × ByteArray × ByteArray)) (a0_2 : Int) (a0_3 : Int) (a1 : Int) (a2 : ByteArray) : Option (ByteArray × List (Int × ByteArray × ByteArray) × Int × Int) := ((impl_machine_step.f a0_0 a0_1 a0_2 a0_3).bind fun t1 => ((impl_Device_store.f k t1.1 t1.2.1 a1 a2).bind fun t2 => (some (t2.1, t2.2, t1.2.2.1, t1.2.2.2))))
def impl_Device_flush.f (k : Nat) (a0_0 : ByteArray) (a0_1 : List (Int × ByteArray × ByteArray)) (a1 : Int) : Option (ByteArray × List (Int × ByteArray × ByteArray)) := ((_impl_Device_find.f k a0_0 a0_1 a1).bind fun t1 => (if t1.2 = true then (if 0 ≤ t1.1 then (if t1.1 < (a0_1.length : Int) then (if 0 ≤ t1.1 then (if t1.1 < (a0_1.length : Int) then (some (a0_0, (a0_1.set t1.1.toNat ((rdOf (0, (ByteArray.empty, ByteArray.empty)) a0_1 t1.1).1, ((rdOf (0, (ByteArray.empty, ByteArray.empty)) a0_1 t1.1).2.1, (rdOf (0, (ByteArray.empty, ByteArray.empty)) a0_1 t1.1).2.1))))) else none) else none) else none) else none) else (some (a0_0, a0_1))))
def impl_machine_flush.f (k : Nat) (a0_0 : ByteArray) (a0_1 : List (Int × ByteArray × ByteArray)) (a0_2 : Int) (a0_3 : Int) (a1 : Int) : Option (ByteArray × List (Int × ByteArray × ByteArray) × Int × Int) := ((impl_machine_step.f a0_0 a0_1 a0_2 a0_3).bind fun t1 => ((impl_Device_flush.f k t1.1 t1.2.1 a1).bind fun t2 => (some (t2.1, t2.2, t1.2.2.1, t1.2.2.2))))
mutual
def impl_Device_fence.p6 : Nat → ByteArray → List (Int × ByteArray × ByteArray) → List (Int × ByteArray × ByteArray) → Int → Int → Option (ByteArray × List (Int × ByteArray × ByteArray))
 | 0, _, _, _, _, _ => none
 | k + 1, h0_0, h0_1, x2, x10, x11 => (if x11 < x10 then (if 0 ≤ x11 then (if x11 < (h0_1.length : Int) then (if (rdOf (0, (ByteArray.empty, ByteArray.empty)) h0_1 x11).2.2.toList = (⟨#[]⟩ : ByteArray).toList then (impl_Device_fence.p23 k h0_0 h0_1 x2 (rdOf (0, (ByteArray.empty, ByteArray.empty)) h0_1 x11).1 (rdOf (0, (ByteArray.empty, ByteArray.empty)) h0_1 x11).2.1 (rdOf (0, (ByteArray.empty, ByteArray.empty)) h0_1 x11).2.2 x10 x11) else ((impl_replaced.f h0_0 (wrap64 (64 * (rdOf (0, (ByteArray.empty, ByteArray.empty)) h0_1 x11).1)) (rdOf (0, (ByteArray.empty, ByteArray.empty)) h0_1 x11).2.2).bind fun t1 => (impl_Device_fence.p23 k t1 h0_1 x2 (rdOf (0, (ByteArray.empty, ByteArray.empty)) h0_1 x11).1 (rdOf (0, (ByteArray.empty, ByteArray.empty)) h0_1 x11).2.1 (rdOf (0, (ByteArray.empty, ByteArray.empty)) h0_1 x11).2.2 x10 x11))) else none) else none) else (some (h0_0, x2)))
def impl_Device_fence.p23 : Nat → ByteArray → List (Int × ByteArray × ByteArray) → List (Int × ByteArray × ByteArray) → Int → ByteArray → ByteArray → Int → Int → Option (ByteArray × List (Int × ByteArray × ByteArray))
 | 0, _, _, _, _, _, _, _, _ => none
 | k + 1, h0_0, h0_1, x2, x4_0, x4_1, x4_2, x10, x11 => (if x4_2.toList = x4_1.toList then (impl_Device_fence.p6 k h0_0 h0_1 x2 x10 (wrap64 (x11 + 1))) else (if x2.length + 1 ≤ 3518437208883 then (impl_Device_fence.p6 k h0_0 h0_1 (x2 ++ ([(x4_0, (x4_1, (⟨#[]⟩ : ByteArray)))] : List (Int × ByteArray × ByteArray))) x10 (wrap64 (x11 + 1))) else none))
end
def impl_Device_fence.f (k : Nat) (a0_0 : ByteArray) (a0_1 : List (Int × ByteArray × ByteArray)) : Option (ByteArray × List (Int × ByteArray × ByteArray)) := (impl_Device_fence.p6 k a0_0 a0_1 ([] : List (Int × ByteArray × ByteArray)) (a0_1.length : Int) 0)
def impl_machine_fence.f (k : Nat) (a0_0 : ByteArray) (a0_1 : List (Int × ByteArray × ByteArray)) (a0_2 : Int) (a0_3 : Int) : Option (ByteArray × List (Int × ByteArray × ByteArray) × Int × Int) := ((impl_machine_step.f a0_0 a0_1 a0_2 a0_3).bind fun t1 => ((impl_Device_fence.f k t1.1 t1.2.1).bind fun t2 => (some (t2.1, t2.2, t1.2.2.1, t1.2.2.2))))
def impl_machine_sync.f (k : Nat) (a0_0 : ByteArray) (a0_1 : List (Int × ByteArray × ByteArray)) (a0_2 : Int) (a0_3 : Int) (a1 : Int) (a2 : ByteArray) : Option (ByteArray × List (Int × ByteArray × ByteArray) × Int × Int) := ((impl_machine_store.f k a0_0 a0_1 a0_2 a0_3 (wrap64 (64 * a1)) a2).bind fun t1 => ((impl_machine_flush.f k t1.1 t1.2.1 t1.2.2.1 t1.2.2.2 a1).bind fun t2 => ((impl_machine_fence.f k t2.1 t2.2.1 t2.2.2.1 t2.2.2.2).bind fun t3 => (some (t3.1, t3.2.1, t3.2.2.1, t3.2.2.2)))))
def impl_machine_note.f (k : Nat) (a0_0 : ByteArray) (a0_1 : List (Int × ByteArray × ByteArray)) (a0_2 : Int) (a0_3 : Int) (a1_0 : Int) (a1_1 : Int) (a1_2 : Int) (a1_3 : List ByteArray) (a2 : Int) : Option (ByteArray × List (Int × ByteArray × ByteArray) × Int × Int × Int) := ((impl_loggedOn.f k a1_0 a1_1 a1_2 a1_3 a0_0 a0_1).bind fun t1 => (if t1.2.2 = true then ((slices_ContainsFunc_implRecord_at_impl_machine_note_1.f k t1.1 a2).bind fun t2 => (if t2 = true then (some (a0_0, a0_1, a0_2, a0_3, 0)) else ((impl_size_implRecord.f t1.1).bind fun t3 => (if t3 = a1_1 then (some (a0_0, a0_1, a0_2, a0_3, 3)) else (if t1.2.1 = 1000000000 then (some (a0_0, a0_1, a0_2, a0_3, 3)) else ((impl_size_implRecord.f t1.1).bind fun t4 => ((impl_size_implRecord.f t1.1).bind fun t5 => ((impl_machine_seen.f k a0_0 a0_1 a0_2 a0_3).bind fun t6 => ((impl_Half.f t6.2.2.2.2 a2).bind fun t7 => ((impl_RecordLine.f k t1.2.1 t5 a2 t7).bind fun t8 => ((impl_machine_sync.f k t6.1 t6.2.1 t6.2.2.1 t6.2.2.2.1 (wrap64 (4 + t4)) t8).bind fun t9 => (some (t9.1, t9.2.1, t9.2.2.1, t9.2.2.2, 0))))))))))))) else (some (a0_0, a0_1, a0_2, a0_3, 1))))
def impl_answered.f (a0_0 : ByteArray) (a0_1 : List (Int × ByteArray × ByteArray)) (a0_2 : Int) (a0_3 : Int) (a1 : Int) : Option (ByteArray × Int × Int × ByteArray × List (Int × ByteArray × ByteArray) × Int) := (if a1 = 0 then (some (a0_0, a0_2, a0_3, a0_0, a0_1, 0)) else (some (a0_0, a0_2, a0_3, (⟨#[]⟩ : ByteArray), ([] : List (Int × ByteArray × ByteArray)), a1)))
def impl_Noted.f (k : Nat) (a0_0 : Int) (a0_1 : Int) (a0_2 : Int) (a0_3 : List ByteArray) (a1_0 : ByteArray) (a1_1 : List (Int × ByteArray × ByteArray)) (a2 : Int) : Option (ByteArray × List (Int × ByteArray × ByteArray) × Int) := ((impl_loggedOn.f k a0_0 a0_1 a0_2 a0_3 a1_0 a1_1).bind fun t1 => (if t1.2.2 = true then ((impl_canLog.f a0_0 a0_1 a0_2 a0_3 a2).bind fun t2 => (if t2 = true then ((impl_newMachine.f a1_0 a1_1 (-1)).bind fun t3 => ((impl_machine_note.f k t3.1 t3.2.1 t3.2.2.1 t3.2.2.2 a0_0 a0_1 a0_2 a0_3 a2).bind fun t4 => ((impl_answered.f t4.1 t4.2.1 t4.2.2.1 t4.2.2.2.1 t4.2.2.2.2).bind fun t5 => (some (t5.2.2.2.1, t5.2.2.2.2.1, t5.2.2.2.2.2))))) else (some ((⟨#[]⟩ : ByteArray), ([] : List (Int × ByteArray × ByteArray)), 2)))) else (some ((⟨#[]⟩ : ByteArray), ([] : List (Int × ByteArray × ByteArray)), 1))))
def spec_Noted.f (k : Nat) (a0_0 : Int) (a0_1 : Int) (a0_2 : Int) (a0_3 : List ByteArray) (a1_0 : ByteArray) (a1_1 : List (Int × ByteArray × ByteArray)) (a2 : Int) : Option (ByteArray × List (Int × ByteArray × ByteArray) × Int) := ((spec_l5Bad.f k a0_0 a0_1 a0_2 a0_3 a1_0 a1_1).bind fun t1 => (if t1 = true then (some ((⟨#[]⟩ : ByteArray), ([] : List (Int × ByteArray × ByteArray)), 1)) else ((spec_l5Half.f a0_0 a0_1 a0_2 a0_3 a2).bind fun t2 => (if t2 = true then ((spec_l2Copy.f a1_0 a1_1).bind fun t3 => ((spec_l5W_note.f k t3.1 t3.2 (-1) 0 false a0_0 a0_1 a0_2 a0_3 a2).bind fun t4 => (if t4.2.2.2.2.2 = 0 then (some (t4.1, t4.2.1, 0)) else (some ((⟨#[]⟩ : ByteArray), ([] : List (Int × ByteArray × ByteArray)), t4.2.2.2.2.2))))) else (some ((⟨#[]⟩ : ByteArray), ([] : List (Int × ByteArray × ByteArray)), 2))))))
def laws_sameDev.p14 : Nat → ByteArray → List (Int × ByteArray × ByteArray) → ByteArray → List (Int × ByteArray × ByteArray) → Int → Option (Bool)
 | 0, _, _, _, _, _ => none
 | k + 1, x2_0, x2_1, x3_0, x3_1, x5 => (if x5 < (x2_1.length : Int) then (if 0 ≤ x5 then (if x5 < (x2_1.length : Int) then (if 0 ≤ x5 then (if x5 < (x3_1.length : Int) then (if (rdOf (0, (ByteArray.empty, ByteArray.empty)) x2_1 x5).1 = (rdOf (0, (ByteArray.empty, ByteArray.empty)) x3_1 x5).1 ∧ ((rdOf (0, (ByteArray.empty, ByteArray.empty)) x2_1 x5).2.1.toList = (rdOf (0, (ByteArray.empty, ByteArray.empty)) x3_1 x5).2.1.toList ∧ (rdOf (0, (ByteArray.empty, ByteArray.empty)) x2_1 x5).2.2.toList = (rdOf (0, (ByteArray.empty, ByteArray.empty)) x3_1 x5).2.2.toList) then (laws_sameDev.p14 k x2_0 x2_1 x3_0 x3_1 (wrap64 (x5 + 1))) else (some false)) else none) else none) else none) else none) else (some true))
def laws_sameDev.f (k : Nat) (a0_0 : ByteArray) (a0_1 : List (Int × ByteArray × ByteArray)) (a1_0 : ByteArray) (a1_1 : List (Int × ByteArray × ByteArray)) : Option (Bool) := (if a0_0.toList = a1_0.toList then (if (a0_1.length : Int) = (a1_1.length : Int) then (laws_sameDev.p14 k a0_0 a0_1 a1_0 a1_1 0) else (some false)) else (some false))
def impl_Seen.f (k : Nat) (a0_0 : ByteArray) (a0_1 : List (Int × ByteArray × ByteArray)) : Option (ByteArray) := ((impl_DeviceOk.f k a0_0 a0_1).bind fun t1 => (if t1 = true then ((_impl_Device_seen.f k a0_0 a0_1).bind fun t2 => (some t2)) else (some (⟨#[]⟩ : ByteArray))))
def laws_data.f (a0_0 : Int) (a0_1 : Int) (a0_2 : Int) (a0_3 : List ByteArray) (a1 : ByteArray) : Option (ByteArray) := (if (a1.size : Int) = (wrap64 (64 * a0_0)) then (if 192 ≤ (a1.size : Int) then (if 0 ≤ (wrap64 (64 * (wrap64 (4 + a0_1)))) then (if (wrap64 (64 * (wrap64 (4 + a0_1)))) ≤ (a1.size : Int) then (if (a1.extract 128 192).size + (a1.extract (wrap64 (64 * (wrap64 (4 + a0_1)))).toNat (a1.size : Int).toNat).size ≤ 9223372036854775807 then (some ((a1.extract 128 192) ++ (a1.extract (wrap64 (64 * (wrap64 (4 + a0_1)))).toNat (a1.size : Int).toNat))) else none) else none) else none) else none) else (some (⟨#[]⟩ : ByteArray)))
mutual
def laws_FnNoted.p19 : Nat → Int → Int → Int → List ByteArray → ByteArray → List (Int × ByteArray × ByteArray) → Int → ByteArray → List (Int × ByteArray × ByteArray) → Int → ByteArray → List (Int × ByteArray × ByteArray) → Int → Bool → Option (Bool)
 | 0, _, _, _, _, _, _, _, _, _, _, _, _, _, _ => none
 | k + 1, x3_0, x3_1, x3_2, x3_3, x4_0, x4_1, x5, x6_0, x6_1, x7, x8_0, x8_1, x9, x53 => (if x53 = true then (if x7 = x9 then ((laws_sameDev.f k x6_0 x6_1 x8_0 x8_1).bind fun t8 => (some t8)) else (some false)) else ((spec_Seen.f k x4_0 x4_1).bind fun t9 => ((spec_LogOf.f k x3_0 x3_1 x3_2 x3_3 t9).bind fun t10 => ((impl_Seen.f k x6_0 x6_1).bind fun t11 => ((impl_LogOf.f k x3_0 x3_1 x3_2 x3_3 t11).bind fun t12 => (laws_FnNoted.p34 k x3_0 x3_1 x3_2 x3_3 x4_0 x4_1 x5 x6_0 x6_1 t10.1 t12.1 t12.2 0 0))))))
def laws_FnNoted.p34 : Nat → Int → Int → Int → List ByteArray → ByteArray → List (Int × ByteArray × ByteArray) → Int → ByteArray → List (Int × ByteArray × ByteArray) → List (Int × Int × Int × ByteArray) → List (Int × Int × Int × ByteArray) → Bool → Int → Int → Option (Bool)
 | 0, _, _, _, _, _, _, _, _, _, _, _, _, _, _ => none
 | k + 1, x3_0, x3_1, x3_2, x3_3, x4_0, x4_1, x5, x6_0, x6_1, x10, x12, x13, x14, x15 => (if x15 < (x12.length : Int) then (if 0 ≤ x15 then (if x15 < (x12.length : Int) then (if (rdOf (0, (0, (0, ByteArray.empty))) x12 x15).2.2.1 = x5 then (laws_FnNoted.p34 k x3_0 x3_1 x3_2 x3_3 x4_0 x4_1 x5 x6_0 x6_1 x10 x12 x13 (wrap64 (x14 + 1)) (wrap64 (x15 + 1))) else (laws_FnNoted.p34 k x3_0 x3_1 x3_2 x3_3 x4_0 x4_1 x5 x6_0 x6_1 x10 x12 x13 x14 (wrap64 (x15 + 1)))) else none) else none) else (if (x12.length : Int) > 0 then (if (x12.length : Int) = (x10.length : Int) then (laws_FnNoted.p51 k x3_0 x3_1 x3_2 x3_3 x4_0 x4_1 x5 x6_0 x6_1 x10 x12 x13 x14 true) else (if 0 ≤ (wrap64 ((x12.length : Int) - 1)) then (if (wrap64 ((x12.length : Int) - 1)) < (x12.length : Int) then (if (rdOf (0, (0, (0, ByteArray.empty))) x12 (wrap64 ((x12.length : Int) - 1))).2.2.1 = x5 then (if 0 ≤ (wrap64 ((x12.length : Int) - 1)) then (if (wrap64 ((x12.length : Int) - 1)) < (x12.length : Int) then ((spec_Seen.f k x4_0 x4_1).bind fun t6 => ((impl_Half.f t6 x5).bind fun t7 => (laws_FnNoted.p51 k x3_0 x3_1 x3_2 x3_3 x4_0 x4_1 x5 x6_0 x6_1 x10 x12 x13 x14 (decide ((rdOf (0, (0, (0, ByteArray.empty))) x12 (wrap64 ((x12.length : Int) - 1))).2.2.2.toList = t7.toList))))) else none) else none) else (laws_FnNoted.p51 k x3_0 x3_1 x3_2 x3_3 x4_0 x4_1 x5 x6_0 x6_1 x10 x12 x13 x14 false)) else none) else none)) else (laws_FnNoted.p51 k x3_0 x3_1 x3_2 x3_3 x4_0 x4_1 x5 x6_0 x6_1 x10 x12 x13 x14 false)))
def laws_FnNoted.p51 : Nat → Int → Int → Int → List ByteArray → ByteArray → List (Int × ByteArray × ByteArray) → Int → ByteArray → List (Int × ByteArray × ByteArray) → List (Int × Int × Int × ByteArray) → List (Int × Int × Int × ByteArray) → Bool → Int → Bool → Option (Bool)
 | 0, _, _, _, _, _, _, _, _, _, _, _, _, _, _ => none
 | k + 1, x3_0, x3_1, x3_2, x3_3, x4_0, x4_1, x5, x6_0, x6_1, x10, x12, x13, x14, x16 => ((impl_Noted.f k x3_0 x3_1 x3_2 x3_3 x6_0 x6_1 x5).bind fun t13 => (if x13 = true then (if x14 = 1 then (if x16 = true then (if (x12.length : Int) ≤ (wrap64 ((x10.length : Int) + 1)) then ((impl_Seen.f k x6_0 x6_1).bind fun t14 => ((laws_data.f x3_0 x3_1 x3_2 x3_3 t14).bind fun t15 => ((spec_Seen.f k x4_0 x4_1).bind fun t16 => ((laws_data.f x3_0 x3_1 x3_2 x3_3 t16).bind fun t17 => (if t15.toList = t17.toList then (if t13.2.2 = 0 then ((laws_sameDev.f k t13.1 t13.2.1 x6_0 x6_1).bind fun t18 => (some t18)) else (some false)) else (some false)))))) else (some false)) else (some false)) else (some false)) else (some false)))
end
def laws_FnNoted.f (k : Nat) (a0 : List Int) : Option (Bool) := ((laws_big.f a0).bind fun t1 => (if t1 = true then (some true) else ((spec_DrawNoted.f k a0).bind fun t2 => ((impl_Noted.f k t2.1 t2.2.1 t2.2.2.1 t2.2.2.2.1 t2.2.2.2.2.1 t2.2.2.2.2.2.1 t2.2.2.2.2.2.2).bind fun t3 => ((spec_Noted.f k t2.1 t2.2.1 t2.2.2.1 t2.2.2.2.1 t2.2.2.2.2.1 t2.2.2.2.2.2.1 t2.2.2.2.2.2.2).bind fun t4 => (if t3.2.2 = t4.2.2 then ((laws_sameDev.f k t3.1 t3.2.1 t4.1 t4.2.1).bind fun t5 => (if t5 = true then (laws_FnNoted.p19 k t2.1 t2.2.1 t2.2.2.1 t2.2.2.2.1 t2.2.2.2.2.1 t2.2.2.2.2.2.1 t2.2.2.2.2.2.2 t3.1 t3.2.1 t3.2.2 t4.1 t4.2.1 t4.2.2 (!decide (t3.2.2 = 0))) else (laws_FnNoted.p19 k t2.1 t2.2.1 t2.2.2.1 t2.2.2.2.1 t2.2.2.2.2.1 t2.2.2.2.2.2.1 t2.2.2.2.2.2.2 t3.1 t3.2.1 t3.2.2 t4.1 t4.2.1 t4.2.2 true))) else (laws_FnNoted.p19 k t2.1 t2.2.1 t2.2.2.1 t2.2.2.2.1 t2.2.2.2.2.1 t2.2.2.2.2.2.1 t2.2.2.2.2.2.2 t3.1 t3.2.1 t3.2.2 t4.1 t4.2.1 t4.2.2 true)))))))
/-- What is left to show. -/
def laws_FnNoted.Pure : Prop := ∀ (x0 : List Int), Ty.ok (.sl (.int .u8)) x0 → ∃ k, laws_FnNoted.f k x0 = some true
mutual
def impl_Crash.p16 : Nat → List Int → ByteArray → ByteArray → List (Int × ByteArray × ByteArray) → Int → Int → Option (ByteArray)
 | 0, _, _, _, _, _, _ => none
 | k + 1, x1, x4_0, x5_0, x16, x17, x18 => (if x18 < x17 then (if 0 ≤ x18 then (if x18 < (x16.length : Int) then (if x18 ≥ (x1.length : Int) then (impl_Crash.p16 k x1 x4_0 x5_0 x16 x17 (wrap64 (x18 + 1))) else (if 0 ≤ x18 then (if x18 < (x1.length : Int) then (if (rd x1 x18) = 2 then ((impl_replaced.f x5_0 (wrap64 (64 * (rdOf (0, (ByteArray.empty, ByteArray.empty)) x16 x18).1)) (rdOf (0, (ByteArray.empty, ByteArray.empty)) x16 x18).2.1).bind fun t2 => (impl_Crash.p16 k x1 x4_0 t2 x16 x17 (wrap64 (x18 + 1)))) else (if 0 ≤ x18 then (if x18 < (x1.length : Int) then (if (rd x1 x18) = 1 then (impl_Crash.p38 k x1 x4_0 x5_0 (rdOf (0, (ByteArray.empty, ByteArray.empty)) x16 x18).1 (rdOf (0, (ByteArray.empty, ByteArray.empty)) x16 x18).2.1 (rdOf (0, (ByteArray.empty, ByteArray.empty)) x16 x18).2.2 x16 x17 x18 (!decide ((rdOf (0, (ByteArray.empty, ByteArray.empty)) x16 x18).2.2.toList = (⟨#[]⟩ : ByteArray).toList))) else (impl_Crash.p38 k x1 x4_0 x5_0 (rdOf (0, (ByteArray.empty, ByteArray.empty)) x16 x18).1 (rdOf (0, (ByteArray.empty, ByteArray.empty)) x16 x18).2.1 (rdOf (0, (ByteArray.empty, ByteArray.empty)) x16 x18).2.2 x16 x17 x18 false)) else none) else none)) else none) else none)) else none) else none) else (some x5_0))
def impl_Crash.p38 : Nat → List Int → ByteArray → ByteArray → Int → ByteArray → ByteArray → List (Int × ByteArray × ByteArray) → Int → Int → Bool → Option (ByteArray)
 | 0, _, _, _, _, _, _, _, _, _, _ => none
 | k + 1, x1, x4_0, x5_0, x7_0, x7_1, x7_2, x16, x17, x18, x43 => (if x43 = true then ((impl_replaced.f x5_0 (wrap64 (64 * x7_0)) x7_2).bind fun t3 => (impl_Crash.p16 k x1 x4_0 t3 x16 x17 (wrap64 (x18 + 1)))) else (impl_Crash.p16 k x1 x4_0 x5_0 x16 x17 (wrap64 (x18 + 1))))
end
def impl_Crash.f (k : Nat) (a0_0 : ByteArray) (a0_1 : List (Int × ByteArray × ByteArray)) (a1 : List Int) : Option (ByteArray) := ((impl_DeviceOk.f k a0_0 a0_1).bind fun t1 => (if t1 = true then (impl_Crash.p16 k a1 (⟨#[]⟩ : ByteArray) a0_0 a0_1 (a0_1.length : Int) 0) else (some (⟨#[]⟩ : ByteArray))))
end
end Go.Proofs.YtmciidoohbmipaaGreatDoor.Abs
namespace Go.Proofs.YtmciidoohbmipaaGreatDoor.Abs
open Go Go.RowKit
set_option linter.unusedVariables false
set_option linter.unusedSectionVars false
set_option linter.unusedSimpArgs false
theorem l1In_f (a lo hi : Int) : spec_l1In.f a lo hi = some (decide (lo ≤ a) && decide (a ≤ hi)) := by
  unfold spec_l1In.f
  split
  · rename_i h; simp [show lo ≤ a from h]
  · rename_i h; have : ¬ lo ≤ a := h; simp [this]
theorem within_f (a lo hi : Int) : impl_within.f a lo hi = some (decide (lo ≤ a) && decide (a ≤ hi)) := by
  unfold impl_within.f
  split
  · rename_i h; simp [show lo ≤ a from h]
  · rename_i h; have : ¬ lo ≤ a := h; simp [this]
end Go.Proofs.YtmciidoohbmipaaGreatDoor.Abs
namespace Go.Proofs.YtmciidoohbmipaaGreatDoor.Abs.Pu
open Go Go.RowKit
set_option linter.unusedVariables false
set_option linter.unusedSectionVars false
set_option linter.unusedSimpArgs false
abbrev Line := Int × ByteArray × ByteArray
abbrev Dev := ByteArray × List Line
abbrev ln0 : Line := (0, (ByteArray.empty, ByteArray.empty))
def allF (p : Nat → Bool) : Nat → Nat → Bool
  | 0, _ => true
  | d + 1, i => p i && allF p d (i + 1)
theorem allF_succ (p : Nat → Bool) (d i : Nat) : allF p (d + 1) i = (p i && allF p d (i + 1)) := rfl
theorem allF_iff (p : Nat → Bool) : ∀ (d i : Nat), allF p d i = true ↔ ∀ j, i ≤ j → j < i + d → p j = true
  | 0, i => ⟨fun _ j h1 h2 => by omega, fun _ => rfl⟩
  | d + 1, i => by
    unfold allF
    rw [Bool.and_eq_true, allF_iff p d (i + 1)]
    constructor
    · rintro ⟨h1, h2⟩ j h3 h4
      by_cases e : j = i
      · rw [e]; exact h1
      · exact h2 j (by omega) (by omega)
    · exact fun h => ⟨h i (Nat.le_refl _) (by omega), fun j h1 h2 => h j (by omega) (by omega)⟩
def atL (l : List Line) (i : Nat) : Line := rdOf ln0 l (i : Int)
/-- Is the line at place i right? -/
def lnB (n : Int) (l : List Line) (i : Nat) : Bool :=
  (decide (0 ≤ (atL l i).1) && decide ((atL l i).1 ≤ n - 1)) && ((decide (i = 0) || decide ((atL l (i - 1)).1 < (atL l i).1)) && (decide (((atL l i).2.1.size : Int) = 64) && (decide (((atL l i).2.2.size : Int) = 64) || decide ((atL l i).2.2 = (⟨#[]⟩ : ByteArray)))))
def devB (d : Dev) : Bool := decide (d.1.size % 64 = 0) && ((decide (1 ≤ ((d.1.size / 64 : Nat) : Int)) && decide (((d.1.size / 64 : Nat) : Int) ≤ 128)) && allF (lnB ((d.1.size / 64 : Nat) : Int) d.2) d.2.length 0)
structure LnP (n : Nat) (x : Line) : Prop where
  lo : 0 ≤ x.1
  hi : x.1 < n
  data : x.2.1.size = 64
  sent : x.2.2.size = 64 ∨ x.2.2 = (⟨#[]⟩ : ByteArray)
structure DevP (n : Nat) (d : Dev) : Prop where
  size : d.1.size = 64 * n
  lo : 1 ≤ n
  hi : n ≤ 128
  lines : ∀ x ∈ d.2, LnP n x
  sorted : d.2.Pairwise fun x y => x.1 < y.1
theorem sorted_steps {l : List Line} (h : ∀ i (hi : i < l.length), 0 < i → (l[i - 1]'(by omega)).1 < l[i].1) : l.Pairwise fun x y => x.1 < y.1 := by
  rw [List.pairwise_iff_getElem]
  intro i j hi hj hij
  have key : ∀ d (hd : i + 1 + d < l.length), l[i].1 < l[i + 1 + d].1 := by
    intro d
    induction d with
    | zero => intro hd; exact h (i + 1) hd (by omega)
    | succ d ih => intro hd; exact Int.lt_trans (ih (by omega)) (h (i + 1 + (d + 1)) hd (by omega))
  have := key (j - i - 1) (by omega)
  have e : i + 1 + (j - i - 1) = j := by omega
  simp only [e] at this
  exact this
theorem devB_iff (d : Dev) : devB d = true ↔ ∃ n, DevP n d := by
  unfold devB
  simp only [Bool.and_eq_true, decide_eq_true_eq, allF_iff]
  constructor
  · rintro ⟨h1, ⟨h2, h3⟩, h4⟩
    have hln : ∀ i (hi : i < d.2.length), lnB ((d.1.size / 64 : Nat) : Int) d.2 i = true := fun i hi => h4 i (Nat.zero_le _) (by omega)
    have hg : ∀ i (hi : i < d.2.length), atL d.2 i = d.2[i] := fun i hi => rdg hi
    refine ⟨d.1.size / 64, by omega, by omega, by omega, fun x hx => ?_, sorted_steps fun i hi h0 => ?_⟩
    · obtain ⟨i, hi, rfl⟩ := List.getElem_of_mem hx
      have := hln i hi
      unfold lnB at this
      rw [hg i hi] at this
      simp only [Bool.and_eq_true, Bool.or_eq_true, decide_eq_true_eq] at this
      exact ⟨this.1.1, by omega, by omega, this.2.2.2.imp (fun h => by omega) id⟩
    · have := hln i hi
      unfold lnB at this
      rw [hg i hi, hg (i - 1) (by omega)] at this
      simp only [Bool.and_eq_true, Bool.or_eq_true, decide_eq_true_eq] at this
      exact this.2.1.resolve_left (by omega)
  · rintro ⟨n, h1, h2, h3, h4, h5⟩
    have hn : d.1.size / 64 = n := by omega
    rw [hn]
    refine ⟨by omega, ⟨by omega, by omega⟩, fun i _ hi => ?_⟩
    have hi : i < d.2.length := by omega
    have hg : ∀ i (hi : i < d.2.length), atL d.2 i = d.2[i] := fun i hi => rdg hi
    obtain ⟨a1, a2, a3, a4⟩ := h4 _ (List.getElem_mem hi)
    unfold lnB
    rw [hg i hi]
    simp only [Bool.and_eq_true, Bool.or_eq_true, decide_eq_true_eq]
    refine ⟨⟨a1, by omega⟩, ?_, by omega, a4.imp (fun h => by omega) id⟩
    by_cases h0 : i = 0
    · exact .inl h0
    · right
      rw [hg (i - 1) (by omega)]
      exact List.pairwise_iff_getElem.1 h5 (i - 1) i (by omega) hi (by omega)
theorem count_i (d : Dev) (h : d.1.size ≤ 1099511627776) : wrap64 (Int.tdiv (d.1.size : Int) 64) = ((d.1.size / 64 : Nat) : Int) := by
  rw [Int.tdiv_eq_ediv_of_nonneg (by omega), w64 (by omega) (by omega)]
  omega
theorem empty_eq (t : ByteArray) : (t.toList = (⟨#[]⟩ : ByteArray).toList) = (t = (⟨#[]⟩ : ByteArray)) := propext toList_inj
theorem spec_DeviceOk_ev (d : Dev) (h : d.1.size ≤ 1099511627776) (hl : d.2.length ≤ 1048576) : Ev (fun k => spec_DeviceOk.f k d.1 d.2) (devB d) := by
  have hc := count_i d h
  unfold spec_DeviceOk.f spec_l2Count.f devB
  have hm : Int.tmod (d.1.size : Int) 64 = ((d.1.size % 64 : Nat) : Int) := by rw [Int.tmod_eq_emod_of_nonneg (by omega)]; omega
  rw [hm]
  by_cases h0 : d.1.size % 64 = 0
  rotate_left
  · rw [decide_eq_false h0, Bool.false_and]
    exact Ev.neg (by omega) (Ev.eq rfl)
  rw [decide_eq_true h0, Bool.true_and]
  refine Ev.pos (by omega) (Ev.bindo rfl (Ev.bindo (l1In_f _ _ _) ?_))
  rw [hc]
  refine Ev.cases (fun h1 => ?_) (fun h1 => by rw [Bool.eq_false_iff.2 h1, Bool.false_and]; exact Ev.eq rfl)
  rw [h1, Bool.true_and]
  simp only [Bool.and_eq_true, decide_eq_true_eq] at h1
  generalize hn : d.1.size / 64 = n at *
  have key : ∀ i, i ≤ d.2.length → Ev (fun k => spec_DeviceOk.p14 k d.1 d.2 (i : Int)) (allF (lnB (n : Int) d.2) (d.2.length - i) i) := by
    refine down ?_ ?_
    · refine Ev.step (fun k => by rw [spec_DeviceOk.p14]) ?_
      rw [Nat.sub_self]
      exact Ev.neg (by omega) (Ev.eq rfl)
    · intro i hi ih
      have hs : d.2.length - i = (d.2.length - (i + 1)) + 1 := by omega
      rw [hs, allF_succ]
      generalize allF (lnB (n : Int) d.2) (d.2.length - (i + 1)) (i + 1) = rest at *
      unfold lnB
      refine Ev.step (fun k => by rw [spec_DeviceOk.p14]) ?_
      unfold spec_l2Count.f
      show Ev (fun k => if (i : Int) < (d.2.length : Int) then _ else _) _
      refine Ev.pos (by omega) (Ev.pos (by omega) (Ev.pos (by omega) (Ev.bindo rfl ?_)))
      rw [hc, w64s (i := i) (by omega), w64 (x := (n : Int) - 1) (by omega) (by omega)]
      refine Ev.bindo (l1In_f _ _ _) ?_
      show Ev (fun k => if (decide (0 ≤ (atL d.2 i).1) && decide ((atL d.2 i).1 ≤ (n : Int) - 1)) = true then _ else _) _
      refine Ev.cases (fun h2 => ?_) (fun h2 => by rw [Bool.eq_false_iff.2 h2, Bool.false_and, Bool.false_and]; exact Ev.eq rfl)
      rw [h2, Bool.true_and]
      have tail : Ev (fun k => if ((atL d.2 i).2.1.size : Int) = 64 then (if ((atL d.2 i).2.2.size : Int) = 64 then (spec_DeviceOk.p14 k d.1 d.2 ((i + 1 : Nat) : Int)) else (if (atL d.2 i).2.2.toList = (⟨#[]⟩ : ByteArray).toList then (spec_DeviceOk.p14 k d.1 d.2 ((i + 1 : Nat) : Int)) else (some false))) else (some false)) ((decide (((atL d.2 i).2.1.size : Int) = 64) && (decide (((atL d.2 i).2.2.size : Int) = 64) || decide ((atL d.2 i).2.2 = (⟨#[]⟩ : ByteArray)))) && rest) := by
        refine Ev.cases (fun h3 => ?_) (fun h3 => by rw [decide_eq_false h3, Bool.false_and, Bool.false_and]; exact Ev.eq rfl)
        rw [decide_eq_true h3, Bool.true_and]
        refine Ev.cases (fun h4 => by rw [decide_eq_true h4, Bool.true_or, Bool.true_and]; exact ih) (fun h4 => ?_)
        rw [decide_eq_false h4, Bool.false_or]
        refine Ev.cases (fun h5 => ?_) (fun h5 => ?_)
        · rw [decide_eq_true (toList_inj.1 h5), Bool.true_and]; exact ih
        · rw [decide_eq_false (fun e => h5 (toList_inj.2 e)), Bool.false_and]; exact Ev.eq rfl
      by_cases hi0 : i = 0
      · rw [decide_eq_true hi0, Bool.true_or, Bool.true_and]
        exact Ev.neg (by omega) tail
      rw [decide_eq_false hi0, Bool.false_or]
      rw [show wrap64 ((i : Int) - 1) = ((i - 1 : Nat) : Int) from by rw [w64 (by omega) (by omega)]; omega]
      refine Ev.pos (by omega) (Ev.pos (by omega) (Ev.pos (by omega) ?_))
      show Ev (fun k => if (atL d.2 i).1 ≤ (atL d.2 (i - 1)).1 then _ else _) _
      by_cases h3 : (atL d.2 i).1 ≤ (atL d.2 (i - 1)).1
      · rw [decide_eq_false (show ¬ (atL d.2 (i - 1)).1 < (atL d.2 i).1 by omega), Bool.false_and, Bool.false_and]
        exact Ev.pos h3 (Ev.eq rfl)
      · rw [decide_eq_true (show (atL d.2 (i - 1)).1 < (atL d.2 i).1 by omega), Bool.true_and]
        exact Ev.neg h3 tail
  have h2 := key 0 (Nat.zero_le _)
  rw [Nat.sub_zero] at h2
  exact h2
theorem impl_has_f (d : Dev) (h : d.1.size ≤ 1099511627776) (L : Int) : _impl_Device_has.f d.1 d.2 L = some (decide (0 ≤ L) && decide (L ≤ ((d.1.size / 64 : Nat) : Int) - 1)) := by
  unfold _impl_Device_has.f
  rw [count_i d h, w64 (by omega) (by omega), within_f, Option.bind_some]
theorem impl_DeviceOk_ev (d : Dev) (h : d.1.size ≤ 1099511627776) (hl : d.2.length ≤ 1048576) : Ev (fun k => impl_DeviceOk.f k d.1 d.2) (devB d) := by
  have hc := count_i d h
  unfold impl_DeviceOk.f devB
  have hm : Int.tmod (d.1.size : Int) 64 = ((d.1.size % 64 : Nat) : Int) := by rw [Int.tmod_eq_emod_of_nonneg (by omega)]; omega
  rw [hm]
  by_cases h0 : d.1.size % 64 = 0
  rotate_left
  · rw [decide_eq_false h0, Bool.false_and]
    exact Ev.neg (by omega) (Ev.eq rfl)
  rw [decide_eq_true h0, Bool.true_and]
  refine Ev.pos (by omega) (Ev.bindo (within_f _ _ _) ?_)
  rw [hc]
  refine Ev.cases (fun h1 => ?_) (fun h1 => by rw [Bool.eq_false_iff.2 h1, Bool.false_and]; exact Ev.eq rfl)
  rw [h1, Bool.true_and]
  simp only [Bool.and_eq_true, decide_eq_true_eq] at h1
  generalize hn : d.1.size / 64 = n at *
  have key : ∀ i, i ≤ d.2.length → Ev (fun k => impl_DeviceOk.p14 k d.1 d.2 d.2 (d.2.length : Int) (i : Int)) (allF (lnB (n : Int) d.2) (d.2.length - i) i) := by
    refine down ?_ ?_
    · refine Ev.step (fun k => by rw [impl_DeviceOk.p14]) ?_
      rw [Nat.sub_self]
      exact Ev.neg (by omega) (Ev.eq rfl)
    · intro i hi ih
      have hs : d.2.length - i = (d.2.length - (i + 1)) + 1 := by omega
      rw [hs, allF_succ]
      generalize allF (lnB (n : Int) d.2) (d.2.length - (i + 1)) (i + 1) = rest at *
      unfold lnB
      refine Ev.step (fun k => by rw [impl_DeviceOk.p14]) ?_
      refine Ev.pos (by omega) (Ev.pos (by omega) (Ev.pos (by omega) (Ev.bindo (impl_has_f d h _) ?_)))
      rw [hn, w64s (i := i) (by omega)]
      show Ev (fun k => if (decide (0 ≤ (atL d.2 i).1) && decide ((atL d.2 i).1 ≤ (n : Int) - 1)) = true then _ else _) _
      refine Ev.cases (fun h2 => ?_) (fun h2 => by rw [Bool.eq_false_iff.2 h2, Bool.false_and, Bool.false_and]; exact Ev.eq rfl)
      rw [h2, Bool.true_and]
      have tail : Ev (fun k => if ((atL d.2 i).2.1.size : Int) = 64 then (if ((atL d.2 i).2.2.size : Int) = 64 then (impl_DeviceOk.p14 k d.1 d.2 d.2 (d.2.length : Int) ((i + 1 : Nat) : Int)) else (if (atL d.2 i).2.2.toList = (⟨#[]⟩ : ByteArray).toList then (impl_DeviceOk.p14 k d.1 d.2 d.2 (d.2.length : Int) ((i + 1 : Nat) : Int)) else (some false))) else (some false)) ((decide (((atL d.2 i).2.1.size : Int) = 64) && (decide (((atL d.2 i).2.2.size : Int) = 64) || decide ((atL d.2 i).2.2 = (⟨#[]⟩ : ByteArray)))) && rest) := by
        refine Ev.cases (fun h3 => ?_) (fun h3 => by rw [decide_eq_false h3, Bool.false_and, Bool.false_and]; exact Ev.eq rfl)
        rw [decide_eq_true h3, Bool.true_and]
        refine Ev.cases (fun h4 => by rw [decide_eq_true h4, Bool.true_or, Bool.true_and]; exact ih) (fun h4 => ?_)
        rw [decide_eq_false h4, Bool.false_or]
        refine Ev.cases (fun h5 => ?_) (fun h5 => ?_)
        · rw [decide_eq_true (toList_inj.1 h5), Bool.true_and]; exact ih
        · rw [decide_eq_false (fun e => h5 (toList_inj.2 e)), Bool.false_and]; exact Ev.eq rfl
      by_cases hi0 : i = 0
      · rw [decide_eq_true hi0, Bool.true_or, Bool.true_and]
        exact Ev.neg (by omega) tail
      rw [decide_eq_false hi0, Bool.false_or]
      rw [show wrap64 ((i : Int) - 1) = ((i - 1 : Nat) : Int) from by rw [w64 (by omega) (by omega)]; omega]
      refine Ev.pos (by omega) (Ev.pos (by omega) (Ev.pos (by omega) ?_))
      show Ev (fun k => if (atL d.2 i).1 ≤ (atL d.2 (i - 1)).1 then _ else _) _
      by_cases h3 : (atL d.2 i).1 ≤ (atL d.2 (i - 1)).1
      · rw [decide_eq_false (show ¬ (atL d.2 (i - 1)).1 < (atL d.2 i).1 by omega), Bool.false_and, Bool.false_and]
        exact Ev.pos h3 (Ev.eq rfl)
      · rw [decide_eq_true (show (atL d.2 (i - 1)).1 < (atL d.2 i).1 by omega), Bool.true_and]
        exact Ev.neg h3 tail
  have h2 := key 0 (Nat.zero_le _)
  rw [Nat.sub_zero] at h2
  exact h2
end Go.Proofs.YtmciidoohbmipaaGreatDoor.Abs.Pu
namespace Go.Proofs.YtmciidoohbmipaaGreatDoor.Abs.Pu
open Go Go.RowKit
set_option linter.unusedVariables false
set_option linter.unusedSectionVars false
set_option linter.unusedSimpArgs false
theorem spec_l2With_f (s t : ByteArray) (p : Nat) (h : p + t.size ≤ s.size) (hs : s.size ≤ 140737488355328) : spec_l2With.f s (p : Int) t = some (replB s p t) := by
  have h1 : wrap64 ((p : Int) + (t.size : Int)) = ((p + t.size : Nat) : Int) := by rw [w64 (by omega) (by omega)]; omega
  unfold spec_l2With.f replB
  rw [h1]
  simp only [Int.toNat_natCast, ByteArray.size_append, ByteArray.size_extract]
  rw [if_pos (by omega), if_pos (by omega), if_pos (by omega), if_pos (by omega), if_pos (by omega), if_pos (by omega)]
theorem impl_replaced_f (s t : ByteArray) (p : Nat) (h : p + t.size ≤ s.size) (hs : s.size ≤ 140737488355328) : impl_replaced.f s (p : Int) t = some (replB s p t) := by
  have h1 : wrap64 ((p : Int) + (t.size : Int)) = ((p + t.size : Nat) : Int) := by rw [w64 (by omega) (by omega)]; omega
  unfold impl_replaced.f replB
  rw [h1]
  simp only [Int.toNat_natCast, ByteArray.size_append, ByteArray.size_extract]
  rw [if_pos (by omega), if_pos (by omega), if_pos (by omega), if_pos (by omega), if_pos (by omega), if_pos (by omega)]
end Go.Proofs.YtmciidoohbmipaaGreatDoor.Abs.Pu
namespace Go.Proofs.YtmciidoohbmipaaGreatDoor.Abs.Pu
open Go Go.RowKit
set_option linter.unusedVariables false
set_option linter.unusedSectionVars false
set_option linter.unusedSimpArgs false
def put64 (s : ByteArray) (x : Int) (t : ByteArray) : ByteArray := replB s (64 * x.toNat) t
def picked (x : Line) (k : Int) (s : ByteArray) : ByteArray := if k = 2 then put64 s x.1 x.2.1 else if k = 1 then put64 s x.1 x.2.2 else s
def pickF : List Line → List Int → ByteArray → ByteArray
  | x :: l, k :: ks, s => pickF l ks (picked x k s)
  | [], _, s => s
  | _ :: _, [], s => s
theorem LnP.fits {n : Nat} {x : Line} (h : LnP n x) {s : ByteArray} (hs : s.size = 64 * n) : 64 * x.1.toNat + 64 ≤ s.size := by
  have := h.lo
  have := h.hi
  omega
theorem LnP.sent64 {n : Nat} {x : Line} (h : LnP n x) : x.2.2.size ≤ 64 := by
  rcases h.sent with h | h
  · omega
  · rw [h]; exact Nat.zero_le _
theorem LnP.w {n : Nat} {x : Line} (h : LnP n x) (hn : n ≤ 1048576) : wrap64 (64 * x.1) = ((64 * x.1.toNat : Nat) : Int) := by
  have := h.lo
  have := h.hi
  rw [w64 (by omega) (by omega)]
  omega
theorem put64_size {n : Nat} {x : Line} (h : LnP n x) {s t : ByteArray} (hs : s.size = 64 * n) (ht : t.size ≤ 64) : (put64 s x.1 t).size = 64 * n := by
  have := h.fits hs
  unfold put64
  rw [repl_size (by omega), hs]
theorem picked_size {n : Nat} {x : Line} (h : LnP n x) {s : ByteArray} (hs : s.size = 64 * n) (k : Int) : (picked x k s).size = 64 * n := by
  unfold picked
  split
  · exact put64_size h hs (by have := h.data; omega)
  · split
    · exact put64_size h hs h.sent64
    · exact hs
theorem pickF_size {n : Nat} : ∀ (l : List Line) (ks : List Int) {s : ByteArray}, (∀ x ∈ l, LnP n x) → s.size = 64 * n → (pickF l ks s).size = 64 * n
  | [], _, _, _, hs => hs
  | _ :: _, [], _, _, hs => hs
  | x :: l, k :: ks, s, h, hs => pickF_size l ks (fun y hy => h y (List.mem_cons_of_mem _ hy)) (picked_size (h x List.mem_cons_self) hs k)
/-- What is left of a line. -/
def choice (x : Line) (k : Int) (old : ByteArray) : ByteArray := if k = 2 then x.2.1 else if k = 1 then (if x.2.2 = (⟨#[]⟩ : ByteArray) then old else x.2.2) else old
theorem picked_line {n : Nat} {x : Line} (h : LnP n x) {s : ByteArray} (hs : s.size = 64 * n) (k : Int) (L : Nat) (hL : L < n) : lineB (picked x k s) L = if L = x.1.toNat then choice x k (lineB s L) else lineB s L := by
  have hf := h.fits hs
  unfold picked choice
  by_cases k2 : k = 2
  · rw [if_pos k2, if_pos k2]
    exact lineB_repl h.data hf (by omega)
  rw [if_neg k2, if_neg k2]
  by_cases k1 : k = 1
  · rw [if_pos k1, if_pos k1]
    by_cases e : x.2.2 = (⟨#[]⟩ : ByteArray)
    · rw [if_pos e]
      unfold put64
      rw [e, repl_none (by omega)]
      split <;> rfl
    · rw [if_neg e]
      exact lineB_repl (h.sent.resolve_right e) hf (by omega)
  · rw [if_neg k1, if_neg k1]
    split <;> rfl
theorem pick_other {n : Nat} : ∀ (l : List Line) (ks : List Int) {s : ByteArray} (L : Nat), (∀ x ∈ l, LnP n x) → s.size = 64 * n → L < n → (∀ x ∈ l, x.1 ≠ (L : Int)) → lineB (pickF l ks s) L = lineB s L
  | [], _, _, _, _, _, _, _ => rfl
  | _ :: _, [], _, _, _, _, _, _ => rfl
  | x :: l, k :: ks, s, L, h, hs, hL, ho => by
    have hx := h x List.mem_cons_self
    show lineB (pickF l ks (picked x k s)) L = _
    rw [pick_other l ks L (fun y hy => h y (List.mem_cons_of_mem _ hy)) (picked_size hx hs k) hL (fun y hy => ho y (List.mem_cons_of_mem _ hy)), picked_line hx hs k L hL, if_neg]
    have := ho x List.mem_cons_self
    have := hx.lo
    omega
theorem pick_at {n : Nat} : ∀ (l : List Line) (ks : List Int) {s : ByteArray} (j : Nat) (hj : j < l.length), (∀ x ∈ l, LnP n x) → (l.Pairwise fun x y => x.1 < y.1) → s.size = 64 * n → lineB (pickF l ks s) (l[j].1.toNat) = choice l[j] (ks.getD j 0) (lineB s l[j].1.toNat)
  | [], _, _, j, hj, _, _, _ => by simp at hj
  | x :: l, [], s, j, hj, h, hp, hs => by
    show lineB s _ = _
    simp [choice]
  | x :: l, k :: ks, s, 0, hj, h, hp, hs => by
    have hx := h x List.mem_cons_self
    have hlo := hx.lo
    have hhi := hx.hi
    rw [List.pairwise_cons] at hp
    show lineB (pickF l ks (picked x k s)) x.1.toNat = choice x k (lineB s x.1.toNat)
    rw [pick_other l ks _ (fun y hy => h y (List.mem_cons_of_mem _ hy)) (picked_size hx hs k) (by omega) (fun y hy => by have := hp.1 y hy; omega), picked_line hx hs k _ (by omega), if_pos rfl]
  | x :: l, k :: ks, s, j + 1, hj, h, hp, hs => by
    have hx := h x List.mem_cons_self
    rw [List.pairwise_cons] at hp
    have hj' : j < l.length := by simpa using hj
    have hm : l[j] ∈ l := List.getElem_mem hj'
    have hy := h _ (List.mem_cons_of_mem _ hm)
    have hlt := hp.1 _ hm
    have hlo := hx.lo
    have h1 := hy.lo
    have h2 := hy.hi
    show lineB (pickF l ks (picked x k s)) (l[j].1.toNat) = choice l[j] (ks.getD j 0) (lineB s l[j].1.toNat)
    rw [pick_at l ks j hj' (fun y hy => h y (List.mem_cons_of_mem _ hy)) hp.2 (picked_size hx hs k), picked_line hx hs k _ (by omega), if_neg (by omega)]
def crashR (d : Dev) (ks : List Int) : ByteArray := if devB d = true then pickF d.2 ks d.1 else ⟨#[]⟩
theorem rdk {ks : List Int} {i : Nat} (h : i < ks.length) : rd ks (i : Int) = ks[i] := rd_get h
theorem impl_Crash_ev (d : Dev) (ks : List Int) (h : d.1.size ≤ 1099511627776) (hl : d.2.length ≤ 1048576) (hk : ks.length ≤ 1048576) : Ev (fun k => impl_Crash.f k d.1 d.2 ks) (crashR d ks) := by
  unfold impl_Crash.f crashR
  refine Ev.bind (impl_DeviceOk_ev d h hl) (Ev.cases (fun h0 => ?_) (fun h0 => by rw [if_neg h0]; exact Ev.eq rfl))
  obtain ⟨n, hd⟩ := (devB_iff d).1 h0
  rw [if_pos h0]
  have hn := hd.hi
  have key : ∀ i, i ≤ d.2.length → ∀ s : ByteArray, s.size = 64 * n → Ev (fun k => impl_Crash.p16 k ks (⟨#[]⟩ : ByteArray) s d.2 (d.2.length : Int) (i : Int)) (pickF (d.2.drop i) (ks.drop i) s) := by
    refine down ?_ ?_
    · intro s hs
      refine Ev.step (fun k => by rw [impl_Crash.p16]) ?_
      rw [List.drop_eq_nil_of_le (Nat.le_refl _)]
      exact Ev.neg (by omega) (Ev.eq rfl)
    · intro i hi ih s hs
      have hg : rdOf ln0 d.2 (i : Int) = d.2[i] := rdg hi
      have hx := hd.lines _ (List.getElem_mem hi)
      have hfit := hx.fits hs
      refine Ev.step (fun k => by rw [impl_Crash.p16]) ?_
      rw [w64s (i := i) (by omega), hg, hx.w (by omega), List.drop_eq_getElem_cons hi]
      refine Ev.pos (by omega) (Ev.pos (by omega) (Ev.pos (by omega) ?_))
      by_cases c : i < ks.length
      rotate_left
      · refine Ev.pos (by omega) ?_
        have e1 : ks.drop i = [] := List.drop_eq_nil_of_le (by omega)
        have e2 : ks.drop (i + 1) = [] := List.drop_eq_nil_of_le (by omega)
        have := ih s hs
        rw [e2] at this
        rw [e1]
        cases hdr : d.2.drop (i + 1) with
        | nil => rw [hdr] at this; exact this
        | cons y q => rw [hdr] at this; exact this
      rw [List.drop_eq_getElem_cons c, rdk c]
      show Ev _ (pickF (d.2.drop (i + 1)) (ks.drop (i + 1)) (picked d.2[i] ks[i] s))
      have nx := ih _ (picked_size hx hs ks[i])
      refine Ev.neg (by omega) (Ev.pos (by omega) (Ev.pos (by omega) ?_))
      unfold picked at nx ⊢
      by_cases k2 : ks[i] = 2
      · rw [if_pos k2] at nx ⊢
        exact Ev.pos k2 (Ev.bindo (impl_replaced_f s _ _ (by have := hx.data; omega) (by omega)) nx)
      rw [if_neg k2] at nx ⊢
      refine Ev.neg k2 (Ev.pos (by omega) (Ev.pos (by omega) ?_))
      have p38 : ∀ (b : Bool) (r : ByteArray), (b = true → Ev (fun k => impl_Crash.p16 k ks (⟨#[]⟩ : ByteArray) (put64 s (d.2[i]).1 (d.2[i]).2.2) d.2 (d.2.length : Int) ((i + 1 : Nat) : Int)) r) → (b = false → Ev (fun k => impl_Crash.p16 k ks (⟨#[]⟩ : ByteArray) s d.2 (d.2.length : Int) ((i + 1 : Nat) : Int)) r) → Ev (fun k => impl_Crash.p38 k ks (⟨#[]⟩ : ByteArray) s (d.2[i]).1 (d.2[i]).2.1 (d.2[i]).2.2 d.2 (d.2.length : Int) (i : Int) b) r := by
        intro b r h1 h2
        refine Ev.step (fun k => by rw [impl_Crash.p38]) ?_
        rw [w64s (i := i) (by omega), hx.w (by omega)]
        cases b with
        | true => exact Ev.pos rfl (Ev.bindo (impl_replaced_f s _ _ (by have := hx.sent64; omega) (by omega)) (h1 rfl))
        | false => exact Ev.neg (by simp) (h2 rfl)
      by_cases k1 : ks[i] = 1
      · rw [if_pos k1] at nx ⊢
        refine Ev.pos k1 (p38 _ _ (fun _ => nx) (fun hb => ?_))
        have he : (d.2[i]).2.2 = (⟨#[]⟩ : ByteArray) := by
          have : decide ((d.2[i]).2.2.toList = (⟨#[]⟩ : ByteArray).toList) = true := by simpa using hb
          exact toList_inj.1 (of_decide_eq_true this)
        have e : put64 s (d.2[i]).1 (d.2[i]).2.2 = s := by
          unfold put64
          rw [he, repl_none (by omega)]
        rw [e] at nx ⊢
        exact nx
      · rw [if_neg k1] at nx ⊢
        exact Ev.neg k1 (p38 _ _ (fun hb => by cases hb) (fun _ => nx))
  exact key 0 (Nat.zero_le _) d.1 hd.size
end Go.Proofs.YtmciidoohbmipaaGreatDoor.Abs.Pu
namespace Go.Proofs.YtmciidoohbmipaaGreatDoor.Abs.Pu
open Go Go.RowKit
set_option linter.unusedVariables false
set_option linter.unusedSectionVars false
set_option linter.unusedSimpArgs false
theorem sorted_len {n : Nat} : ∀ (l : List Line) (lo : Nat), (∀ x ∈ l, (lo : Int) ≤ x.1 ∧ x.1 < n) → (l.Pairwise fun x y => x.1 < y.1) → l.length ≤ n - lo
  | [], _, _, _ => Nat.zero_le _
  | x :: l, lo, h, hp => by
    rw [List.pairwise_cons] at hp
    have hx := h x List.mem_cons_self
    have := sorted_len (n := n) l (lo + 1) (fun y hy => by have := hp.1 y hy; have := h y (List.mem_cons_of_mem _ hy); omega) hp.2
    rw [List.length_cons]
    omega
theorem DevP.len {n : Nat} {d : Dev} (h : DevP n d) : d.2.length ≤ n := by
  have := sorted_len (n := n) d.2 0 (fun x hx => by have := (h.lines x hx).lo; have := (h.lines x hx).hi; omega) h.sorted
  omega
/-! ### Fences -/
def fenceS : List Line → ByteArray → ByteArray
  | [], s => s
  | x :: l, s => fenceS l (put64 s x.1 x.2.2)
def fenceX (x : Line) : Option Line := if x.2.2 = x.2.1 then none else some (x.1, x.2.1, (⟨#[]⟩ : ByteArray))
def fenceL (l : List Line) : List Line := l.filterMap fenceX
def fenceR (d : Dev) : Dev := (fenceS d.2 d.1, fenceL d.2)
theorem fenceS_size {n : Nat} : ∀ (l : List Line) {s : ByteArray}, (∀ x ∈ l, LnP n x) → s.size = 64 * n → (fenceS l s).size = 64 * n
  | [], _, _, hs => hs
  | x :: l, s, h, hs => fenceS_size l (fun y hy => h y (List.mem_cons_of_mem _ hy)) (put64_size (h x List.mem_cons_self) hs (h x List.mem_cons_self).sent64)
theorem fenceL_mem {l : List Line} {y : Line} (h : y ∈ fenceL l) : ∃ x ∈ l, y = (x.1, x.2.1, (⟨#[]⟩ : ByteArray)) := by
  unfold fenceL at h
  rw [List.mem_filterMap] at h
  obtain ⟨x, hx, he⟩ := h
  unfold fenceX at he
  split at he
  · cases he
  · injection he with he
    exact ⟨x, hx, he.symm⟩
theorem fenceR_ok {n : Nat} {d : Dev} (h : DevP n d) : DevP n (fenceR d) := by
  refine ⟨fenceS_size _ h.lines h.size, h.lo, h.hi, fun y hy => ?_, ?_⟩
  · obtain ⟨x, hx, rfl⟩ := fenceL_mem hy
    have := h.lines x hx
    exact ⟨this.lo, this.hi, this.data, .inr rfl⟩
  · refine List.Pairwise.filterMap (R := fun x y : Line => x.1 < y.1) _ (fun x y hxy a ha b hb => ?_) h.sorted
    unfold fenceX at ha hb
    split at ha
    · cases ha
    · split at hb
      · cases hb
      · injection ha with ha
        injection hb with hb
        subst ha hb
        exact hxy
theorem spec_l2Fence_ev {n : Nat} {d : Dev} (h : DevP n d) : Ev (fun k => spec_l2Fence.f k d.1 d.2) (fenceR d) := by
  have hn := h.hi
  have hln := h.len
  unfold spec_l2Fence.f fenceR
  have key : ∀ i, i ≤ d.2.length → ∀ (s : ByteArray) (out : List Line), s.size = 64 * n → out.length ≤ i → Ev (fun k => spec_l2Fence.p10 k d.1 d.2 (⟨#[]⟩ : ByteArray) (bytesOf s) (⟨#[]⟩ : ByteArray) out (i : Int)) (fenceS (d.2.drop i) s, out ++ fenceL (d.2.drop i)) := by
    refine down ?_ ?_
    · intro s out hs ho
      refine Ev.step (fun k => by rw [spec_l2Fence.p10]) ?_
      rw [List.drop_eq_nil_of_le (Nat.le_refl _)]
      refine Ev.neg (by omega) (Ev.eq ?_)
      rw [strOf_eq, strOfNums_bytesOf]
      show (s, out) = (s, out ++ [])
      rw [List.append_nil]
    · intro i hi ih s out hs ho
      have hg : rdOf ln0 d.2 (i : Int) = d.2[i] := rdg hi
      have hx := h.lines _ (List.getElem_mem hi)
      have hfit := hx.fits hs
      have nx := ih (put64 s d.2[i].1 d.2[i].2.2) (out ++ (fenceX d.2[i]).toList) (put64_size hx hs hx.sent64) (by unfold fenceX; split <;> simp <;> omega)
      refine Ev.step (fun k => by rw [spec_l2Fence.p10]) ?_
      rw [w64s (i := i) (by omega), hg, hx.w (by omega), bytesOf_length, Int.toNat_natCast, cpy_repl (by have := hx.sent64; omega), List.drop_eq_getElem_cons hi]
      have e : out ++ fenceL (d.2[i] :: d.2.drop (i + 1)) = (out ++ (fenceX d.2[i]).toList) ++ fenceL (d.2.drop (i + 1)) := by
        unfold fenceL
        rw [List.filterMap_cons, List.append_assoc]
        cases fenceX d.2[i] <;> rfl
      show Ev _ (fenceS (d.2.drop (i + 1)) (put64 s d.2[i].1 d.2[i].2.2), out ++ fenceL (d.2[i] :: d.2.drop (i + 1)))
      rw [e]
      refine Ev.pos (by omega) (Ev.pos (by omega) (Ev.pos (by omega) (Ev.pos (by omega) (Ev.pos (by omega) ?_))))
      unfold fenceX at nx ⊢
      by_cases c : (d.2[i]).2.2 = (d.2[i]).2.1
      · rw [if_pos c] at nx ⊢
        refine Ev.pos (toList_inj.2 c) ?_
        rw [Option.toList_none, List.append_nil] at nx ⊢
        exact nx
      · rw [if_neg c] at nx ⊢
        exact Ev.neg (fun e => c (toList_inj.1 e)) (Ev.pos (by omega) nx)
  rw [numsOf_eq]
  have := key 0 (Nat.zero_le _) d.1 [] h.size (Nat.le_refl _)
  rw [List.drop_zero] at this
  exact this
/-! ### Evictions -/
def evictS (L : Int) : List Line → ByteArray → ByteArray
  | [], s => s
  | x :: l, s => evictS L l (if x.1 = L then put64 s x.1 x.2.1 else s)
def evictL (L : Int) (l : List Line) : List Line := l.filter fun x => decide (x.1 ≠ L)
def evictR (d : Dev) (L : Int) : Dev := (evictS L d.2 d.1, evictL L d.2)
theorem evictS_size {n : Nat} (L : Int) : ∀ (l : List Line) {s : ByteArray}, (∀ x ∈ l, LnP n x) → s.size = 64 * n → (evictS L l s).size = 64 * n
  | [], _, _, hs => hs
  | x :: l, s, h, hs => by
    refine evictS_size L l (fun y hy => h y (List.mem_cons_of_mem _ hy)) ?_
    split
    · exact put64_size (h x List.mem_cons_self) hs (by have := (h x List.mem_cons_self).data; omega)
    · exact hs
theorem evictR_ok {n : Nat} {d : Dev} (h : DevP n d) (L : Int) : DevP n (evictR d L) :=
  ⟨evictS_size L _ h.lines h.size, h.lo, h.hi, fun y hy => h.lines y (List.mem_filter.1 hy).1, h.sorted.filter _⟩
theorem spec_l2Evict_ev {n : Nat} {d : Dev} (h : DevP n d) (L : Int) : Ev (fun k => spec_l2Evict.f k d.1 d.2 L) (evictR d L) := by
  have hn := h.hi
  have hln := h.len
  unfold spec_l2Evict.f evictR
  have key : ∀ i, i ≤ d.2.length → ∀ (s : ByteArray) (out : List Line), s.size = 64 * n → out.length ≤ i → Ev (fun k => spec_l2Evict.p8 k L d.1 d.2 (⟨#[]⟩ : ByteArray) s out (i : Int)) (evictS L (d.2.drop i) s, out ++ evictL L (d.2.drop i)) := by
    refine down ?_ ?_
    · intro s out hs ho
      refine Ev.step (fun k => by rw [spec_l2Evict.p8]) ?_
      rw [List.drop_eq_nil_of_le (Nat.le_refl _)]
      refine Ev.neg (by omega) (Ev.eq ?_)
      show (s, out) = (s, out ++ [])
      rw [List.append_nil]
    · intro i hi ih s out hs ho
      have hg : rdOf ln0 d.2 (i : Int) = d.2[i] := rdg hi
      have hx := h.lines _ (List.getElem_mem hi)
      have hfit := hx.fits hs
      refine Ev.step (fun k => by rw [spec_l2Evict.p8]) ?_
      rw [w64s (i := i) (by omega), hg, List.drop_eq_getElem_cons hi]
      show Ev _ (evictS L (d.2.drop (i + 1)) (if (d.2[i]).1 = L then put64 s (d.2[i]).1 (d.2[i]).2.1 else s), out ++ evictL L (d.2[i] :: d.2.drop (i + 1)))
      refine Ev.pos (by omega) (Ev.pos (by omega) (Ev.pos (by omega) ?_))
      unfold evictL
      rw [List.filter_cons]
      by_cases c : (d.2[i]).1 = L
      · have nx := ih (put64 s (d.2[i]).1 (d.2[i]).2.1) out (put64_size hx hs (by have := hx.data; omega)) (by omega)
        have hw : wrap64 (64 * L) = ((64 * (d.2[i]).1.toNat : Nat) : Int) := by
          have := hx.w (by omega)
          rw [c] at this ⊢
          exact this
        have hp := spec_l2With_f s (d.2[i]).2.1 (64 * (d.2[i]).1.toNat) (by have := hx.data; omega) (by omega)
        rw [if_pos c, if_neg (by simp [c])]
        refine Ev.pos c ?_
        rw [hw]
        exact Ev.bindo hp nx
      · have nx := ih s (out ++ [d.2[i]]) hs (by simp; omega)
        rw [if_neg c, if_pos (by simp [c])]
        rw [List.append_assoc] at nx
        exact Ev.neg c (Ev.pos (by omega) nx)
  have := key 0 (Nat.zero_le _) d.1 [] h.size (Nat.le_refl _)
  rw [List.drop_zero] at this
  exact this
/-! ### Flushes -/
def flushX (L : Int) (x : Line) : Line := if x.1 = L then (x.1, x.2.1, x.2.1) else x
def flushR (d : Dev) (L : Int) : Dev := (d.1, d.2.map (flushX L))
theorem flushX_at (L : Int) (x : Line) : (flushX L x).1 = x.1 ∧ (flushX L x).2.1 = x.2.1 := by
  unfold flushX
  split <;> exact ⟨rfl, rfl⟩
theorem flushR_ok {n : Nat} {d : Dev} (h : DevP n d) (L : Int) : DevP n (flushR d L) := by
  refine ⟨h.size, h.lo, h.hi, fun y hy => ?_, ?_⟩
  · obtain ⟨x, hx, rfl⟩ := List.mem_map.1 hy
    have := h.lines x hx
    obtain ⟨e1, e2⟩ := flushX_at L x
    refine ⟨by rw [e1]; exact this.lo, by rw [e1]; exact this.hi, by rw [e2]; exact this.data, ?_⟩
    unfold flushX
    split
    · exact .inl this.data
    · exact this.sent
  · refine List.pairwise_map.2 (h.sorted.imp fun {x y} hxy => ?_)
    rw [(flushX_at L x).1, (flushX_at L y).1]
    exact hxy
theorem spec_l2Flush_ev {n : Nat} {d : Dev} (h : DevP n d) (L : Int) : Ev (fun k => spec_l2Flush.f k d.1 d.2 L) (flushR d L) := by
  have hn := h.hi
  have hln := h.len
  unfold spec_l2Flush.f spec_l2Copy.f flushR
  rw [if_pos (by omega), List.nil_append]
  have key : ∀ i, i ≤ d.2.length → Ev (fun k => spec_l2Flush.p8 k L (⟨#[]⟩ : ByteArray) d.1 ((d.2.take i).map (flushX L) ++ d.2.drop i) (i : Int)) (d.1, d.2.map (flushX L)) := by
    refine down ?_ ?_
    · refine Ev.step (fun k => by rw [spec_l2Flush.p8]) ?_
      rw [List.drop_eq_nil_of_le (Nat.le_refl _), List.take_of_length_le (Nat.le_refl _), List.append_nil]
      exact Ev.neg (by rw [List.length_map]; omega) (Ev.eq rfl)
    · intro i hi ih
      have hlen : ((d.2.take i).map (flushX L) ++ d.2.drop i).length = d.2.length := by rw [List.length_append, List.length_map, List.length_take, List.length_drop]; omega
      have htl : ((d.2.take i).map (flushX L)).length = i := by rw [List.length_map, List.length_take]; omega
      have hg : rdOf ln0 ((d.2.take i).map (flushX L) ++ d.2.drop i) (i : Int) = d.2[i] := by
        have h1 : i < ((d.2.take i).map (flushX L) ++ d.2.drop i).length := by omega
        have h2 : ((d.2.take i).map (flushX L) ++ d.2.drop i)[i]? = some d.2[i] := by
          rw [List.getElem?_append_right (by omega), htl, Nat.sub_self, List.getElem?_drop, Nat.add_zero, List.getElem?_eq_getElem hi]
        rw [rdg h1]
        exact Option.some.inj ((List.getElem?_eq_getElem h1).symm.trans h2)
      have nx : ∀ m, m = (d.2.take (i + 1)).map (flushX L) ++ d.2.drop (i + 1) → Ev (fun k => spec_l2Flush.p22 k L (⟨#[]⟩ : ByteArray) d.1 m (i : Int)) (d.1, d.2.map (flushX L)) := by
        rintro m rfl
        refine Ev.step (fun k => by rw [spec_l2Flush.p22]) ?_
        rw [w64s (i := i) (by omega)]
        exact ih
      have e1 : (d.2.take (i + 1)).map (flushX L) ++ d.2.drop (i + 1) = (d.2.take i).map (flushX L) ++ (flushX L d.2[i] :: d.2.drop (i + 1)) := by
        rw [take_snoc2 _ _ hi, List.map_append, List.append_assoc]
        rfl
      refine Ev.step (fun k => by rw [spec_l2Flush.p8]) ?_
      rw [hg, hlen, Int.toNat_natCast]
      refine Ev.pos (by omega) (Ev.pos (by omega) (Ev.pos (by omega) ?_))
      by_cases c : (d.2[i]).1 = L
      · refine Ev.pos c (Ev.pos (by omega) (Ev.pos (by omega) (Ev.pos (by omega) (Ev.pos (by omega) (nx _ ?_)))))
        rw [e1, List.set_append_right _ _ (by omega), htl, Nat.sub_self, List.drop_eq_getElem_cons hi, List.set_cons_zero]
        unfold flushX
        rw [if_pos c]
      · refine Ev.neg c (nx _ ?_)
        rw [e1, List.drop_eq_getElem_cons hi]
        unfold flushX
        rw [if_neg c]
  exact Ev.bindo rfl (key 0 (Nat.zero_le _))
/-! ### Stores -/
def stL (L : Int) (f : ByteArray → ByteArray) (safe : ByteArray) : List Line → List Line
  | [] => [(L, (f safe, (⟨#[]⟩ : ByteArray)))]
  | x :: l => if x.1 > L then (L, (f safe, (⟨#[]⟩ : ByteArray))) :: x :: l else if x.1 = L then (x.1, (f x.2.1, x.2.2)) :: l else x :: stL L f safe l
def storeR (d : Dev) (L p : Nat) (t : ByteArray) : Dev := (d.1, stL (L : Int) (fun s => replB s p t) (lineB d.1 L) d.2)
theorem stL_mem {L : Int} {f : ByteArray → ByteArray} {safe : ByteArray} {y : Line} : {l : List Line} → y ∈ stL L f safe l → y ∈ l ∨ (y = (L, (f safe, (⟨#[]⟩ : ByteArray)))) ∨ ∃ x ∈ l, x.1 = L ∧ y = (x.1, (f x.2.1, x.2.2))
  | [], h => by
    unfold stL at h
    exact .inr (.inl (List.mem_singleton.1 h))
  | x :: l, h => by
    unfold stL at h
    split at h
    · rcases List.mem_cons.1 h with h | h
      · exact .inr (.inl h)
      · exact .inl h
    · split at h
      · rename_i hx
        rcases List.mem_cons.1 h with h | h
        · exact .inr (.inr ⟨x, List.mem_cons_self, hx, h⟩)
        · exact .inl (List.mem_cons_of_mem _ h)
      · rcases List.mem_cons.1 h with h | h
        · exact .inl (h ▸ List.mem_cons_self)
        · rcases stL_mem h with h | h | ⟨z, hz, h⟩
          · exact .inl (List.mem_cons_of_mem _ h)
          · exact .inr (.inl h)
          · exact .inr (.inr ⟨z, List.mem_cons_of_mem _ hz, h⟩)
theorem stL_sorted {L : Int} {f : ByteArray → ByteArray} {safe : ByteArray} : {l : List Line} → (l.Pairwise fun x y => x.1 < y.1) → (stL L f safe l).Pairwise fun x y => x.1 < y.1
  | [], _ => by
    unfold stL
    exact List.pairwise_singleton _ _
  | x :: l, h => by
    unfold stL
    split
    · rename_i hx
      refine List.pairwise_cons.2 ⟨fun y hy => ?_, h⟩
      rw [List.pairwise_cons] at h
      show L < y.1
      rcases List.mem_cons.1 hy with e | hy
      · rw [e]; exact hx
      · have := h.1 y hy; omega
    · rw [List.pairwise_cons] at h
      split
      · exact List.pairwise_cons.2 ⟨h.1, h.2⟩
      · rename_i h1 h2
        refine List.pairwise_cons.2 ⟨fun y hy => ?_, stL_sorted h.2⟩
        rcases stL_mem hy with hy | e | ⟨z, hz, e, e'⟩
        · exact h.1 y hy
        · rw [e]; show x.1 < L; omega
        · rw [e']; show x.1 < z.1; omega
theorem storeR_ok {n : Nat} {d : Dev} (h : DevP n d) (L p : Nat) (t : ByteArray) (hL : L < n) (hp : p + t.size ≤ 64) : DevP n (storeR d L p t) := by
  have hz := h.size
  have hls : (lineB d.1 L).size = 64 := lineB_size (by omega)
  refine ⟨h.size, h.lo, h.hi, fun y hy => ?_, stL_sorted h.sorted⟩
  rcases stL_mem hy with hy | e | ⟨x, hx, e, e'⟩
  · exact h.lines y hy
  · rw [e]
    exact ⟨by show (0 : Int) ≤ (L : Int); omega, by show (L : Int) < n; omega, by show (replB _ p t).size = 64; rw [repl_size (by omega)]; exact hls, .inr rfl⟩
  · have := h.lines x hx
    rw [e']
    exact ⟨this.lo, this.hi, by show (replB _ p t).size = 64; rw [repl_size (by have := this.data; omega)]; exact this.data, this.sent⟩
theorem spec_l2Store_ev {n : Nat} {d : Dev} (h : DevP n d) (L p : Nat) (t : ByteArray) (hL : L < n) (hp : p + t.size ≤ 64) (hp2 : p < 64) : Ev (fun k => spec_l2Store.f k d.1 d.2 ((64 * L + p : Nat) : Int) t) (storeR d L p t) := by
  have hn := h.hi
  have hln := h.len
  have hz := h.size
  have hls : (lineB d.1 L).size = 64 := lineB_size (by omega)
  obtain ⟨w1, w2⟩ : wrap64 (64 * (L : Int)) = ((64 * L : Nat) : Int) ∧ wrap64 (wrap64 (64 * (L : Int)) + 64) = ((64 * L + 64 : Nat) : Int) := by
    have h1 : wrap64 (64 * (L : Int)) = ((64 * L : Nat) : Int) := by rw [w64 (by omega) (by omega)]; omega
    exact ⟨h1, by rw [h1, w64 (by omega) (by omega)]; omega⟩
  have ht : Int.tmod ((64 * L + p : Nat) : Int) 64 = (p : Int) := by rw [Int.tmod_eq_emod_of_nonneg (by omega)]; omega
  have hnew := spec_l2With_f (lineB d.1 L) t p (by omega) (by omega)
  unfold spec_l2Store.f storeR
  rw [show wrap64 (Int.tdiv ((64 * L + p : Nat) : Int) 64) = (L : Int) from by rw [Int.tdiv_eq_ediv_of_nonneg (by omega), w64 (by omega) (by omega)]; omega]
  have endN : ∀ (out : List Line) (A : Nat → Option (ByteArray × List Line)), out.length ≤ 200 → Ev (fun k => if 0 ≤ wrap64 (wrap64 (64 * (L : Int)) + 64) then (if wrap64 (wrap64 (64 * (L : Int)) + 64) ≤ (d.1.size : Int) then (if 0 ≤ wrap64 (64 * (L : Int)) then (if wrap64 (64 * (L : Int)) ≤ wrap64 (wrap64 (64 * (L : Int)) + 64) then ((spec_l2With.f (d.1.extract (wrap64 (64 * (L : Int))).toNat (wrap64 (wrap64 (64 * (L : Int)) + 64)).toNat) (Int.tmod ((64 * L + p : Nat) : Int) 64) t).bind fun t2 => (if out.length + 1 ≤ 3518437208883 then some (d.1, out ++ ([((L : Int), (t2, (⟨#[]⟩ : ByteArray)))] : List Line)) else none)) else none) else none) else none) else none) (d.1, out ++ [((L : Int), (replB (lineB d.1 L) p t, (⟨#[]⟩ : ByteArray)))]) := by
    intro out A ho
    rw [w2, w1, ht]
    exact Ev.pos (by omega) (Ev.pos (by omega) (Ev.pos (by omega) (Ev.pos (by omega) (Ev.bindo hnew (Ev.pos (by omega) (Ev.eq rfl))))))
  -- behind it: nothing more is turned
  have fin : ∀ i, i ≤ d.2.length → ∀ (out : List Line), out.length ≤ i + 1 → (∀ x ∈ d.2.drop i, (L : Int) < x.1) → Ev (fun k => spec_l2Store.p12 k ((64 * L + p : Nat) : Int) t d.1 d.2 (⟨#[]⟩ : ByteArray) (L : Int) d.1 out true (i : Int)) (d.1, out ++ d.2.drop i) := by
    refine down ?_ ?_
    · intro out ho hgt
      refine Ev.step (fun k => by rw [spec_l2Store.p12]) ?_
      rw [List.drop_eq_nil_of_le (Nat.le_refl _), List.append_nil]
      exact Ev.neg (by omega) (Ev.pos rfl (Ev.eq rfl))
    · intro i hi ih out ho hgt
      have hg : rdOf ln0 d.2 (i : Int) = d.2[i] := rdg hi
      rw [List.drop_eq_getElem_cons hi] at hgt ⊢
      have hxg := hgt _ List.mem_cons_self
      have nx := ih (out ++ [d.2[i]]) (by simp; omega) (fun y hy => hgt y (List.mem_cons_of_mem _ hy))
      rw [List.append_assoc] at nx
      refine Ev.step (fun k => by rw [spec_l2Store.p12]) ?_
      rw [hg]
      refine Ev.pos (by omega) (Ev.pos (by omega) (Ev.pos (by omega) (Ev.pos rfl ?_)))
      refine Ev.step (fun k => by rw [spec_l2Store.p26]) ?_
      refine Ev.neg (by simp) ?_
      refine Ev.step (fun k => by rw [spec_l2Store.p31]) ?_
      refine Ev.neg (by omega) ?_
      refine Ev.step (fun k => by rw [spec_l2Store.p39]) ?_
      rw [w64s (i := i) (by omega)]
      exact Ev.pos (by omega) nx
  have key : ∀ i, i ≤ d.2.length → ∀ (out : List Line), out.length ≤ i → Ev (fun k => spec_l2Store.p12 k ((64 * L + p : Nat) : Int) t d.1 d.2 (⟨#[]⟩ : ByteArray) (L : Int) d.1 out false (i : Int)) (d.1, out ++ stL (L : Int) (fun s => replB s p t) (lineB d.1 L) (d.2.drop i)) := by
    refine down ?_ ?_
    · intro out ho
      refine Ev.step (fun k => by rw [spec_l2Store.p12]) ?_
      rw [List.drop_eq_nil_of_le (Nat.le_refl _)]
      exact Ev.neg (by omega) (Ev.neg (by simp) (endN out (fun _ => none) (by omega)))
    · intro i hi ih out ho
      have hg : rdOf ln0 d.2 (i : Int) = d.2[i] := rdg hi
      have hx := h.lines _ (List.getElem_mem hi)
      have hsd : (d.2.drop i).Pairwise fun x y => x.1 < y.1 := h.sorted.sublist (List.drop_sublist _ _)
      rw [List.drop_eq_getElem_cons hi] at hsd ⊢
      rw [List.pairwise_cons] at hsd
      refine Ev.step (fun k => by rw [spec_l2Store.p12]) ?_
      rw [hg]
      refine Ev.pos (by omega) (Ev.pos (by omega) (Ev.pos (by omega) (Ev.neg (by simp) ?_)))
      refine Ev.step (fun k => by rw [spec_l2Store.p26]) ?_
      unfold stL
      by_cases c1 : (d.2[i]).1 > (L : Int)
      · rw [if_pos c1]
        have nx := fin (i + 1) (by omega) (out ++ [((L : Int), (replB (lineB d.1 L) p t, (⟨#[]⟩ : ByteArray)))] ++ [d.2[i]]) (by simp; omega) (fun y hy => by have := hsd.1 y hy; omega)
        rw [w2, w1, ht]
        refine Ev.pos (decide_eq_true c1) (Ev.pos (by omega) (Ev.pos (by omega) (Ev.pos (by omega) (Ev.pos (by omega) (Ev.bindo hnew (Ev.pos (by omega) ?_))))))
        refine Ev.step (fun k => by rw [spec_l2Store.p31]) ?_
        refine Ev.neg (by omega) ?_
        refine Ev.step (fun k => by rw [spec_l2Store.p39]) ?_
        rw [w64s (i := i) (by omega)]
        refine Ev.pos (by simp; omega) ?_
        rw [List.append_assoc, List.append_assoc] at nx
        rw [List.append_assoc]
        exact nx
      rw [if_neg c1]
      refine Ev.neg (by simpa using c1) ?_
      refine Ev.step (fun k => by rw [spec_l2Store.p31]) ?_
      by_cases c2 : (d.2[i]).1 = (L : Int)
      · rw [if_pos c2]
        have hnew2 := spec_l2With_f (d.2[i]).2.1 t p (by have := hx.data; omega) (by have := hx.data; omega)
        have nx := fin (i + 1) (by omega) (out ++ [((d.2[i]).1, (replB (d.2[i]).2.1 p t, (d.2[i]).2.2))]) (by simp; omega) (fun y hy => by have := hsd.1 y hy; omega)
        rw [List.append_assoc] at nx
        rw [ht]
        refine Ev.pos c2 (Ev.bindo hnew2 ?_)
        refine Ev.step (fun k => by rw [spec_l2Store.p39]) ?_
        rw [w64s (i := i) (by omega)]
        exact Ev.pos (by omega) nx
      · rw [if_neg c2]
        have nx := ih (out ++ [d.2[i]]) (by simp; omega)
        rw [List.append_assoc] at nx
        refine Ev.neg c2 ?_
        refine Ev.step (fun k => by rw [spec_l2Store.p39]) ?_
        rw [w64s (i := i) (by omega)]
        exact Ev.pos (by omega) nx
  have := key 0 (Nat.zero_le _) [] (Nat.le_refl _)
  rw [List.drop_zero] at this
  exact this
end Go.Proofs.YtmciidoohbmipaaGreatDoor.Abs.Pu
namespace Go.Proofs.YtmciidoohbmipaaGreatDoor.Abs.Pu
open Go Go.RowKit
set_option linter.unusedVariables false
set_option linter.unusedSectionVars false
set_option linter.unusedSimpArgs false
def allTwo (l : List Line) : List Int := List.replicate l.length 2
def seenB (d : Dev) : ByteArray := pickF d.2 (allTwo d.2) d.1
theorem seen_size {n : Nat} {d : Dev} (h : DevP n d) : (seenB d).size = 64 * n := pickF_size _ _ h.lines h.size
theorem seen_at {n : Nat} {d : Dev} (h : DevP n d) (j : Nat) (hj : j < d.2.length) : lineB (seenB d) (d.2[j].1.toNat) = (d.2[j]).2.1 := by
  unfold seenB
  rw [pick_at d.2 _ j hj h.lines h.sorted h.size]
  unfold choice allTwo
  rw [if_pos]
  simp [List.getD_eq_getElem?_getD, List.getElem?_replicate, hj]
theorem seen_other {n : Nat} {d : Dev} (h : DevP n d) (L : Nat) (hL : L < n) (ho : ∀ x ∈ d.2, x.1 ≠ (L : Int)) : lineB (seenB d) L = lineB d.1 L := pick_other _ _ L h.lines h.size hL ho
theorem cmp_f (a b : Int) : cmp_Compare_int64.f a b = some (if a < b then -1 else if a > b then 1 else 0) := by
  unfold cmp_Compare_int64.f cmp_isNaN_int64.f
  simp only [decide_true, Bool.not_true, Option.bind_some, Bool.false_eq_true, if_false]
  split
  · rfl
  · split <;> rfl
theorem find1_f (x : Line) (b : Int) : _impl_Device_find_1.f x.1 x.2.1 x.2.2 b = some (if x.1 < b then -1 else if x.1 > b then 1 else 0) := by
  unfold _impl_Device_find_1.f
  rw [cmp_f]
  rfl
theorem u64_nn {y : Int} (h0 : 0 ≤ y) (h1 : y < 18446744073709551616) : IntKind.u64.wrap y = y := by rw [wrap_u64]; omega
/-- The line of a number, or where it would be. -/
theorem find_ev (s : ByteArray) (l : List Line) (x : Int) (hs : l.Pairwise fun x y => x.1 < y.1) (hl : l.length ≤ 1099511627776) : ∃ (i : Nat) (f : Bool), Ev (fun k => _impl_Device_find.f k s l x) ((i : Int), f) ∧ i ≤ l.length ∧ (∀ j (h : j < l.length), j < i → l[j].1 < x) ∧ (∀ j (h : j < l.length), i < j → x < l[j].1) ∧ (f = true → ∃ h : i < l.length, l[i].1 = x) ∧ (f = false → ∀ h : i < l.length, x < l[i].1) := by
  rw [List.pairwise_iff_getElem] at hs
  have hg : ∀ i (h : i < l.length), rdOf ln0 l (i : Int) = l[i] := fun i h => rdg h
  have lp : ∀ (d lo hi : Nat), hi - lo ≤ d → lo ≤ hi → hi ≤ l.length → (∀ j (h : j < l.length), j < lo → l[j].1 < x) → (∀ j (h : j < l.length), hi ≤ j → x ≤ l[j].1) →
      ∃ (i : Nat) (f : Bool), Ev (fun k => slices_BinarySearchFunc_int64_at__impl_Device_find_1.p8 k l x (l.length : Int) (lo : Int) (hi : Int)) ((i : Int), f) ∧ i ≤ l.length ∧ (∀ j (h : j < l.length), j < i → l[j].1 < x) ∧ (∀ j (h : j < l.length), i < j → x < l[j].1) ∧ (f = true → ∃ h : i < l.length, l[i].1 = x) ∧ (f = false → ∀ h : i < l.length, x < l[i].1) := by
    intro d
    induction d with
    | zero =>
      intro lo hi hd hle hhi h1 h2
      obtain rfl : lo = hi := by omega
      by_cases hlt : lo < l.length
      · have hge := h2 lo hlt (Nat.le_refl _)
        have hup : ∀ j (h : j < l.length), lo < j → x < l[j].1 := fun j h hj => by
          have := hs lo j hlt h hj
          omega
        have hev : Ev (fun k => slices_BinarySearchFunc_int64_at__impl_Device_find_1.p8 k l x (l.length : Int) (lo : Int) (lo : Int)) ((lo : Int), decide (l[lo].1 = x)) := by
          refine Ev.step (fun k => by rw [slices_BinarySearchFunc_int64_at__impl_Device_find_1.p8]) ?_
          rw [hg lo hlt]
          refine Ev.neg (by omega) (Ev.pos (by omega) (Ev.pos (by omega) (Ev.pos (by omega) (Ev.bindo (find1_f _ _) (Ev.eq ?_)))))
          rw [if_neg (by omega)]
          by_cases e : l[lo].1 = x
          · rw [if_neg (by omega), decide_eq_true e]; rfl
          · rw [if_pos (by omega), decide_eq_false e]; rfl
        by_cases e : l[lo].1 = x
        · rw [decide_eq_true e] at hev
          exact ⟨lo, true, hev, by omega, h1, hup, fun _ => ⟨hlt, e⟩, by simp⟩
        · rw [decide_eq_false e] at hev
          exact ⟨lo, false, hev, by omega, h1, hup, by simp, fun _ _ => by omega⟩
      · refine ⟨lo, false, ?_, by omega, h1, fun j h hj => by omega, by simp, fun _ h => by omega⟩
        refine Ev.step (fun k => by rw [slices_BinarySearchFunc_int64_at__impl_Device_find_1.p8]) ?_
        exact Ev.neg (by omega) (Ev.neg (by omega) (Ev.eq rfl))
    | succ d ih =>
      intro lo hi hd hle hhi h1 h2
      by_cases c : lo < hi
      · have hm : (lo + hi) / 2 < l.length := by omega
        have e1 : wrap64 (IntKind.u64.wrap (wrap64 ((lo : Int) + (hi : Int))) / 2) = (((lo + hi) / 2 : Nat) : Int) := by
          rw [w64 (x := (lo : Int) + (hi : Int)) (by omega) (by omega), u64_nn (by omega) (by omega), w64 (by omega) (by omega)]
          omega
        by_cases c2 : l[(lo + hi) / 2].1 < x
        · obtain ⟨i, f, hev, hr⟩ := ih ((lo + hi) / 2 + 1) hi (by omega) (by omega) hhi (fun j h hj => by
            by_cases e : j = (lo + hi) / 2
            · subst e; exact c2
            · have := hs j ((lo + hi) / 2) h hm (by omega)
              omega) h2
          refine ⟨i, f, ?_, hr⟩
          refine Ev.step (fun k => by rw [slices_BinarySearchFunc_int64_at__impl_Device_find_1.p8]) ?_
          rw [shr1_u64, e1, hg _ hm, show wrap64 ((((lo + hi) / 2 : Nat) : Int) + 1) = (((lo + hi) / 2 + 1 : Nat) : Int) from by rw [w64 (by omega) (by omega)]; omega]
          refine Ev.pos (by omega) (Ev.pos (by omega) (Ev.pos (by omega) (Ev.bindo (find1_f _ _) ?_)))
          exact Ev.pos (by rw [if_pos c2]; omega) hev
        · obtain ⟨i, f, hev, hr⟩ := ih lo ((lo + hi) / 2) (by omega) (by omega) (by omega) h1 (fun j h hj => by
            by_cases e : j = (lo + hi) / 2
            · subst e; omega
            · have := hs ((lo + hi) / 2) j hm h (by omega)
              omega)
          refine ⟨i, f, ?_, hr⟩
          refine Ev.step (fun k => by rw [slices_BinarySearchFunc_int64_at__impl_Device_find_1.p8]) ?_
          rw [shr1_u64, e1, hg _ hm]
          refine Ev.pos (by omega) (Ev.pos (by omega) (Ev.pos (by omega) (Ev.bindo (find1_f _ _) ?_)))
          refine Ev.neg ?_ hev
          rw [if_neg c2]
          split <;> omega
      · exact ih lo hi (by omega) hle hhi h1 h2
  obtain ⟨i, f, hev, hr⟩ := lp l.length 0 l.length (by omega) (by omega) (Nat.le_refl _) (fun j h hj => by omega) (fun j h hj => by omega)
  refine ⟨i, f, ?_, hr⟩
  unfold _impl_Device_find.f slices_BinarySearchFunc_int64_at__impl_Device_find_1.f
  exact Ev.bind hev (Ev.eq rfl)
theorem w64l {L : Nat} (h : L ≤ 1048576) : wrap64 (64 * (L : Int)) = ((64 * L : Nat) : Int) ∧ wrap64 (wrap64 (64 * (L : Int)) + 64) = ((64 * L + 64 : Nat) : Int) := by
  have h1 : wrap64 (64 * (L : Int)) = ((64 * L : Nat) : Int) := by rw [w64 (by omega) (by omega)]; omega
  exact ⟨h1, by rw [h1, w64 (by omega) (by omega)]; omega⟩
theorem safeLine_f (d : Dev) (L : Nat) (h : 64 * L + 64 ≤ d.1.size) (hL : L ≤ 1048576) : _impl_Device_safeLine.f d.1 d.2 (L : Int) = some (lineB d.1 L) := by
  obtain ⟨h1, h2⟩ := w64l hL
  unfold _impl_Device_safeLine.f lineB
  rw [h2, h1, if_pos (by omega), if_pos (by omega), if_pos (by omega), if_pos (by omega)]
  rfl
theorem seenLine_ev {n : Nat} {d : Dev} (h : DevP n d) (hl : d.2.length ≤ 1048576) (L : Nat) (hL : L < n) : Ev (fun k => _impl_Device_seenLine.f k d.1 d.2 (L : Int)) (lineB (seenB d) L) := by
  obtain ⟨i, f, hev, h1, h2, h3, h4, h5⟩ := find_ev d.1 d.2 (L : Int) h.sorted (by omega)
  have hn := h.hi
  have hz := h.size
  unfold _impl_Device_seenLine.f
  refine Ev.bind hev ?_
  cases f with
  | true =>
    obtain ⟨hi, e⟩ := h4 rfl
    have hg : rdOf ln0 d.2 (i : Int) = d.2[i] := rdg hi
    have hs := seen_at h i hi
    rw [e, Int.toNat_natCast] at hs
    rw [hs]
    refine Ev.pos rfl (Ev.pos (by omega) (Ev.pos (by omega) (Ev.eq ?_)))
    show (rdOf ln0 d.2 (i : Int)).2.1 = _
    rw [hg]
  | false =>
    have ho : ∀ x ∈ d.2, x.1 ≠ (L : Int) := by
      intro x hx e
      obtain ⟨j, hj, rfl⟩ := List.getElem_of_mem hx
      rcases Nat.lt_trichotomy j i with c | c | c
      · have := h2 j hj c; omega
      · subst c; have := h5 rfl hj; omega
      · have := h3 j hj c; omega
    rw [seen_other h L hL ho]
    exact Ev.neg (by simp) (Ev.bindo (safeLine_f d L (by omega) (by omega)) (Ev.eq rfl))
theorem okB_bytes (s : ByteArray) : okB (bytesOf s) = true := by
  unfold okB
  rw [List.all_eq_true]
  intro x hx
  have := bytesOf_isBytes s x hx
  simp only [Bool.and_eq_true, decide_eq_true_eq]
  omega
theorem seen_ev {n : Nat} {d : Dev} (h : DevP n d) (hl : d.2.length ≤ 1048576) : Ev (fun k => _impl_Device_seen.f k d.1 d.2) (seenB d) := by
  have hn := h.hi
  have hz := h.size
  have hsz := seen_size h
  have hbl := bytesOf_length (seenB d)
  have key : ∀ L, L ≤ n → Ev (fun k => _impl_Device_seen.p8 k d.1 d.2 ((bytesOf (seenB d)).take (64 * L)) (L : Int)) (seenB d) := by
    refine down ?_ ?_
    · refine Ev.step (fun k => by rw [_impl_Device_seen.p8]) ?_
      refine Ev.bindo (impl_has_f d (by omega) _) (Ev.neg (by simp; omega) ?_)
      rw [List.take_of_length_le (by omega)]
      unfold strings_Builder_String.f
      rw [if_pos (okB_bytes _)]
      refine Ev.bindo rfl (Ev.eq ?_)
      exact strOfNums_bytesOf _
    · intro L hL ih
      refine Ev.step (fun k => by rw [_impl_Device_seen.p8]) ?_
      refine Ev.bindo (impl_has_f d (by omega) _) (Ev.pos (by simp; omega) (Ev.bind (seenLine_ev h hl L hL) ?_))
      have hls := lineB_size (s := seenB d) (n := L) (by omega)
      unfold strings_Builder_WriteString.f
      rw [if_pos (by rw [List.length_take]; omega)]
      refine Ev.bindo rfl ?_
      rw [w64s (i := L) (by omega)]
      simp only []
      rw [numsOf_eq, bytesOf_line _ _ (by omega)]
      exact ih
  have h0 := key 0 (Nat.zero_le _)
  rw [Nat.mul_zero, List.take_zero] at h0
  unfold _impl_Device_seen.f
  exact h0
def seenR (d : Dev) : ByteArray := if devB d = true then seenB d else ⟨#[]⟩
theorem impl_Seen_ev (d : Dev) (h : d.1.size ≤ 1099511627776) (hl : d.2.length ≤ 1048576) : Ev (fun k => impl_Seen.f k d.1 d.2) (seenR d) := by
  unfold impl_Seen.f seenR
  refine Ev.bind (impl_DeviceOk_ev d h hl) (Ev.cases (fun h0 => ?_) (fun h0 => by rw [if_neg h0]; exact Ev.eq rfl))
  obtain ⟨n, hd⟩ := (devB_iff d).1 h0
  rw [if_pos h0]
  exact Ev.bind (seen_ev hd hl) (Ev.eq rfl)
end Go.Proofs.YtmciidoohbmipaaGreatDoor.Abs.Pu
namespace Go.Proofs.YtmciidoohbmipaaGreatDoor.Abs.Pu
open Go Go.RowKit
set_option linter.unusedVariables false
set_option linter.unusedSectionVars false
set_option linter.unusedSimpArgs false
theorem stL_new {L : Int} {f : ByteArray → ByteArray} {safe : ByteArray} : ∀ (l : List Line) (i : Nat), i ≤ l.length → (∀ j (h : j < l.length), j < i → l[j].1 < L) → (∀ h : i < l.length, L < l[i].1) → stL L f safe l = l.take i ++ ((L, (f safe, (⟨#[]⟩ : ByteArray))) :: l.drop i)
  | [], i, hi, _, _ => by
    obtain rfl : i = 0 := by simpa using hi
    rfl
  | x :: l, 0, _, _, h => by
    have : L < x.1 := h (by simp)
    unfold stL
    rw [if_pos this]
    rfl
  | x :: l, i + 1, hi, h1, h2 => by
    have hx : x.1 < L := h1 0 (by simp) (by omega)
    unfold stL
    rw [if_neg (by omega), if_neg (by omega), stL_new l i (by simpa using hi) (fun j h hj => h1 (j + 1) (by simpa using h) (by omega)) (fun h => h2 (by simpa using h))]
    rfl
theorem stL_old {L : Int} {f : ByteArray → ByteArray} {safe : ByteArray} : ∀ (l : List Line) (i : Nat) (hi : i < l.length), (∀ j (h : j < l.length), j < i → l[j].1 < L) → l[i].1 = L → stL L f safe l = l.set i (l[i].1, (f l[i].2.1, l[i].2.2))
  | x :: l, 0, _, _, h => by
    have h : x.1 = L := h
    unfold stL
    rw [if_neg (by omega), if_pos h]
    rfl
  | x :: l, i + 1, hi, h1, h2 => by
    have hx : x.1 < L := h1 0 (by simp) (by omega)
    unfold stL
    rw [if_neg (by omega), if_neg (by omega), stL_old l i (by simpa using hi) (fun j h hj => h1 (j + 1) (by simpa using h) (by omega)) h2]
    rfl
theorem impl_store_p10 (s : ByteArray) (l : List Line) (i L p : Nat) (t : ByteArray) (hi : i < l.length) (hd : l[i].2.1.size = 64) (hp : p + t.size ≤ 64) (hp2 : p < 64) : Ev (fun k => impl_Device_store.p10 k s l ((64 * L + p : Nat) : Int) t (i : Int)) (s, l.set i (l[i].1, (replB l[i].2.1 p t, l[i].2.2))) := by
  have hg : rdOf ln0 l (i : Int) = l[i] := rdg hi
  have ht : Int.tmod ((64 * L + p : Nat) : Int) 64 = (p : Int) := by rw [Int.tmod_eq_emod_of_nonneg (by omega)]; omega
  refine Ev.step (fun k => by rw [impl_Device_store.p10]) ?_
  rw [hg, ht, Int.toNat_natCast]
  exact Ev.pos (by omega) (Ev.pos (by omega) (Ev.bindo (impl_replaced_f _ t p (by omega) (by omega)) (Ev.pos (by omega) (Ev.pos (by omega) (Ev.eq rfl)))))
theorem impl_store_ev {n : Nat} {d : Dev} (h : DevP n d) (L p : Nat) (t : ByteArray) (hL : L < n) (hp : p + t.size ≤ 64) (hp2 : p < 64) : Ev (fun k => impl_Device_store.f k d.1 d.2 ((64 * L + p : Nat) : Int) t) (storeR d L p t) := by
  have hn := h.hi
  have hln := h.len
  have hz := h.size
  obtain ⟨i, f, hev, h1, h2, h3, h4, h5⟩ := find_ev d.1 d.2 (L : Int) h.sorted (by omega)
  have hls : (lineB d.1 L).size = 64 := lineB_size (by omega)
  unfold impl_Device_store.f storeR
  rw [show wrap64 (Int.tdiv ((64 * L + p : Nat) : Int) 64) = (L : Int) from by rw [Int.tdiv_eq_ediv_of_nonneg (by omega), w64 (by omega) (by omega)]; omega]
  refine Ev.bind hev ?_
  cases f with
  | true =>
    obtain ⟨hi, e⟩ := h4 rfl
    refine Ev.pos rfl ((impl_store_p10 d.1 d.2 i L p t hi (h.lines _ (List.getElem_mem hi)).data hp hp2).val ?_)
    rw [stL_old d.2 i hi h2 e]
  | false =>
    have e := stL_new (f := fun s => replB s p t) (safe := lineB d.1 L) d.2 i h1 h2 (h5 rfl)
    have hi : i < (d.2.take i ++ ([((L : Int), (lineB d.1 L, (⟨#[]⟩ : ByteArray)))] ++ d.2.drop i)).length := by simp; omega
    have hq : (d.2.take i ++ ([((L : Int), (lineB d.1 L, (⟨#[]⟩ : ByteArray)))] ++ d.2.drop i))[i]'hi = ((L : Int), (lineB d.1 L, (⟨#[]⟩ : ByteArray))) := by
      rw [List.getElem_append_right (by rw [List.length_take]; omega)]
      simp [Nat.min_eq_left h1]
    have hin : slices_Insert_implLine.f d.2 (i : Int) ([((L : Int), (lineB d.1 L, (⟨#[]⟩ : ByteArray)))] : List Line) = some (d.2.take i ++ ([((L : Int), (lineB d.1 L, (⟨#[]⟩ : ByteArray)))] ++ d.2.drop i)) := by
      unfold slices_Insert_implLine.f
      rw [if_pos (by omega), if_pos (by omega), if_pos (by simp), if_pos (by simp; omega), Int.toNat_natCast]
    refine Ev.neg (by simp) (Ev.bindo (safeLine_f d L (by omega) (by omega)) (Ev.bindo hin ((impl_store_p10 d.1 _ i L p t hi (by rw [hq]; exact hls) hp hp2).val ?_)))
    rw [e, hq, List.set_append_right _ _ (by rw [List.length_take]; omega)]
    simp [Nat.min_eq_left h1]
/-! ### Flushes -/
theorem flush_old {L : Int} {l : List Line} (hs : l.Pairwise fun x y => x.1 < y.1) (i : Nat) (hi : i < l.length) (e : l[i].1 = L) : l.map (flushX L) = l.set i (l[i].1, (l[i].2.1, l[i].2.1)) := by
  rw [List.pairwise_iff_getElem] at hs
  apply List.ext_getElem (by simp)
  intro j h1 h2
  have hj : j < l.length := by simpa using h1
  rw [List.getElem_map, List.getElem_set]
  unfold flushX
  by_cases c : i = j
  · subst c
    rw [if_pos e, if_pos rfl]
  · rw [if_neg c, if_neg]
    intro e2
    rcases Nat.lt_or_gt_of_ne c with c | c
    · have := hs i j hi hj c; omega
    · have := hs j i hj hi c; omega
theorem flush_none {L : Int} {l : List Line} (h : ∀ x ∈ l, x.1 ≠ L) : l.map (flushX L) = l := by
  rw [List.map_congr_left (g := id) (fun x hx => by unfold flushX; rw [if_neg (h x hx)]; rfl), List.map_id]
theorem impl_flush_ev {n : Nat} {d : Dev} (h : DevP n d) (L : Int) : Ev (fun k => impl_Device_flush.f k d.1 d.2 L) (flushR d L) := by
  have hn := h.hi
  have hln := h.len
  obtain ⟨i, f, hev, h1, h2, h3, h4, h5⟩ := find_ev d.1 d.2 L h.sorted (by omega)
  unfold impl_Device_flush.f flushR
  refine Ev.bind hev ?_
  cases f with
  | true =>
    obtain ⟨hi, e⟩ := h4 rfl
    have hg : rdOf ln0 d.2 (i : Int) = d.2[i] := rdg hi
    refine Ev.pos rfl (Ev.pos (by omega) (Ev.pos (by omega) (Ev.pos (by omega) (Ev.pos (by omega) (Ev.eq ?_)))))
    show (d.1, d.2.set (Int.toNat (i : Int)) ((rdOf ln0 d.2 (i : Int)).1, ((rdOf ln0 d.2 (i : Int)).2.1, (rdOf ln0 d.2 (i : Int)).2.1))) = _
    rw [hg, Int.toNat_natCast, flush_old h.sorted i hi e]
  | false =>
    have ho : ∀ x ∈ d.2, x.1 ≠ L := by
      intro x hx e
      obtain ⟨j, hj, rfl⟩ := List.getElem_of_mem hx
      rcases Nat.lt_trichotomy j i with c | c | c
      · have := h2 j hj c; omega
      · subst c; have := h5 rfl hj; omega
      · have := h3 j hj c; omega
    rw [flush_none ho]
    exact Ev.neg (by simp) (Ev.eq rfl)
/-! ### Fences -/
theorem impl_fence_ev {n : Nat} {d : Dev} (h : DevP n d) : Ev (fun k => impl_Device_fence.f k d.1 d.2) (fenceR d) := by
  have hn := h.hi
  have hln := h.len
  unfold impl_Device_fence.f fenceR
  have key : ∀ i, i ≤ d.2.length → ∀ (s : ByteArray) (out : List Line), s.size = 64 * n → out.length ≤ i → Ev (fun k => impl_Device_fence.p6 k s d.2 out (d.2.length : Int) (i : Int)) (fenceS (d.2.drop i) s, out ++ fenceL (d.2.drop i)) := by
    refine down ?_ ?_
    · intro s out hs ho
      refine Ev.step (fun k => by rw [impl_Device_fence.p6]) ?_
      rw [List.drop_eq_nil_of_le (Nat.le_refl _)]
      refine Ev.neg (by omega) (Ev.eq ?_)
      show (s, out) = (s, out ++ [])
      rw [List.append_nil]
    · intro i hi ih s out hs ho
      have hg : rdOf ln0 d.2 (i : Int) = d.2[i] := rdg hi
      have hx := h.lines _ (List.getElem_mem hi)
      have hfit := hx.fits hs
      have nx := ih (put64 s d.2[i].1 d.2[i].2.2) (out ++ (fenceX d.2[i]).toList) (put64_size hx hs hx.sent64) (by unfold fenceX; split <;> simp <;> omega)
      have e : out ++ fenceL (d.2[i] :: d.2.drop (i + 1)) = (out ++ (fenceX d.2[i]).toList) ++ fenceL (d.2.drop (i + 1)) := by
        unfold fenceL
        rw [List.filterMap_cons, List.append_assoc]
        cases fenceX d.2[i] <;> rfl
      have mid : ∀ s', s' = put64 s d.2[i].1 d.2[i].2.2 → Ev (fun k => impl_Device_fence.p23 k s' d.2 out (d.2[i]).1 (d.2[i]).2.1 (d.2[i]).2.2 (d.2.length : Int) (i : Int)) (fenceS (d.2.drop (i + 1)) (put64 s d.2[i].1 d.2[i].2.2), out ++ fenceL (d.2[i] :: d.2.drop (i + 1))) := by
        rintro s' rfl
        rw [e]
        refine Ev.step (fun k => by rw [impl_Device_fence.p23]) ?_
        rw [w64s (i := i) (by omega)]
        unfold fenceX at nx ⊢
        by_cases c : (d.2[i]).2.2 = (d.2[i]).2.1
        · rw [if_pos c] at nx ⊢
          refine Ev.pos (toList_inj.2 c) ?_
          rw [Option.toList_none, List.append_nil] at nx ⊢
          exact nx
        · rw [if_neg c] at nx ⊢
          exact Ev.neg (fun e => c (toList_inj.1 e)) (Ev.pos (by omega) nx)
      refine Ev.step (fun k => by rw [impl_Device_fence.p6]) ?_
      rw [hg, hx.w (by omega), List.drop_eq_getElem_cons hi]
      show Ev _ (fenceS (d.2.drop (i + 1)) (put64 s d.2[i].1 d.2[i].2.2), out ++ fenceL (d.2[i] :: d.2.drop (i + 1)))
      refine Ev.pos (by omega) (Ev.pos (by omega) (Ev.pos (by omega) ?_))
      by_cases c : (d.2[i]).2.2 = (⟨#[]⟩ : ByteArray)
      · refine Ev.pos (toList_inj.2 c) (mid s ?_)
        show s = replB s _ _
        rw [c, repl_none (by omega)]
      · exact Ev.neg (fun e => c (toList_inj.1 e)) (Ev.bindo (impl_replaced_f s (d.2[i]).2.2 (64 * (d.2[i]).1.toNat) (by have := hx.sent64; omega) (by omega)) (mid _ rfl))
  have := key 0 (Nat.zero_le _) d.1 [] h.size (Nat.le_refl _)
  rw [List.drop_zero] at this
  exact this
end Go.Proofs.YtmciidoohbmipaaGreatDoor.Abs.Pu
namespace Go.Proofs.YtmciidoohbmipaaGreatDoor.Abs.Pu
open Go Go.RowKit
set_option linter.unusedVariables false
set_option linter.unusedSectionVars false
set_option linter.unusedSimpArgs false
theorem spec_WordBytes_ev (n : Int) : Ev (fun k => spec_WordBytes.f k n) (wordB n) := by
  have hu : 0 ≤ IntKind.u64.wrap n ∧ IntKind.u64.wrap n < 18446744073709551616 := by rw [wrap_u64]; omega
  have set1 : ∀ (u : Int) (i : Nat), i < 8 → ((wordL u).take i ++ List.replicate (8 - i) 0).set i (byte8 u i) = (wordL u).take (i + 1) ++ List.replicate (8 - (i + 1)) 0 := by
    intro u i hi
    obtain rfl | rfl | rfl | rfl | rfl | rfl | rfl | rfl : i = 0 ∨ i = 1 ∨ i = 2 ∨ i = 3 ∨ i = 4 ∨ i = 5 ∨ i = 6 ∨ i = 7 := by omega
    all_goals rfl
  have lp : ∀ (d i : Nat), 8 - i = d → i ≤ 8 → Ev (fun k => spec_WordBytes.p8 k n ((wordL (IntKind.u64.wrap n)).take i ++ List.replicate (8 - i) 0) (i : Int)) (wordB n) := by
    intro d
    induction d with
    | zero =>
      intro i hd hi
      obtain rfl : i = 8 := by omega
      refine Ev.step (fun k => by rw [spec_WordBytes.p8]) ?_
      refine Ev.neg (by decide) (Ev.eq ?_)
      rfl
    | succ d ih =>
      intro i hd hi
      have hi8 : i < 8 := by omega
      have hl : ((wordL (IntKind.u64.wrap n)).take i ++ List.replicate (8 - i) 0).length = 8 := by
        rw [List.length_append, List.length_take, List.length_replicate, show (wordL (IntKind.u64.wrap n)).length = 8 from rfl]; omega
      have ih := ih (i + 1) (by omega) (by omega)
      rw [← set1 _ i hi8] at ih
      refine Ev.step (fun k => by rw [spec_WordBytes.p8]) ?_
      rw [w64 (x := 8 * (i : Int)) (by omega) (by omega), w64 (x := 56 - 8 * (i : Int)) (by omega) (by omega), show IntKind.u64.wrap (56 - 8 * (i : Int)) = ((56 - 8 * i : Nat) : Int) from by rw [wrap_u64]; omega,
        show wrap64 ((i : Int) + 1) = ((i + 1 : Nat) : Int) from by rw [w64 (by omega) (by omega)]; omega, Int.toNat_natCast,
        show shrA .u64 (IntKind.u64.wrap n) ((56 - 8 * i : Nat) : Int) % 256 = byte8 (IntKind.u64.wrap n) i from by
          unfold shrA byte8
          rw [Int.toNat_natCast, show min (56 - 8 * i) IntKind.u64.bits = 56 - 8 * i from Nat.min_eq_left (by show 56 - 8 * i ≤ 64; omega)]]
      exact Ev.pos (by omega) (Ev.neg (by omega) (Ev.pos (by omega) (Ev.pos (by rw [hl]; omega) ih)))
  unfold spec_WordBytes.f
  exact lp 8 0 rfl (by omega)
theorem impl_bigBytes_ev (u : Int) (h0 : 0 ≤ u) : Ev (fun k => impl_bigBytes.f k u 8) (strOfNums (wordL u)) := by
  have set1 : ∀ (i : Nat), i < 8 → (List.replicate (8 - i) 0 ++ (wordL u).drop (8 - i)).set (7 - i) (byte8 u (7 - i)) = List.replicate (8 - (i + 1)) 0 ++ (wordL u).drop (8 - (i + 1)) := by
    intro i hi
    obtain rfl | rfl | rfl | rfl | rfl | rfl | rfl | rfl : i = 0 ∨ i = 1 ∨ i = 2 ∨ i = 3 ∨ i = 4 ∨ i = 5 ∨ i = 6 ∨ i = 7 := by omega
    all_goals rfl
  have lp : ∀ (d i : Nat), 8 - i = d → i ≤ 8 → Ev (fun k => impl_bigBytes.p8 k (u / 2 ^ (8 * i)) 8 (List.replicate (8 - i) 0 ++ (wordL u).drop (8 - i)) 8 (i : Int)) (strOfNums (wordL u)) := by
    intro d
    induction d with
    | zero =>
      intro i hd hi
      obtain rfl : i = 8 := by omega
      refine Ev.step (fun k => by rw [impl_bigBytes.p8]) ?_
      refine Ev.neg (by decide) (Ev.eq ?_)
      rfl
    | succ d ih =>
      intro i hd hi
      have hi8 : i < 8 := by omega
      have hl : (List.replicate (8 - i) 0 ++ (wordL u).drop (8 - i)).length = 8 := by
        rw [List.length_append, List.length_drop, List.length_replicate, show (wordL u).length = 8 from rfl]; omega
      have ih := ih (i + 1) (by omega) (by omega)
      rw [← set1 i hi8] at ih
      refine Ev.step (fun k => by rw [impl_bigBytes.p8]) ?_
      rw [w64 (x := 8 - 1) (by omega) (by omega), w64 (x := 8 - 1 - (i : Int)) (by omega) (by omega), show (8 - 1 - (i : Int)) = ((7 - i : Nat) : Int) from by omega,
        show wrap64 ((i : Int) + 1) = ((i + 1 : Nat) : Int) from by rw [w64 (by omega) (by omega)]; omega, Int.toNat_natCast,
        show u / 2 ^ (8 * i) % 256 = byte8 u (7 - i) from by unfold byte8; rw [show 56 - 8 * (7 - i) = 8 * i from by omega],
        show shrA .u64 (u / 2 ^ (8 * i)) 8 = u / 2 ^ (8 * (i + 1)) from by
          show u / 2 ^ (8 * i) / 2 ^ 8 = _
          rw [Int.ediv_ediv_of_nonneg (Int.pow_nonneg (by decide)), show (8 * (i + 1)) = 8 * i + 8 from by omega, Int.pow_add]]
      exact Ev.pos (by omega) (Ev.pos (by omega) (Ev.pos (by rw [hl]; omega) ih))
  unfold impl_bigBytes.f
  refine Ev.pos (by decide) (Ev.pos (by decide) ?_)
  have h := lp 8 0 rfl (by omega)
  rw [Nat.mul_zero, Int.pow_zero, Int.ediv_one] at h
  exact h
theorem impl_WordBytes_ev (n : Int) : Ev (fun k => impl_WordBytes.f k n) (wordB n) := by
  unfold impl_WordBytes.f
  exact Ev.bind (impl_bigBytes_ev _ (by rw [wrap_u64]; omega)) (Ev.eq rfl)
end Go.Proofs.YtmciidoohbmipaaGreatDoor.Abs.Pu
namespace Go.Proofs.YtmciidoohbmipaaGreatDoor.Abs.Pu
open Go Go.RowKit
set_option linter.unusedVariables false
set_option linter.unusedSectionVars false
set_option linter.unusedSimpArgs false
theorem repeat_zero (n : Nat) : Lib.repeatL [0] n = List.replicate n 0 := by
  induction n with
  | zero => rfl
  | succ n ih => rw [Lib.repeatL, ih]; rfl
def zerosB (n : Nat) : ByteArray := strOfNums (List.replicate n 0)
theorem zerosB_size (n : Nat) : (zerosB n).size = n := by rw [zerosB, strOfNums_size, List.length_replicate]
theorem bytesOf_zerosB (n : Nat) : bytesOf (zerosB n) = List.replicate n 0 := bytesOf_strOfNums (isBytes_replicate n)
def mapOk (s : ByteArray) : Prop := s.size = 64 ∧ s.extract 16 s.size = zerosB 48
instance (s : ByteArray) : Decidable (mapOk s) := by unfold mapOk; infer_instance
/-- Is line n taken. -/
def tkn (s : ByteArray) (n : Int) : Bool := bitL (bytesOf s) n.toNat
theorem and_one {x : Int} (h0 : 0 ≤ x) (h1 : x ≤ 255) : Go.bits .and .u8 x 1 = x % 2 := by
  have h := Go.bits_mask .u8 8 (by decide) Go.wraps_u8 1 (by decide) x h0 (by omega)
  simpa using h
theorem div_range {x : Int} (h0 : 0 ≤ x) (h1 : x ≤ 255) (r : Nat) : 0 ≤ x / 2 ^ r ∧ x / 2 ^ r ≤ 255 := by
  have hp : (0 : Int) < 2 ^ r := Int.pow_pos (by decide)
  exact ⟨Int.ediv_nonneg h0 (by omega), Int.le_trans (Int.ediv_le_self _ h0) h1⟩
/-! ### lines -/
/-- The taken ones of the lines i, .., i + d - 1. -/
def linesFrom (t : Int → Bool) (i : Int) : Nat → List Int
  | 0 => []
  | d + 1 => if t i then i :: linesFrom t (i + 1) d else linesFrom t (i + 1) d
theorem linesFrom_length (t : Int → Bool) : ∀ (d : Nat) (i : Int), (linesFrom t i d).length ≤ d
  | 0, i => by simp [linesFrom]
  | d + 1, i => by
    have h := linesFrom_length t d (i + 1)
    simp only [linesFrom]
    split
    · simp; omega
    · omega
def linesOf (s : ByteArray) : List Int := if mapOk s then linesFrom (tkn s) 0 128 else []
def turn1 (xs : List Int) (i : Nat) : List Int := xs.set (i / 8) (Go.bits .xor .u8 (xs.getD (i / 8) 0) (2 ^ (i % 8) % 256))
def turnL (xs : List Int) (a : Nat) : Nat → List Int
  | 0 => xs
  | n + 1 => turn1 (turnL xs a n) (a + n)
theorem turnL_length (xs : List Int) (a : Nat) : ∀ n, (turnL xs a n).length = xs.length
  | 0 => rfl
  | n + 1 => by simp [turnL, turn1, turnL_length xs a n]
theorem turnL_next (xs : List Int) (a i : Nat) (h : a ≤ i) : turnL xs a (i + 1 - a) = turn1 (turnL xs a (i - a)) i := by
  rw [show i + 1 - a = (i - a) + 1 from by omega, turnL, show a + (i - a) = i from by omega]
def change1 (xs : List Int) (i : Nat) (t : Bool) : List Int :=
  if t = true then (xs.set (i / 8) (Go.bits .andNot .u8 (xs.getD (i / 8) 0) (2 ^ (i % 8) % 256))).set (i / 8) (Go.bits .or .u8 (Go.bits .andNot .u8 (xs.getD (i / 8) 0) (2 ^ (i % 8) % 256)) (2 ^ (i % 8) % 256))
  else xs.set (i / 8) (Go.bits .andNot .u8 (xs.getD (i / 8) 0) (2 ^ (i % 8) % 256))
def changeL (xs : List Int) (a : Nat) (t : Bool) : Nat → List Int
  | 0 => xs
  | n + 1 => change1 (changeL xs a t n) (a + n) t
theorem changeL_length (xs : List Int) (a : Nat) (t : Bool) : ∀ n, (changeL xs a t n).length = xs.length
  | 0 => rfl
  | n + 1 => by
    have ih := changeL_length xs a t n
    simp only [changeL, change1]
    split <;> simp [ih]
theorem changeL_next (xs : List Int) (a : Nat) (t : Bool) (i : Nat) (h : a ≤ i) : changeL xs a t (i + 1 - a) = change1 (changeL xs a t (i - a)) i t := by
  rw [show i + 1 - a = (i - a) + 1 from by omega, changeL, show a + (i - a) = i from by omega]
/-- What turning a bit changes. -/
theorem turn1_bit {xs : List Int} (hx : isBytes xs) {i : Nat} (hi : i / 8 < xs.length) (j : Nat) : bitL (turn1 xs i) j = (bitL xs j != decide (j = i)) := by
  unfold turn1
  have hb := isBytes_getD hx (i / 8)
  have h := (byte_xor hb.1 hb.2 (show i % 8 < 8 by omega)).2 (j % 8) (by omega)
  rw [bitL_set hi]
  split
  · rename_i e
    rw [h]
    unfold bitL
    rw [e]
    congr 1
    exact decide_eq_decide.2 (by omega)
  · rename_i e
    rw [show decide (j = i) = false from decide_eq_false (fun q => e (by rw [q]))]
    simp
theorem turn1_isBytes {xs : List Int} (hx : isBytes xs) (i : Nat) : isBytes (turn1 xs i) := by
  have hb := isBytes_getD hx (i / 8)
  have h := (byte_xor hb.1 hb.2 (show i % 8 < 8 by omega)).1
  exact isBytes_set hx _ h.1 h.2
theorem turn1_length (xs : List Int) (i : Nat) : (turn1 xs i).length = xs.length := by simp [turn1]
theorem clear1_bit {xs : List Int} (hx : isBytes xs) {i : Nat} (hi : i / 8 < xs.length) (j : Nat) : bitL (change1 xs i false) j = (bitL xs j && !decide (j = i)) := by
  unfold change1
  rw [if_neg (by simp)]
  have hb := isBytes_getD hx (i / 8)
  have h := (byte_clear hb.1 hb.2 (show i % 8 < 8 by omega)).2 (j % 8) (by omega)
  rw [bitL_set hi]
  split
  · rename_i e
    rw [h]
    unfold bitL
    rw [e]
    congr 2
    exact decide_eq_decide.2 (by omega)
  · rename_i e
    rw [show decide (j = i) = false from decide_eq_false (fun q => e (by rw [q]))]
    simp
theorem set1_bit {xs : List Int} (hx : isBytes xs) {i : Nat} (hi : i / 8 < xs.length) (j : Nat) : bitL (change1 xs i true) j = (bitL xs j || decide (j = i)) := by
  unfold change1
  rw [if_pos rfl]
  have hb := isBytes_getD hx (i / 8)
  have hc := byte_clear hb.1 hb.2 (show i % 8 < 8 by omega)
  have hs := byte_set hc.1.1 hc.1.2 (show i % 8 < 8 by omega)
  rw [bitL_set (by simpa using hi)]
  split
  · rename_i e
    rw [hs.2 _ (by omega), hc.2 _ (by omega)]
    unfold bitL
    rw [e]
    have : decide (j % 8 = i % 8) = decide (j = i) := decide_eq_decide.2 (by omega)
    rw [this]
    cases bitv (xs.getD (i / 8) 0) (j % 8) <;> cases decide (j = i) <;> rfl
  · rename_i e
    rw [bitL_set hi, if_neg e, show decide (j = i) = false from decide_eq_false (fun q => e (by rw [q]))]
    simp
theorem change1_isBytes {xs : List Int} (hx : isBytes xs) (i : Nat) (t : Bool) : isBytes (change1 xs i t) := by
  have hb := isBytes_getD hx (i / 8)
  have hc := byte_clear hb.1 hb.2 (show i % 8 < 8 by omega)
  have hs := byte_set hc.1.1 hc.1.2 (show i % 8 < 8 by omega)
  unfold change1
  split
  · exact isBytes_set (isBytes_set hx _ hc.1.1 hc.1.2) _ hs.1.1 hs.1.2
  · exact isBytes_set hx _ hc.1.1 hc.1.2
theorem change1_length (xs : List Int) (i : Nat) (t : Bool) : (change1 xs i t).length = xs.length := by
  unfold change1
  split <;> simp
theorem turnL_isBytes {xs : List Int} (hx : isBytes xs) (a : Nat) : ∀ n, isBytes (turnL xs a n)
  | 0 => hx
  | n + 1 => turn1_isBytes (turnL_isBytes hx a n) _
theorem changeL_isBytes {xs : List Int} (hx : isBytes xs) (a : Nat) (t : Bool) : ∀ n, isBytes (changeL xs a t n)
  | 0 => hx
  | n + 1 => change1_isBytes (changeL_isBytes hx a t n) _ _
/-- The bits behind a change. -/
theorem changeL_bit {xs : List Int} (hx : isBytes xs) (a : Nat) (t : Bool) : ∀ (n : Nat), a + n ≤ 8 * xs.length → ∀ j, bitL (changeL xs a t n) j = if a ≤ j ∧ j < a + n then t else bitL xs j
  | 0, h, j => by rw [if_neg (by omega)]; rfl
  | n + 1, h, j => by
    have ih := changeL_bit hx a t n (by omega) j
    have hi : (a + n) / 8 < (changeL xs a t n).length := by rw [changeL_length]; omega
    simp only [changeL]
    cases t
    · rw [clear1_bit (changeL_isBytes hx a false n) hi, ih]
      by_cases e : j = a + n
      · subst e; simp
      · rw [show decide (j = a + n) = false from decide_eq_false e]
        by_cases e2 : a ≤ j ∧ j < a + n
        · rw [if_pos e2, if_pos (by omega)]; rfl
        · rw [if_neg e2, if_neg (by omega)]; simp
    · rw [set1_bit (changeL_isBytes hx a true n) hi, ih]
      by_cases e : j = a + n
      · subst e; simp
      · rw [show decide (j = a + n) = false from decide_eq_false e]
        by_cases e2 : a ≤ j ∧ j < a + n
        · rw [if_pos e2, if_pos (by omega)]; rfl
        · rw [if_neg e2, if_neg (by omega)]; simp
theorem turnL_bit {xs : List Int} (hx : isBytes xs) (a : Nat) : ∀ (n : Nat), a + n ≤ 8 * xs.length → ∀ j, bitL (turnL xs a n) j = if a ≤ j ∧ j < a + n then !bitL xs j else bitL xs j
  | 0, h, j => by rw [if_neg (by omega)]; rfl
  | n + 1, h, j => by
    have ih := turnL_bit hx a n (by omega) j
    have hi : (a + n) / 8 < (turnL xs a n).length := by rw [turnL_length]; omega
    simp only [turnL]
    rw [turn1_bit (turnL_isBytes hx a n) hi, ih]
    by_cases e : j = a + n
    · subst e; simp
    · rw [show decide (j = a + n) = false from decide_eq_false e]
      by_cases e2 : a ≤ j ∧ j < a + n
      · rw [if_pos e2, if_pos (by omega)]; simp
      · rw [if_neg e2, if_neg (by omega)]; simp
/-- Where the bits were the other way, turning them is setting (or clearing) them. -/
theorem turn_change {xs : List Int} (hx : isBytes xs) (a n : Nat) (t : Bool) (h : a + n ≤ 8 * xs.length) (hb : ∀ j, a ≤ j → j < a + n → bitL xs j = !t) : turnL xs a n = changeL xs a t n := by
  refine bytes_ext (turnL_isBytes hx a n) (changeL_isBytes hx a t n) (by rw [turnL_length, changeL_length]) (fun j hj => ?_)
  rw [turnL_bit hx a n h, changeL_bit hx a t n h]
  split
  · rename_i c
    rw [hb j c.1 c.2]; simp
  · rfl
/-- All of n lines from a on are taken (t), or all are free. -/
def allAre (s : ByteArray) (t : Bool) (a n : Int) : Prop := ∀ j, a ≤ j → j < a + n → tkn s j = t
theorem allAre_iff (s : ByteArray) (t : Bool) (a n : Nat) : allAre s t a n ↔ ∀ j : Nat, a ≤ j → j < a + n → bitL (bytesOf s) j = t :=
  ⟨fun h j h0 h1 => by have := h (j : Int) (by omega) (by omega); simpa [tkn] using this, fun h j h0 h1 => by
    have := h j.toNat (by omega) (by omega)
    exact this⟩
instance allAre_dec (s : ByteArray) (t : Bool) (a n : Nat) : Decidable (∀ j : Nat, a ≤ j → j < a + n → bitL (bytesOf s) j = t) :=
  decidable_of_iff (∀ i, i < n → bitL (bytesOf s) (a + i) = t) ⟨fun h j h0 h1 => by have := h (j - a) (by omega); rwa [show a + (j - a) = j from by omega] at this, fun h i hi => h (a + i) (by omega) (by omega)⟩
def runOk (s : ByteArray) (a n : Int) : Prop := mapOk s ∧ (1 ≤ n ∧ n ≤ 128) ∧ 0 ≤ a ∧ a ≤ 128 - n
instance (s : ByteArray) (a n : Int) : Decidable (runOk s a n) := by unfold runOk; infer_instance
/-- TakeRun (t = true), GiveRun (t = false). -/
def changed (s : ByteArray) (t : Bool) (a n : Nat) : ByteArray := strOfNums (changeL (bytesOf s) a t n)
def runResult (s : ByteArray) (t : Bool) (a n : Int) : ByteArray × Bool :=
  if runOk s a n then (if ∀ j : Nat, a.toNat ≤ j → j < a.toNat + n.toNat → bitL (bytesOf s) j = !t then (changed s t a.toNat n.toNat, true) else (⟨#[]⟩, false)) else (⟨#[]⟩, false)
end Go.Proofs.YtmciidoohbmipaaGreatDoor.Abs.Pu
namespace Go.Proofs.YtmciidoohbmipaaGreatDoor.Abs.Pu
open Go Go.RowKit
set_option linter.unusedVariables false
set_option linter.unusedSectionVars false
set_option linter.unusedSimpArgs false
theorem spec_l1Zeros_f (n : Nat) (h : n ≤ 1048576) : spec_l1Zeros.f (n : Int) = some (zerosB n) := by
  unfold spec_l1Zeros.f
  rw [if_pos (by omega), if_pos (by rw [Int.toNat_natCast]; omega), Int.toNat_natCast]
  rfl
end Go.Proofs.YtmciidoohbmipaaGreatDoor.Abs.Pu
namespace Go.Proofs.YtmciidoohbmipaaGreatDoor.Abs.Pu
open Go Go.RowKit
set_option linter.unusedVariables false
set_option linter.unusedSectionVars false
set_option linter.unusedSimpArgs false
theorem impl_zeros_f (n : Nat) (h : n ≤ 1048576) : impl_zeros.f (n : Int) = some (zerosB n) := by
  unfold impl_zeros.f strings_Repeat.f
  rw [if_pos (by omega), if_pos (by omega), if_pos (by decide)]
  simp only [Option.bind_some, Int.toNat_natCast]
  refine congrArg some ?_
  rw [repeat_zero]
  simp [zerosB, strOfNums]
end Go.Proofs.YtmciidoohbmipaaGreatDoor.Abs.Pu
namespace Go.Proofs.YtmciidoohbmipaaGreatDoor.Abs.Pu
open Go Go.RowKit
set_option linter.unusedVariables false
set_option linter.unusedSectionVars false
set_option linter.unusedSimpArgs false
def U32 (c : Int) : Prop := 0 ≤ c ∧ c < 4294967296
theorem wrap_u32 (x : Int) : IntKind.u32.wrap x = x % 4294967296 := by simp [IntKind.wrap, IntKind.bits, IntKind.signed]
theorem xor32_range (x y : Int) : U32 (xorA .u32 x y) := by
  unfold xorA U32
  rw [wrap_u32]
  omega
theorem u64_id' {x : Int} (h : U32 x) : IntKind.u64.wrap x = x := by
  rw [wrap_u64]
  unfold U32 at h
  omega
def crcBit (c : Int) : Int := if c % 2 = 1 then xorA .u32 (shrA .u32 c 1) 3988292384 else shrA .u32 c 1
theorem shr1_u32 (x : Int) : shrA .u32 x 1 = x / 2 := rfl
theorem crcBit_range {c : Int} (h : U32 c) : U32 (crcBit c) := by
  unfold crcBit
  split
  · exact xor32_range _ _
  · rw [shr1_u32]
    unfold U32 at h ⊢
    omega
theorem wraps_u32 (n : Int) (h0 : 0 ≤ n) (h1 : n < 2 ^ 32) : IntKind.u32.wrap n = n := by
  have e : (2 : Int) ^ 32 = 4294967296 := by decide
  rw [e] at h1
  rw [wrap_u32]
  omega
theorem and1_u32 {x : Int} (h : U32 x) : andA .u32 x 1 = x % 2 := by
  have e : (2 : Int) ^ 32 = 4294967296 := by decide
  have h2 := h.2
  have h := Go.bits_mask .u32 32 (by decide) wraps_u32 1 (by decide) x h.1 (by rw [e]; exact h2)
  simpa [andA_eq] using h
def crcIt : Nat → Int → Int
  | 0, c => c
  | n + 1, c => crcIt n (crcBit c)
theorem crcIt_range : ∀ (n : Nat) {c : Int}, U32 c → U32 (crcIt n c)
  | 0, _, h => h
  | n + 1, _, h => crcIt_range n (crcBit_range h)
def crcFrom (s : ByteArray) : Nat → Nat → Int → Int
  | 0, _, c => c
  | d + 1, i, c => crcFrom s d (i + 1) (crcIt 8 (xorA .u32 c (IntKind.wrap .u32 (bt s (i : Int)))))
theorem crcFrom_range (s : ByteArray) : ∀ (d i : Nat) {c : Int}, U32 c → U32 (crcFrom s d i c)
  | 0, _, _, h => h
  | d + 1, i, c, h => crcFrom_range s d (i + 1) (crcIt_range 8 (xor32_range _ _))
def out4 (v : Int) : ByteArray := strOfNums [v / 16777216 % 256, v / 65536 % 256, v / 256 % 256, v % 256]
def crcB (s : ByteArray) : ByteArray := out4 (xorA .u32 4294967295 (crcFrom s s.size 0 4294967295))
theorem crcB_size (s : ByteArray) : (crcB s).size = 4 := strOfNums_size _
theorem U32_top : U32 4294967295 := by unfold U32; omega
theorem spec_l1Crc_ev (s : ByteArray) (hs : s.size ≤ 20000) : Ev (fun k => spec_l1Crc.f k s) (crcB s) := by
  have inner : ∀ (n j : Nat) (c : Int) (i : Nat) (r : ByteArray), j + n = 8 → U32 c → i ≤ 20000 → Ev (fun k => spec_l1Crc.p8 k s (crcIt n c) ((i + 1 : Nat) : Int)) r → Ev (fun k => spec_l1Crc.p22 k s c (i : Int) (j : Int)) r := by
    intro n
    induction n with
    | zero =>
      intro j c i r hj hc hi hr
      refine Ev.step (fun k => by rw [spec_l1Crc.p22]) ?_
      rw [w64s (i := i) (by omega)]
      exact Ev.neg (by omega) hr
    | succ n ih =>
      intro j c i r hj hc hi hr
      have nx := ih (j + 1) (crcBit c) i r (by omega) (crcBit_range hc) hi hr
      unfold crcBit at nx
      refine Ev.step (fun k => by rw [spec_l1Crc.p22]) ?_
      rw [w64s (i := j) (by omega), Int.tmod_eq_emod_of_nonneg hc.1]
      refine Ev.pos (by omega) ?_
      by_cases k : c % 2 = 1
      · rw [if_pos k] at nx
        exact Ev.pos k nx
      · rw [if_neg k] at nx
        exact Ev.neg k nx
  have outer : ∀ (d i : Nat) (c : Int), i + d = s.size → U32 c → Ev (fun k => spec_l1Crc.p8 k s c (i : Int)) (out4 (xorA .u32 4294967295 (crcFrom s d i c))) := by
    intro d
    induction d with
    | zero =>
      intro i c hi hc
      refine Ev.step (fun k => by rw [spec_l1Crc.p8]) ?_
      exact Ev.neg (by omega) (Ev.eq rfl)
    | succ d ih =>
      intro i c hi hc
      refine Ev.step (fun k => by rw [spec_l1Crc.p8]) ?_
      exact Ev.pos (by omega) (Ev.pos (by omega) (Ev.pos (by omega) (inner 8 0 _ i _ rfl (xor32_range _ _) (by omega) (ih (i + 1) _ (by omega) (crcIt_range 8 (xor32_range _ _))))))
  unfold spec_l1Crc.f
  exact outer s.size 0 4294967295 (by omega) U32_top
def sealT (s : ByteArray) : ByteArray := s ++ zerosB (60 - s.size)
def sealR (s : ByteArray) : ByteArray := sealT s ++ crcB (sealT s)
theorem sealT_size {s : ByteArray} (h : s.size ≤ 60) : (sealT s).size = 60 := by
  unfold sealT
  rw [ByteArray.size_append, zerosB_size]
  omega
theorem sealR_size {s : ByteArray} (h : s.size ≤ 60) : (sealR s).size = 64 := by
  unfold sealR
  rw [ByteArray.size_append, crcB_size, sealT_size h]
theorem spec_Sealed_ev (s : ByteArray) (h : s.size ≤ 60) : Ev (fun k => spec_Sealed.f k s) (sealR s) := by
  have hz := spec_l1Zeros_f (60 - s.size) (by omega)
  have hs := zerosB_size (60 - s.size)
  have ht := sealT_size h
  unfold spec_Sealed.f
  rw [w64 (x := 60 - (s.size : Int)) (by omega) (by omega), show 60 - (s.size : Int) = ((60 - s.size : Nat) : Int) from by omega]
  refine Ev.neg (by omega) (Ev.bindo hz (Ev.pos (by omega) ?_))
  have hc := spec_l1Crc_ev (sealT s) (by omega)
  have hcs := crcB_size (sealT s)
  unfold sealT at hc ht hcs
  exact Ev.bind hc (Ev.pos (by rw [ht, hcs]; omega) (Ev.eq rfl))
end Go.Proofs.YtmciidoohbmipaaGreatDoor.Abs.Pu
namespace Go.Proofs.YtmciidoohbmipaaGreatDoor.Abs
open Go Go.RowKit
set_option linter.unusedVariables false
set_option linter.unusedSectionVars false
set_option linter.unusedSimpArgs false

theorem rdOf_get {α : Type} {d : α} {l : List α} {i : Nat} (h : i < l.length) : rdOf d l (i : Int) = l[i] := by
  simp [rdOf, List.getD_eq_getElem?_getD, List.getElem?_eq_getElem h]

/-- The search: the first place where the test says yes, or -1. -/
theorem index_ev {α : Type} {d : α} {l : List α} (hl : l.length ≤ 1099511627776) {g : Nat → Int → Option Int} {t : Nat → α → Option Bool} {f : α → Bool}
    (hg : ∀ k (i : Int), g (k + 1) i = if i < (l.length : Int) then (if 0 ≤ i then (if i < (l.length : Int) then ((t k (rdOf d l i)).bind fun b => if b = true then some i else g k (wrap64 (i + 1))) else none) else none) else some (-1))
    (ht : ∀ x ∈ l, Ev (fun k => t k x) (f x)) : ∃ r, Ev (fun k => g k 0) r ∧ decide (r ≥ 0) = l.any f := by
  have lp : ∀ (m i : Nat), l.length - i = m → i ≤ l.length → ∃ r, Ev (fun k => g k (i : Int)) r ∧ decide (r ≥ 0) = (l.drop i).any f := by
    intro m
    induction m with
    | zero =>
      intro i hm hi
      rw [List.drop_eq_nil_of_le (by omega)]
      exact ⟨-1, Ev.step (fun k => by rw [hg]) (Ev.neg (by omega) (Ev.eq rfl)), by simp⟩
    | succ m ih =>
      intro i hm hi
      have hlt : i < l.length := by omega
      obtain ⟨r, hr, he⟩ := ih (i + 1) (by omega) (by omega)
      rw [List.drop_eq_getElem_cons hlt, List.any_cons]
      cases c : f l[i] with
      | true =>
        refine ⟨(i : Int), Ev.step (fun k => by rw [hg]) (Ev.pos (by omega) (Ev.pos (by omega) (Ev.pos (by omega) ?_))), by simp⟩
        rw [rdOf_get hlt]
        exact Ev.bind (ht _ (List.getElem_mem hlt)) (Ev.pos c (Ev.eq rfl))
      | false =>
        refine ⟨r, Ev.step (fun k => by rw [hg]) (Ev.pos (by omega) (Ev.pos (by omega) (Ev.pos (by omega) ?_))), by rw [he, Bool.false_or]⟩
        rw [rdOf_get hlt, show wrap64 ((i : Int) + 1) = ((i + 1 : Nat) : Int) from by rw [w64 (by omega) (by omega)]; omega]
        exact Ev.bind (ht _ (List.getElem_mem hlt)) (Ev.neg (by simp [c]) hr)
  obtain ⟨r, h1, h2⟩ := lp _ 0 rfl (Nat.zero_le _)
  exact ⟨r, h1, by rw [h2, List.drop_zero]⟩

/-- ContainsFunc. -/
theorem contains_ev {α : Type} {d : α} {l : List α} (hl : l.length ≤ 1099511627776) {g : Nat → Int → Option Int} {t : Nat → α → Option Bool} {f : α → Bool}
    (hg : ∀ k (i : Int), g (k + 1) i = if i < (l.length : Int) then (if 0 ≤ i then (if i < (l.length : Int) then ((t k (rdOf d l i)).bind fun b => if b = true then some i else g k (wrap64 (i + 1))) else none) else none) else some (-1))
    (ht : ∀ x ∈ l, Ev (fun k => t k x) (f x)) : Ev (fun k => (g k 0).bind fun t1 => some (decide (t1 ≥ 0))) (l.any f) := by
  obtain ⟨r, h1, h2⟩ := index_ev hl hg ht
  exact Ev.bind h1 (Ev.eq h2)
end Go.Proofs.YtmciidoohbmipaaGreatDoor.Abs
namespace Go.Proofs.YtmciidoohbmipaaGreatDoor.Abs
open Go Go.RowKit
set_option linter.unusedVariables false
set_option linter.unusedSectionVars false
set_option linter.unusedSimpArgs false
def kindsOk (l : List UInt8) : Bool := l.all fun b => [105, 114].contains b
def typeOk (s : ByteArray) : Bool := decide (1 ≤ s.size ∧ s.size ≤ 23) && kindsOk s.data.toList
def typesOk (l : List ByteArray) : Bool := decide (1 ≤ l.length ∧ l.length ≤ 12) && l.all typeOk
theorem dropWhile_all {p : UInt8 → Bool} : ∀ l : List UInt8, (∀ x ∈ l.dropWhile p, p x = true) → l.dropWhile p = []
  | [], _ => rfl
  | a :: l, h => by
    by_cases c : p a = true
    · rw [List.dropWhile_cons_of_pos c] at h ⊢
      exact dropWhile_all l h
    · rw [List.dropWhile_cons_of_neg c] at h
      exact absurd (h a (List.mem_cons_self ..)) c
theorem dropWhile_nil_iff {p : UInt8 → Bool} (l : List UInt8) : l.dropWhile p = [] ↔ ∀ x ∈ l, p x = true := by
  constructor
  · intro h
    induction l with
    | nil => simp
    | cons a l ih =>
      by_cases c : p a = true
      · rw [List.dropWhile_cons_of_pos c] at h
        intro x hx
        rcases List.mem_cons.1 hx with rfl | hx
        · exact c
        · exact ih h x hx
      · rw [List.dropWhile_cons_of_neg c] at h
        cases h
  · exact fun h => dropWhile_all l (fun x hx => h x ((List.dropWhile_sublist _).mem hx))
theorem trim_nil (l cs : List UInt8) : Lib.trimS l cs = [] ↔ ∀ x ∈ l, cs.contains x = true := by
  unfold Lib.trimS Lib.trimLeftS Lib.trimRightS
  rw [dropWhile_nil_iff]
  constructor
  · intro h
    have h1 := dropWhile_all (p := fun x => cs.contains x) l.reverse (fun x hx => h x (List.mem_reverse.2 hx))
    rw [dropWhile_nil_iff] at h1
    exact fun x hx => h1 x (List.mem_reverse.2 hx)
  · intro h x hx
    exact h x (List.mem_reverse.1 ((List.dropWhile_sublist _).mem (List.mem_reverse.1 hx)))
theorem isType_f (s : ByteArray) (hs : s.size ≤ 1048576) : impl_isType.f s = some (typeOk s) := by
  unfold impl_isType.f typeOk
  rw [within_f, Option.bind_some]
  by_cases c : 1 ≤ s.size ∧ s.size ≤ 23
  · rw [if_pos (by simp; omega), decide_eq_true c, Bool.true_and]
    have ht : strings_Trim.f s (⟨#[105, 114]⟩ : ByteArray) = some ⟨(Lib.trimS s.data.toList [105, 114]).toArray⟩ := by
      unfold strings_Trim.f
      rw [if_pos (by omega), if_pos (by decide), if_pos (by decide)]
    rw [ht, Option.bind_some]
    congr 1
    rw [Bool.eq_iff_iff, decide_eq_true_iff, ByteArray.toList_eq, ByteArray.toList_eq]
    show (Lib.trimS s.data.toList [105, 114]).toArray.toList = [] ↔ _
    rw [trim_nil, kindsOk, List.all_eq_true]
  · rw [if_neg (by simp; omega), decide_eq_false c, Bool.false_and]
theorem impl_TypesOk_ev (l : List ByteArray) (hs : ∀ x ∈ l, x.size ≤ 1048576) : Ev (fun k => impl_TypesOk.f k l) (typesOk l) := by
  have hany : l.length ≤ 12 → Ev (fun k => slices_ContainsFunc_string_at_impl_TypesOk_1.f k l) (l.any fun x => !typeOk x) := fun hl => by
    unfold slices_ContainsFunc_string_at_impl_TypesOk_1.f slices_IndexFunc_string_at_impl_TypesOk_1.f
    refine contains_ev (d := ByteArray.empty) (l := l) (by omega) (g := fun k i => slices_IndexFunc_string_at_impl_TypesOk_1.p6 k l (l.length : Int) i) (t := fun _ x => impl_TypesOk_1.f x) (f := fun x => !typeOk x) (fun k i => by rw [slices_IndexFunc_string_at_impl_TypesOk_1.p6]) (fun x hx => ?_)
    unfold impl_TypesOk_1.f
    exact Ev.bindo (isType_f x (hs x hx)) (Ev.eq rfl)
  unfold impl_TypesOk.f typesOk
  refine Ev.bindo rfl (Ev.bindo (within_f _ _ _) ?_)
  by_cases c : 1 ≤ l.length ∧ l.length ≤ 12
  · refine Ev.pos (by simp; omega) (Ev.bind (hany c.2) (Ev.eq ?_))
    rw [decide_eq_true c, Bool.true_and, List.any_eq_not_all_not]
    simp
  · refine Ev.neg (by simp; omega) (Ev.eq ?_)
    rw [decide_eq_false c, Bool.false_and]
theorem bt_get {s : ByteArray} {i : Nat} (h : i < s.data.toList.length) : bt s (i : Int) = (s.data.toList[i].toNat : Int) := by
  have h' : i < s.size := h
  rw [← bt_at s (i : Int) (by simpa using h')]
  simp [ByteArray.getElem_eq_getElem_data]
theorem l3Type_ev (s : ByteArray) (hs : s.size ≤ 1048576) : Ev (fun k => spec_l3Type.f k s) (typeOk s) := by
  have hlen : s.data.toList.length = s.size := rfl
  have lp : ∀ (d i : Nat), s.size - i = d → i ≤ s.size → Ev (fun k => spec_l3Type.p6 k s (i : Int)) (decide (1 ≤ s.size ∧ s.size ≤ 23) && kindsOk (s.data.toList.drop i)) := by
    intro d
    induction d with
    | zero =>
      intro i hd hi
      rw [List.drop_eq_nil_of_le (by omega)]
      refine Ev.step (fun k => by rw [spec_l3Type.p6]) (Ev.neg (by omega) (Ev.bindo (l1In_f _ _ _) (Ev.eq ?_)))
      simp only [kindsOk, List.all_nil, Bool.and_true]
      rw [Bool.eq_iff_iff]
      simp
      omega
    | succ d ih =>
      intro i hd hi
      have hlt : i < s.data.toList.length := by omega
      have ih := ih (i + 1) (by omega) (by omega)
      refine Ev.step (fun k => by rw [spec_l3Type.p6]) ?_
      rw [byteAt_eq, bt_get hlt, show wrap64 ((i : Int) + 1) = ((i + 1 : Nat) : Int) from by rw [w64 (by omega) (by omega)]; omega, List.drop_eq_getElem_cons hlt]
      generalize s.data.toList[i] = b at *
      have hb : kindsOk (b :: s.data.toList.drop (i + 1)) = ([105, 114].contains b && kindsOk (s.data.toList.drop (i + 1))) := rfl
      rw [hb]
      refine Ev.pos (by omega) (Ev.pos (by omega) (Ev.pos (by omega) (Ev.cases (fun c => ?_) (fun c => Ev.pos (by omega) (Ev.pos (by omega) (Ev.cases (fun c2 => ?_) (fun c2 => Ev.eq ?_)))))))
      · have e : b = 105 := UInt8.toNat_inj.1 (by show b.toNat = 105; omega)
        subst e
        rw [show [105, 114].contains (105 : UInt8) = true from rfl, Bool.true_and]
        exact ih
      · have e : b = 114 := UInt8.toNat_inj.1 (by show b.toNat = 114; omega)
        subst e
        rw [show [105, 114].contains (114 : UInt8) = true from rfl, Bool.true_and]
        exact ih
      · have e : [105, 114].contains b = false := by
          rw [Bool.eq_false_iff]
          intro h
          simp at h
          rcases h with h | h
          · subst h; exact c rfl
          · subst h; exact c2 rfl
        rw [e, Bool.false_and, Bool.and_false]
  unfold spec_l3Type.f typeOk
  have h := lp _ 0 rfl (by omega)
  rw [List.drop_zero] at h
  exact h
theorem spec_TypesOk_ev (l : List ByteArray) (hl : l.length ≤ 1048576) (hs : ∀ x ∈ l, x.size ≤ 1048576) : Ev (fun k => spec_TypesOk.f k l) (typesOk l) := by
  have lp : ∀ (d i : Nat), l.length - i = d → i ≤ l.length → Ev (fun k => spec_TypesOk.p14 k l (i : Int)) ((l.drop i).all typeOk) := by
    intro d
    induction d with
    | zero =>
      intro i hd hi
      rw [List.drop_eq_nil_of_le (by omega)]
      refine Ev.step (fun k => by rw [spec_TypesOk.p14]) ?_
      exact Ev.neg (by omega) (Ev.eq rfl)
    | succ d ih =>
      intro i hd hi
      have hlt : i < l.length := by omega
      have ih := ih (i + 1) (by omega) (by omega)
      refine Ev.step (fun k => by rw [spec_TypesOk.p14]) ?_
      rw [show rdOf ByteArray.empty l (i : Int) = l[i] from by simp [rdOf, List.getD_eq_getElem?_getD, List.getElem?_eq_getElem hlt], show wrap64 ((i : Int) + 1) = ((i + 1 : Nat) : Int) from by rw [w64 (by omega) (by omega)]; omega, List.drop_eq_getElem_cons hlt, List.all_cons]
      refine Ev.pos (by omega) (Ev.pos (by omega) (Ev.pos (by omega) (Ev.bind (l3Type_ev l[i] (hs _ (List.getElem_mem hlt))) (Ev.cases (fun c => ?_) (fun c => ?_)))))
      · rw [c, Bool.true_and]
        exact ih
      · rw [Bool.eq_false_iff.2 c, Bool.false_and]
        exact Ev.eq rfl
  unfold spec_TypesOk.f typesOk
  refine Ev.bindo (l1In_f _ _ _) ?_
  by_cases c : 1 ≤ l.length ∧ l.length ≤ 12
  · rw [decide_eq_true c, Bool.true_and]
    refine Ev.pos (by simp; omega) ?_
    have h := lp _ 0 rfl (by omega)
    rw [List.drop_zero] at h
    exact h
  · rw [decide_eq_false c, Bool.false_and]
    exact Ev.neg (by simp; omega) (Ev.eq rfl)
end Go.Proofs.YtmciidoohbmipaaGreatDoor.Abs
namespace Go.Proofs.YtmciidoohbmipaaGreatDoor.Abs.Pu
open Go Go.RowKit
set_option linter.unusedVariables false
set_option linter.unusedSectionVars false
set_option linter.unusedSimpArgs false
abbrev Cfg := Int × Int × Int × List ByteArray
def configOk (c : Cfg) : Bool := (decide (8 ≤ c.1) && decide (c.1 ≤ 128)) && ((decide (1 ≤ c.2.1) && decide (c.2.1 ≤ 32 ∧ c.2.1 ≤ c.1 - 5)) && ((decide (2 ≤ c.2.2.1) && decide (c.2.2.1 ≤ 400)) && typesOk c.2.2.2))
theorem impl_ConfigOk_ev (c : Cfg) (hs : ∀ x ∈ c.2.2.2, x.size ≤ 1048576) : Ev (fun k => impl_ConfigOk.f k c.1 c.2.1 c.2.2.1 c.2.2.2) (configOk c) := by
  unfold impl_ConfigOk.f configOk
  refine Ev.bindo (within_f _ _ _) (Ev.cases (fun h => ?_) (fun h => by rw [Bool.eq_false_iff.2 h, Bool.false_and]; exact Ev.eq rfl))
  rw [h, Bool.true_and]
  simp only [Bool.and_eq_true, decide_eq_true_eq] at h
  rw [w64 (x := c.1 - 5) (by omega) (by omega)]
  have e : (decide (1 ≤ c.2.1) && decide (c.2.1 ≤ (if c.1 - 5 < 32 then c.1 - 5 else 32))) = (decide (1 ≤ c.2.1) && decide (c.2.1 ≤ 32 ∧ c.2.1 ≤ c.1 - 5)) := by
    congr 1
    rw [decide_eq_decide]
    split <;> omega
  refine Ev.bindo (within_f _ _ _) ?_
  rw [e]
  refine Ev.cases (fun h2 => ?_) (fun h2 => by rw [Bool.eq_false_iff.2 h2, Bool.false_and]; exact Ev.eq rfl)
  rw [h2, Bool.true_and]
  refine Ev.bindo (within_f _ _ _) (Ev.cases (fun h3 => ?_) (fun h3 => by rw [Bool.eq_false_iff.2 h3, Bool.false_and]; exact Ev.eq rfl))
  rw [h3, Bool.true_and]
  exact Ev.bind (impl_TypesOk_ev _ hs) (Ev.eq rfl)
theorem spec_ConfigOk_ev (c : Cfg) (hl : c.2.2.2.length ≤ 1048576) (hs : ∀ x ∈ c.2.2.2, x.size ≤ 1048576) : Ev (fun k => spec_ConfigOk.f k c.1 c.2.1 c.2.2.1 c.2.2.2) (configOk c) := by
  unfold spec_ConfigOk.f configOk
  refine Ev.bindo (l1In_f _ _ _) (Ev.cases (fun h => ?_) (fun h => by rw [Bool.eq_false_iff.2 h, Bool.false_and]; exact Ev.eq rfl))
  rw [h, Bool.true_and]
  simp only [Bool.and_eq_true, decide_eq_true_eq] at h
  rw [w64 (x := c.1 - 5) (by omega) (by omega)]
  refine Ev.bindo (l1In_f _ _ _) (Ev.cases (fun h2 => ?_) (fun h2 => ?_))
  · simp only [Bool.and_eq_true, decide_eq_true_eq] at h2
    refine Ev.cases (fun h4 => ?_) (fun h4 => ?_)
    · rw [decide_eq_true h2.1, decide_eq_true (show c.2.1 ≤ 32 ∧ c.2.1 ≤ c.1 - 5 from ⟨h2.2, h4⟩), Bool.true_and, Bool.true_and]
      refine Ev.bindo (l1In_f _ _ _) (Ev.cases (fun h3 => ?_) (fun h3 => by rw [Bool.eq_false_iff.2 h3, Bool.false_and]; exact Ev.eq rfl))
      rw [h3, Bool.true_and]
      exact Ev.bind (spec_TypesOk_ev _ hl hs) (Ev.eq rfl)
    · rw [decide_eq_false (show ¬ (c.2.1 ≤ 32 ∧ c.2.1 ≤ c.1 - 5) from fun h => h4 h.2), Bool.and_false, Bool.false_and]
      exact Ev.eq rfl
  · have : (decide (1 ≤ c.2.1) && decide (c.2.1 ≤ 32 ∧ c.2.1 ≤ c.1 - 5)) = false := by
      rw [Bool.eq_false_iff]
      intro h3
      apply h2
      simp only [Bool.and_eq_true, decide_eq_true_eq] at h3 ⊢
      omega
    rw [this, Bool.false_and]
    exact Ev.eq rfl
theorem configOk_facts {c : Cfg} (h : configOk c = true) : 8 ≤ c.1 ∧ c.1 ≤ 128 ∧ 1 ≤ c.2.1 ∧ c.2.1 ≤ 32 ∧ c.2.1 ≤ c.1 - 5 ∧ 2 ≤ c.2.2.1 ∧ c.2.2.1 ≤ 400 ∧ typesOk c.2.2.2 = true := by
  unfold configOk at h
  simp only [Bool.and_eq_true, decide_eq_true_eq] at h
  exact ⟨h.1.1, h.1.2, h.2.1.1, h.2.1.2.1, h.2.1.2.2, h.2.2.1.1, h.2.2.1.2, h.2.2.2⟩
end Go.Proofs.YtmciidoohbmipaaGreatDoor.Abs.Pu
namespace Go.Proofs.YtmciidoohbmipaaGreatDoor.Abs.Pu
open Go Go.RowKit
set_option linter.unusedVariables false
set_option linter.unusedSectionVars false
set_option linter.unusedSimpArgs false
/-- An object of valid types, its references such that p holds. -/
def objW (p : Int → Bool) (types : List ByteArray) (o : Int × List Int) : Bool :=
  (decide (0 ≤ o.1) && decide (o.1 ≤ (types.length : Int) - 1)) && (decide (o.2.length = (rdOf ByteArray.empty types o.1).size) && refsB p (rdOf ByteArray.empty types o.1) 0 o.2)
theorem type_size {types : List ByteArray} (ht : typesOk types = true) (t : Int) : (rdOf ByteArray.empty types t).size ≤ 23 := by
  unfold typesOk at ht
  rw [Bool.and_eq_true, List.all_eq_true] at ht
  unfold rdOf
  by_cases h : t.toNat < types.length
  · have := ht.2 _ (List.getElem_mem h)
    rw [List.getD_eq_getElem?_getD, List.getElem?_eq_getElem h]
    unfold typeOk at this
    simp only [Bool.and_eq_true, decide_eq_true_eq] at this
    exact this.1.2
  · rw [List.getD_eq_getElem?_getD, List.getElem?_eq_none (by omega)]
    exact Nat.zero_le _
theorem types_len {types : List ByteArray} (ht : typesOk types = true) : 1 ≤ types.length ∧ types.length ≤ 12 := by
  unfold typesOk at ht
  rw [Bool.and_eq_true] at ht
  simpa using ht.1
end Go.Proofs.YtmciidoohbmipaaGreatDoor.Abs.Pu
namespace Go.Proofs.YtmciidoohbmipaaGreatDoor.Abs.Pu
open Go Go.RowKit
set_option linter.unusedVariables false
set_option linter.unusedSectionVars false
set_option linter.unusedSimpArgs false
def shortB (n : Int) : ByteArray := strOfNums [n / 256 % 256, n % 256]
theorem shortB_size (n : Int) : (shortB n).size = 2 := strOfNums_size _
theorem byte_ok (x : Int) : 0 ≤ x % 256 ∧ x % 256 ≤ 255 := by omega
theorem isBytes2 (x y : Int) : isBytes [x % 256, y % 256] := by
  intro z hz
  simp only [List.mem_cons, List.not_mem_nil, or_false] at hz
  rcases hz with rfl | rfl
  · exact byte_ok _
  · exact byte_ok _
theorem spec_ShortBytes_ev (n : Int) (h0 : 0 ≤ n) (h1 : n ≤ 65535) : Ev (fun k => spec_ShortBytes.f k n) (shortB n) := by
  have hz := wordB_size n
  unfold spec_ShortBytes.f
  refine Ev.bindo (l1In_f _ _ _) (Ev.pos (by simp; omega) (Ev.bind (spec_WordBytes_ev n) (Ev.pos (by omega) (Ev.eq ?_))))
  refine bytesOf_inj ?_
  have hu : IntKind.u64.wrap n = n := by rw [wrap_u64]; omega
  rw [bytesOf_cut, wordB, hu, bytesOf_strOfNums (wordL_isBytes n), Int.toNat_natCast, strOfNums_size, shortB, bytesOf_strOfNums (isBytes2 _ _)]
  show [byte8 n 6, byte8 n 7] = _
  unfold byte8
  simp
/-- The mask of a type, from a field on. -/
def maskF (t : ByteArray) : Nat → Nat → Int → Int
  | 0, _, m => m
  | d + 1, i, m => maskF t d (i + 1) (if bt t (i : Int) = 114 then orA .i64 m (shlA .i64 1 (i : Int)) else m)
def quad (t : ByteArray) : ByteArray := strOf [(t.size : Int) % 256, shrA .i64 (maskF t t.size 0 0) 16 % 256, shrA .i64 (maskF t t.size 0 0) 8 % 256, maskF t t.size 0 0 % 256]
theorem quad_size (t : ByteArray) : (quad t).size = 4 := strOfNums_size _
def nvg : ByteArray := ⟨#[78, 86, 71, 49]⟩
theorem nvg_size : nvg.size = 4 := rfl
def headB (c : Cfg) : ByteArray := (((nvg ++ shortB c.1) ++ shortB c.2.1) ++ shortB c.2.2.1) ++ strOf [(c.2.2.2.length : Int) % 256]
theorem headB_size (c : Cfg) : (headB c).size = 11 := by
  unfold headB
  have h1 : (strOf [(c.2.2.2.length : Int) % 256]).size = 1 := strOfNums_size _
  simp only [ByteArray.size_append, shortB_size, nvg_size, h1]
def quads (ts : List ByteArray) (s : ByteArray) : ByteArray := ts.foldl (fun s t => s ++ quad t) s
theorem quads_size : ∀ (ts : List ByteArray) (s : ByteArray), (quads ts s).size = s.size + 4 * ts.length
  | [], s => by simp [quads]
  | t :: ts, s => by
    have := quads_size ts (s ++ quad t)
    unfold quads at this ⊢
    rw [List.foldl_cons, this, ByteArray.size_append, quad_size, List.length_cons]
    omega
theorem u64_nat {i : Nat} (h : i ≤ 1000000) : IntKind.u64.wrap (i : Int) = (i : Int) := by rw [wrap_u64]; omega
theorem spec_l3Super_ev (c : Cfg) (hc : configOk c = true) : Ev (fun k => spec_l3Super.f k c.1 c.2.1 c.2.2.1 c.2.2.2) (sealR (quads c.2.2.2 (headB c))) := by
  have hf := configOk_facts hc
  have ht := hf.2.2.2.2.2.2.2
  have htl := types_len ht
  unfold spec_l3Super.f
  have h1 : (strOf [(c.2.2.2.length : Int) % 256]).size = 1 := strOfNums_size _
  refine Ev.bind (spec_ShortBytes_ev c.1 (by omega) (by omega)) (Ev.pos (by rw [shortB_size]; decide) ?_)
  refine Ev.bind (spec_ShortBytes_ev c.2.1 (by omega) (by omega)) (Ev.pos (by simp only [ByteArray.size_append, shortB_size]; decide) ?_)
  refine Ev.bind (spec_ShortBytes_ev c.2.2.1 (by omega) (by omega)) (Ev.pos (by simp only [ByteArray.size_append, shortB_size]; decide) (Ev.pos (by simp only [ByteArray.size_append, shortB_size, h1]; decide) ?_))
  have key : ∀ i, i ≤ c.2.2.2.length → ∀ s : ByteArray, s.size + 4 * (c.2.2.2.length - i) ≤ 60 → Ev (fun k => spec_l3Super.p8 k c.1 c.2.1 c.2.2.1 c.2.2.2 s (i : Int)) (sealR (quads (c.2.2.2.drop i) s)) := by
    refine down ?_ ?_
    · intro s hz
      refine Ev.step (fun k => by rw [spec_l3Super.p8]) ?_
      rw [List.drop_eq_nil_of_le (Nat.le_refl _)]
      exact Ev.neg (by omega) (Ev.bind (spec_Sealed_ev s (by omega)) (Ev.eq rfl))
    · intro i hi ih s hz
      have hg : rdOf ByteArray.empty c.2.2.2 (i : Int) = c.2.2.2[i] := rdg hi
      have hts := type_size ht (i : Int)
      rw [hg] at hts
      have nx := ih (s ++ quad c.2.2.2[i]) (by rw [ByteArray.size_append, quad_size]; omega)
      have hq : quads (c.2.2.2.drop i) s = quads (c.2.2.2.drop (i + 1)) (s ++ quad c.2.2.2[i]) := by
        rw [List.drop_eq_getElem_cons hi]; rfl
      rw [← hq] at nx
      have hqs := quad_size c.2.2.2[i]
      refine Ev.step (fun k => by rw [spec_l3Super.p8]) ?_
      refine Ev.pos (by omega) ?_
      have lp : ∀ (d j : Nat) (m : Int), j + d = (c.2.2.2[i]).size → maskF c.2.2.2[i] d j m = maskF c.2.2.2[i] (c.2.2.2[i]).size 0 0 → Ev (fun k => spec_l3Super.p23 k c.1 c.2.1 c.2.2.1 c.2.2.2 s (i : Int) m (j : Int)) (sealR (quads (c.2.2.2.drop i) s)) := by
        intro d
        induction d with
        | zero =>
          intro j m hj hm
          rw [maskF] at hm
          refine Ev.step (fun k => by rw [spec_l3Super.p23]) ?_
          rw [hg, hm, w64s (i := i) (by omega)]
          unfold quad at nx hqs
          exact Ev.pos (by omega) (Ev.pos (by omega) (Ev.neg (by omega) (Ev.pos (by omega) (Ev.pos (by omega) (Ev.pos (by rw [hqs]; omega) nx)))))
        | succ d ihd =>
          intro j m hj hm
          rw [maskF] at hm
          refine Ev.step (fun k => by rw [spec_l3Super.p23]) ?_
          rw [hg, w64s (i := j) (by omega), u64_nat (by omega)]
          refine Ev.pos (by omega) (Ev.pos (by omega) (Ev.pos (by omega) (Ev.pos (by omega) (Ev.pos (by omega) (Ev.pos (by omega) (Ev.pos (by omega) ?_))))))
          by_cases k : bt c.2.2.2[i] (j : Int) = 114
          · rw [if_pos k] at hm
            exact Ev.pos k (Ev.neg (by omega) (ihd (j + 1) _ (by omega) hm))
          · rw [if_neg k] at hm
            exact Ev.neg k (ihd (j + 1) _ (by omega) hm)
      exact lp (c.2.2.2[i]).size 0 0 (by omega) rfl
  have hh := headB_size c
  exact key 0 (Nat.zero_le _) (headB c) (by omega)
end Go.Proofs.YtmciidoohbmipaaGreatDoor.Abs.Pu
namespace Go.Proofs.YtmciidoohbmipaaGreatDoor.Abs.Pu
open Go Go.RowKit
set_option linter.unusedVariables false
set_option linter.unusedSectionVars false
set_option linter.unusedSimpArgs false
theorem bigBytes4_ev (v : Int) (h : U32 v) : Ev (fun k => impl_bigBytes.f k v 4) (out4 v) := by
  have s8 : ∀ x : Int, shrA .u64 x 8 = x / 256 := fun _ => rfl
  unfold impl_bigBytes.f
  have i0 : wrap64 ((0 : Int) + 1) = 1 := (w64 (by omega) (by omega)).trans (by decide)
  have i1 : wrap64 ((1 : Int) + 1) = 2 := (w64 (by omega) (by omega)).trans (by decide)
  have i2 : wrap64 ((2 : Int) + 1) = 3 := (w64 (by omega) (by omega)).trans (by decide)
  have i3 : wrap64 ((3 : Int) + 1) = 4 := (w64 (by omega) (by omega)).trans (by decide)
  have j4 : wrap64 ((4 : Int) - 1) = 3 := (w64 (by omega) (by omega)).trans (by decide)
  have j0 : wrap64 (wrap64 ((4 : Int) - 1) - 0) = 3 := by rw [j4]; exact (w64 (by omega) (by omega)).trans (by decide)
  have j1 : wrap64 (wrap64 ((4 : Int) - 1) - 1) = 2 := by rw [j4]; exact (w64 (by omega) (by omega)).trans (by decide)
  have j2 : wrap64 (wrap64 ((4 : Int) - 1) - 2) = 1 := by rw [j4]; exact (w64 (by omega) (by omega)).trans (by decide)
  have j3 : wrap64 (wrap64 ((4 : Int) - 1) - 3) = 0 := by rw [j4]; exact (w64 (by omega) (by omega)).trans (by decide)
  have z4 : List.replicate (Int.toNat 4) (0 : Int) = [0, 0, 0, 0] := rfl
  rw [z4]
  refine Ev.pos (by decide) (Ev.pos (by decide) ?_)
  refine Ev.step (fun k => by rw [impl_bigBytes.p8]) ?_
  rw [j0, i0]
  refine Ev.pos (by decide) (Ev.pos (by decide) (Ev.pos (by simp) ?_))
  refine Ev.step (fun k => by rw [impl_bigBytes.p8]) ?_
  rw [j1, i1]
  refine Ev.pos (by simp) (Ev.pos (by decide) (Ev.pos (by simp) ?_))
  refine Ev.step (fun k => by rw [impl_bigBytes.p8]) ?_
  rw [j2, i2]
  refine Ev.pos (by simp) (Ev.pos (by decide) (Ev.pos (by simp) ?_))
  refine Ev.step (fun k => by rw [impl_bigBytes.p8]) ?_
  rw [j3, i3]
  refine Ev.pos (by simp) (Ev.pos (by decide) (Ev.pos (by simp) ?_))
  refine Ev.step (fun k => by rw [impl_bigBytes.p8]) ?_
  refine Ev.neg (by simp) (Ev.eq ?_)
  rw [s8, s8, s8]
  show strOfNums [v / 256 / 256 / 256 % 256, v / 256 / 256 % 256, v / 256 % 256, v % 256] = out4 v
  unfold out4
  rw [show v / 256 / 256 / 256 = v / 16777216 from by omega, show v / 256 / 256 = v / 65536 from by omega]
theorem impl_Crc_ev (s : ByteArray) (hs : s.size ≤ 20000) : Ev (fun k => impl_Crc.f k s) (crcB s) := by
  have inner : ∀ (n j : Nat) (c : Int) (i : Nat) (r : ByteArray), j + n = 8 → U32 c → i ≤ 20000 → Ev (fun k => impl_Crc.p16 k s (crcIt n c) (s.size : Int) ((i + 1 : Nat) : Int)) r → Ev (fun k => impl_Crc.p32 k s c (s.size : Int) (i : Int) (j : Int)) r := by
    intro n
    induction n with
    | zero =>
      intro j c i r hj hc hi hr
      refine Ev.step (fun k => by rw [impl_Crc.p32]) ?_
      rw [w64s (i := i) (by omega)]
      exact Ev.neg (by omega) hr
    | succ n ih =>
      intro j c i r hj hc hi hr
      have nx := ih (j + 1) (crcBit c) i r (by omega) (crcBit_range hc) hi hr
      unfold crcBit at nx
      refine Ev.step (fun k => by rw [impl_Crc.p32]) ?_
      rw [w64s (i := j) (by omega), and1_u32 hc]
      refine Ev.pos (by omega) ?_
      by_cases k : c % 2 = 1
      · rw [if_pos k] at nx
        exact Ev.pos k nx
      · rw [if_neg k] at nx
        exact Ev.neg k nx
  have outer : ∀ (d i : Nat) (c : Int), i + d = s.size → U32 c → Ev (fun k => impl_Crc.p16 k s c (s.size : Int) (i : Int)) (out4 (xorA .u32 4294967295 (crcFrom s d i c))) := by
    intro d
    induction d with
    | zero =>
      intro i c hi hc
      have hx := xor32_range 4294967295 c
      refine Ev.step (fun k => by rw [impl_Crc.p16]) ?_
      rw [u64_id' hx]
      exact Ev.neg (by omega) (Ev.bind (bigBytes4_ev _ hx) (Ev.eq rfl))
    | succ d ih =>
      intro i c hi hc
      refine Ev.step (fun k => by rw [impl_Crc.p16]) ?_
      exact Ev.pos (by omega) (Ev.pos (by omega) (Ev.pos (by omega) (inner 8 0 _ i _ rfl (xor32_range _ _) (by omega) (ih (i + 1) _ (by omega) (crcIt_range 8 (xor32_range _ _))))))
  unfold impl_Crc.f
  exact Ev.neg (by omega) (outer s.size 0 4294967295 (by omega) U32_top)
theorem impl_Sealed_ev (s : ByteArray) (h : s.size ≤ 60) : Ev (fun k => impl_Sealed.f k s) (sealR s) := by
  have hz := impl_zeros_f (60 - s.size) (by omega)
  have hs := zerosB_size (60 - s.size)
  have ht := sealT_size h
  unfold impl_Sealed.f
  rw [w64 (x := 60 - (s.size : Int)) (by omega) (by omega), show 60 - (s.size : Int) = ((60 - s.size : Nat) : Int) from by omega]
  refine Ev.neg (by omega) (Ev.bindo hz (Ev.pos (by omega) ?_))
  have hc := impl_Crc_ev (sealT s) (by omega)
  have hcs := crcB_size (sealT s)
  unfold sealT at hc ht hcs
  exact Ev.bind hc (Ev.pos (by rw [ht, hcs]; omega) (Ev.eq rfl))
end Go.Proofs.YtmciidoohbmipaaGreatDoor.Abs.Pu
namespace Go.Proofs.YtmciidoohbmipaaGreatDoor.Abs.Pu
open Go Go.RowKit
set_option linter.unusedVariables false
set_option linter.unusedSectionVars false
set_option linter.unusedSimpArgs false
theorem impl_ShortBytes_f (n : Int) (h0 : 0 ≤ n) (h1 : n ≤ 65535) : impl_ShortBytes.f n = some (shortB n) := by
  unfold impl_ShortBytes.f
  rw [within_f, Option.bind_some, if_pos (by simp; omega)]
  rfl
def superR (c : Cfg) : ByteArray := if configOk c = true then sealR (quads c.2.2.2 (headB c)) else ByteArray.empty
end Go.Proofs.YtmciidoohbmipaaGreatDoor.Abs.Pu
namespace Go.Proofs.YtmciidoohbmipaaGreatDoor.Abs.Pu
open Go Go.RowKit
set_option linter.unusedVariables false
set_option linter.unusedSectionVars false
set_option linter.unusedSimpArgs false
def rdS (s : ByteArray) (p : Nat) : Int := bt s (p : Int) * 256 + bt s ((p + 1 : Nat) : Int)
def maskAt (s : ByteArray) (k : Nat) : Int := orA .i64 (orA .i64 (shlA .i64 (wrap64 (bt s ((11 + 4 * k + 1 : Nat) : Int))) 16) (shlA .i64 (wrap64 (bt s ((11 + 4 * k + 2 : Nat) : Int))) 8)) (wrap64 (bt s ((11 + 4 * k + 3 : Nat) : Int)))
def cntAt (s : ByteArray) (k : Nat) : Nat := (bt s ((11 + 4 * k : Nat) : Int)).toNat
def kindI (mask : Int) (i : Nat) : Int := if andA .i64 (shrA .i64 mask (i : Int)) 1 = 1 then 114 else 105
def kindsL (mask : Int) (n : Nat) : List Int := (List.range n).map (kindI mask)
def typAt (s : ByteArray) (n k : Nat) : ByteArray := strOfNums (kindsL (maskAt s k) n)
theorem typAt_size (s : ByteArray) (n k : Nat) : (typAt s n k).size = n := by simp [typAt, strOfNums_size, kindsL]
def specT (s : ByteArray) (n : Nat) : List ByteArray := (List.range n).map fun k => typAt s (min (cntAt s k) 24) k
def implT (s : ByteArray) (n : Nat) : List ByteArray := (List.range n).map fun k => typAt s (cntAt s k) k
def specCfg (s : ByteArray) : Cfg := (rdS s 4, rdS s 6, rdS s 8, specT s (min (bt s 10).toNat 12))
def implCfg (s : ByteArray) : Cfg := (rdS s 4, rdS s 6, rdS s 8, implT s (bt s 10).toNat)
def out5 : Option Cfg → Int × Int × Int × List ByteArray × Bool
  | some c => (c.1, c.2.1, c.2.2.1, c.2.2.2, true)
  | none => (0, 0, 0, [], false)
def specR (s : ByteArray) : Option Cfg := if superR (specCfg s) = s then some (specCfg s) else none
def implR (s : ByteArray) : Option Cfg := if crcB (s.extract 0 60) = s.extract 60 64 ∧ bt s 10 ≤ 12 ∧ configOk (implCfg s) = true ∧ superR (implCfg s) = s then some (implCfg s) else none
theorem bt_left {a b : ByteArray} {i : Nat} (h : i < a.size) : bt (a ++ b) (i : Int) = bt a (i : Int) := by
  rw [bt_bytesOf, bt_bytesOf, bytesOf_append]
  simp only [List.getD_eq_getElem?_getD]
  rw [List.getElem?_append_left (by rw [bytesOf_length]; exact h)]
theorem bt_right {a b : ByteArray} {j : Nat} : bt (a ++ b) ((a.size + j : Nat) : Int) = bt b (j : Int) := by
  rw [bt_bytesOf, bt_bytesOf, bytesOf_append]
  simp only [List.getD_eq_getElem?_getD]
  rw [List.getElem?_append_right (by rw [bytesOf_length]; omega), bytesOf_length, show a.size + j - a.size = j from by omega]
theorem cut_left (a b : ByteArray) {n : Nat} (h : a.size = n) : (a ++ b).extract 0 n = a := by
  refine bytesOf_inj ?_
  rw [bytesOf_cut, bytesOf_append, List.drop_zero, Nat.sub_zero, ← h, ← bytesOf_length a, List.take_left]
theorem cut_right (a b : ByteArray) {n m : Nat} (h : a.size = n) (h2 : b.size = m - n) : (a ++ b).extract n m = b := by
  refine bytesOf_inj ?_
  rw [bytesOf_cut, bytesOf_append, ← h, ← bytesOf_length a, List.drop_left, bytesOf_length, h, ← h2, ← bytesOf_length b, List.take_length]
theorem quads_pre : ∀ (ts : List ByteArray) (s : ByteArray), ∃ r, quads ts s = s ++ r
  | [], s => ⟨ByteArray.empty, by simp [quads]⟩
  | t :: ts, s => by
    obtain ⟨r, h⟩ := quads_pre ts (s ++ quad t)
    refine ⟨quad t ++ r, ?_⟩
    unfold quads at h ⊢
    rw [List.foldl_cons, h, ByteArray.append_assoc]
theorem types_small {ts : List ByteArray} (h : typesOk ts = true) : ∀ x ∈ ts, x.size ≤ 23 := by
  intro x hx
  unfold typesOk at h
  rw [Bool.and_eq_true, List.all_eq_true] at h
  have := h.2 x hx
  unfold typeOk at this
  simp only [Bool.and_eq_true, decide_eq_true_eq] at this
  exact this.1.2
theorem cfg_same {s : ByteArray} (h1 : (bt s 10).toNat ≤ 12) (h2 : ∀ k, k < (bt s 10).toNat → cntAt s k ≤ 23) : implCfg s = specCfg s := by
  have e : implT s (bt s 10).toNat = specT s (min (bt s 10).toNat 12) := by
    rw [Nat.min_eq_left h1]
    unfold implT specT
    refine List.map_congr_left (fun k hk => ?_)
    have := h2 k (List.mem_range.1 hk)
    rw [Nat.min_eq_left (by omega)]
  unfold implCfg specCfg
  rw [e]
theorem superR_ok {c : Cfg} {s : ByteArray} (h : superR c = s) (hz : s.size = 64) : configOk c = true := by
  by_cases k : configOk c = true
  · exact k
  · unfold superR at h
    rw [if_neg k] at h
    rw [← h] at hz
    exact absurd hz (by decide)
theorem read_same {s : ByteArray} (hz : s.size = 64) : implR s = specR s := by
  have hb10 := bt_range s 10
  by_cases h : superR (specCfg s) = s
  · have hc := superR_ok h hz
    have hf := configOk_facts hc
    have ht := hf.2.2.2.2.2.2.2
    have htl := types_len ht
    have hsm := types_small ht
    have hR : specR s = some (specCfg s) := by unfold specR; rw [if_pos h]
    have hlen : (specCfg s).2.2.2.length = min (bt s 10).toNat 12 := by simp [specCfg, specT]
    -- the parts of s
    have hq := quads_size (specCfg s).2.2.2 (headB (specCfg s))
    have hh := headB_size (specCfg s)
    obtain ⟨r, hr⟩ := quads_pre (specCfg s).2.2.2 (headB (specCfg s))
    have hs : s = sealR (quads (specCfg s).2.2.2 (headB (specCfg s))) := by
      have h' := h
      unfold superR at h'
      rw [if_pos hc] at h'
      exact h'.symm
    have hb59 : (quads (specCfg s).2.2.2 (headB (specCfg s))).size ≤ 59 := by omega
    generalize quads (specCfg s).2.2.2 (headB (specCfg s)) = B at hs hr hb59
    have hst := sealT_size (s := B) (by omega)
    have e1 : s.extract 0 60 = sealT B := by
      rw [hs]
      exact cut_left _ _ hst
    have e2 : s.extract 60 64 = crcB (sealT B) := by
      rw [hs]
      exact cut_right _ _ hst (crcB_size _)
    have e3 : bt s 10 = ((specCfg s).2.2.2.length : Int) % 256 := by
      have hB : bt B ((10 : Nat) : Int) = ((specCfg s).2.2.2.length : Int) % 256 := by
        rw [hr, bt_left (by omega)]
        unfold headB
        have hx : (((nvg ++ shortB (specCfg s).1) ++ shortB (specCfg s).2.1) ++ shortB (specCfg s).2.2.1).size = 10 := by
          simp only [ByteArray.size_append, shortB_size, nvg_size]
        generalize ((nvg ++ shortB (specCfg s).1) ++ shortB (specCfg s).2.1) ++ shortB (specCfg s).2.2.1 = X at *
        generalize ((specCfg s).2.2.2.length : Int) = n at *
        have := bt_right (a := X) (b := strOf [n % 256]) (j := 0)
        rw [hx] at this
        rw [show ((10 : Nat) : Int) = ((10 + 0 : Nat) : Int) from rfl, this, bt_bytesOf]
        show (bytesOf (strOfNums [n % 256])).getD 0 0 = _
        rw [bytesOf_strOfNums (fun z hz => by simp only [List.mem_singleton] at hz; subst hz; exact byte_ok _)]
        rfl
      have hsz : 10 < B.size := by
        rw [hr, ByteArray.size_append]; omega
      have : bt (sealR B) ((10 : Nat) : Int) = bt B ((10 : Nat) : Int) := by
        unfold sealR sealT
        rw [bt_left (by rw [ByteArray.size_append]; omega), bt_left hsz]
      rw [← hs, hB] at this
      exact this
    have h12 : (bt s 10).toNat ≤ 12 := by
      rw [hlen] at e3
      by_cases k : (bt s 10).toNat ≤ 12
      · exact k
      · rw [Nat.min_eq_right (by omega)] at e3
        omega
    have hcnt : ∀ k, k < (bt s 10).toNat → cntAt s k ≤ 23 := by
      intro k hk
      have := hsm (typAt s (min (cntAt s k) 24) k) (by
        show _ ∈ specT s (min (bt s 10).toNat 12)
        unfold specT
        exact List.mem_map.2 ⟨k, List.mem_range.2 (by omega), rfl⟩)
      rw [typAt_size] at this
      omega
    have hsame := cfg_same h12 hcnt
    rw [hR]
    unfold implR
    rw [hsame, if_pos ⟨by rw [e1, e2], by omega, hc, h⟩]
  · have hR : specR s = none := by unfold specR; rw [if_neg h]
    rw [hR]
    unfold implR
    rw [if_neg]
    rintro ⟨_, h2, h3, h4⟩
    have hsm := types_small (configOk_facts h3).2.2.2.2.2.2.2
    have hcnt : ∀ k, k < (bt s 10).toNat → cntAt s k ≤ 23 := by
      intro k hk
      have := hsm (typAt s (cntAt s k) k) (by
        show _ ∈ implT s (bt s 10).toNat
        unfold implT
        exact List.mem_map.2 ⟨k, List.mem_range.2 hk, rfl⟩)
      rwa [typAt_size] at this
    rw [cfg_same (by omega) hcnt] at h4
    exact h h4
end Go.Proofs.YtmciidoohbmipaaGreatDoor.Abs.Pu
namespace Go.Proofs.YtmciidoohbmipaaGreatDoor.Abs.Pu
open Go Go.RowKit
set_option linter.unusedVariables false
set_option linter.unusedSectionVars false
set_option linter.unusedSimpArgs false
theorem seal_cut {B s : ByteArray} (hB : B.size ≤ 60) (h : sealR B = s) : s.extract 0 60 = sealT B ∧ s.extract 60 64 = crcB (sealT B) := by
  have hst := sealT_size hB
  subst h
  exact ⟨cut_left _ _ hst, cut_right _ _ hst (crcB_size _)⟩
def unsealO (s : ByteArray) : ByteArray × Bool := if crcB (s.extract 0 60) = s.extract 60 64 then (s.extract 0 60, true) else (⟨#[]⟩, false)
theorem impl_Unsealed_ev (s : ByteArray) (hz : s.size = 64) : Ev (fun k => impl_Unsealed.f k s) (unsealO s) := by
  have ht : (s.extract 0 60).size = 60 := by rw [ByteArray.size_extract]; omega
  unfold impl_Unsealed.f unsealO
  rw [show (s.size : Int).toNat = 64 from by omega]
  refine Ev.pos (by omega) (Ev.pos (by omega) (Ev.bind (impl_Crc_ev _ (by omega)) (Ev.pos (by omega) ?_)))
  by_cases h : crcB (s.extract 0 60) = s.extract 60 64
  · rw [if_pos h]
    exact Ev.pos (toList_inj.2 h) (Ev.pos (by omega) (Ev.eq rfl))
  · rw [if_neg h]
    exact Ev.neg (fun e => h (toList_inj.1 e)) (Ev.eq rfl)
theorem unseal_yes {B s : ByteArray} (hB : B.size ≤ 60) (h : sealR B = s) : unsealO s = (s.extract 0 60, true) := by
  obtain ⟨h1, h2⟩ := seal_cut hB h
  unfold unsealO
  rw [if_pos (by rw [h1, h2])]
theorem wordv_cut (s : ByteArray) (a b p : Nat) (h : a + p + 8 ≤ b) (hb : b ≤ s.size) : wordv (s.extract a b) p = wordv s (a + p) := by
  unfold wordv
  refine congrArg wrap64 (be_congr 8 (fun i hi => ?_))
  rw [bt_extract s a b (p + i) (by omega) hb, Nat.add_assoc]
theorem cut_cut (s : ByteArray) (b p q : Nat) (h : q ≤ b) : (s.extract 0 b).extract p q = s.extract p q := by
  refine bytesOf_inj ?_
  rw [bytesOf_cut, bytesOf_cut, bytesOf_cut, List.drop_zero, Nat.sub_zero, List.drop_take, List.take_take]
  congr 1
  omega
end Go.Proofs.YtmciidoohbmipaaGreatDoor.Abs.Pu
namespace Go.Proofs.YtmciidoohbmipaaGreatDoor.Abs.Pu
open Go Go.RowKit
set_option linter.unusedVariables false
set_option linter.unusedSectionVars false
set_option linter.unusedSimpArgs false
theorem bt_byte (s : ByteArray) : ∀ p i : Nat, 0 ≤ bt s ((p + i : Nat) : Int) ∧ bt s ((p + i : Nat) : Int) ≤ 255 := fun p i => bt_range s _
theorem spec_ReadWord_ev (s : ByteArray) (h : s.size = 8) : Ev (fun k => spec_ReadWord.f k s) (wordv s 0, true) := by
  have key : ∀ i, i ≤ 8 → Ev (fun k => spec_ReadWord.p16 k s (be (fun i => bt s ((0 + i : Nat) : Int)) i) (i : Int)) (wordv s 0, true) := by
    refine down ?_ ?_
    · refine Ev.step (fun k => by rw [spec_ReadWord.p16]) ?_
      exact Ev.neg (by omega) (Ev.eq rfl)
    · intro i hi ih
      refine Ev.step (fun k => by rw [spec_ReadWord.p16]) ?_
      refine Ev.pos (by omega) (Ev.pos (by omega) (Ev.pos (by omega) ?_))
      have e := be_step_u64 (fun i => bt s ((0 + i : Nat) : Int)) (fun i => bt_byte s 0 i) i (by omega)
      simp only [Nat.zero_add] at e ih ⊢
      rw [byteAt_eq, orA_eq, shl8_u64, e, w64s (i := i) (by omega)]
      exact ih
  unfold spec_ReadWord.f
  exact Ev.pos (by omega) (key 0 (by omega))
theorem impl_wordAt_ev (s : ByteArray) (p : Nat) (h : p + 8 ≤ s.size) (hs : s.size ≤ 140737488355328) : Ev (fun k => impl_wordAt.f k s (p : Int)) (wordv s p) := by
  have key : ∀ i, i ≤ 8 → Ev (fun k => impl_wordAt.p8 k s (p : Int) (wrap64 (be (fun i => bt s ((p + i : Nat) : Int)) i)) (i : Int)) (wordv s p) := by
    refine down ?_ ?_
    · refine Ev.step (fun k => by rw [impl_wordAt.p8]) ?_
      exact Ev.neg (by omega) (Ev.eq rfl)
    · intro i hi ih
      refine Ev.step (fun k => by rw [impl_wordAt.p8]) ?_
      rw [show wrap64 ((p : Int) + (i : Int)) = ((p + i : Nat) : Int) from by rw [w64 (by omega) (by omega)]; omega]
      refine Ev.pos (by omega) (Ev.pos (by omega) (Ev.pos (by omega) ?_))
      have e := be_step_i64 (fun i => bt s ((p + i : Nat) : Int)) (fun i => bt_byte s p i) i
      rw [byteAt_eq, orA_eq, shl8_i64, e, w64s (i := i) (by omega)]
      exact ih
  unfold impl_wordAt.f
  have h := key 0 (by omega)
  rwa [show wrap64 (be (fun i => bt s ((p + i : Nat) : Int)) 0) = 0 from by simp only [be]; exact w64 (by omega) (by omega)] at h
theorem wordv_extract (s : ByteArray) (p : Nat) (h : p + 8 ≤ s.size) : wordv (s.extract p (p + 8)) 0 = wordv s p := by
  unfold wordv
  refine congrArg wrap64 (be_congr 8 (fun i hi => ?_))
  rw [Nat.zero_add]
  exact bt_extract s p (p + 8) i (by omega) h
end Go.Proofs.YtmciidoohbmipaaGreatDoor.Abs.Pu
namespace Go.Proofs.YtmciidoohbmipaaGreatDoor.Abs.Pu
open Go Go.RowKit
set_option linter.unusedVariables false
set_option linter.unusedSectionVars false
set_option linter.unusedSimpArgs false
def epochOk (e : Int) : Bool := decide (0 ≤ e) && decide (e ≤ 1000000000)
def epochL (e : Int) : ByteArray := if epochOk e = true then sealR (wordB e) else ⟨#[]⟩
theorem spec_EpochLine_ev (e : Int) : Ev (fun k => spec_EpochLine.f k e) (epochL e) := by
  unfold spec_EpochLine.f epochL
  refine Ev.bindo (l1In_f _ _ _) ?_
  by_cases h : epochOk e = true
  · rw [if_pos h]
    exact Ev.pos h (Ev.bind (spec_WordBytes_ev e) (Ev.bind (spec_Sealed_ev _ (by rw [wordB_size]; omega)) (Ev.eq rfl)))
  · rw [if_neg h]
    exact Ev.neg h (Ev.eq rfl)
theorem impl_EpochLine_ev (e : Int) : Ev (fun k => impl_EpochLine.f k e) (epochL e) := by
  unfold impl_EpochLine.f epochL
  refine Ev.bindo (within_f _ _ _) ?_
  by_cases h : epochOk e = true
  · rw [if_pos h]
    exact Ev.pos h (Ev.bind (impl_WordBytes_ev e) (Ev.bind (impl_Sealed_ev _ (by rw [wordB_size]; omega)) (Ev.eq rfl)))
  · rw [if_neg h]
    exact Ev.neg h (Ev.eq rfl)
theorem epochL_size (e : Int) : (epochL e).size = 64 ∨ epochL e = ⟨#[]⟩ := by
  unfold epochL
  split
  · exact .inl (sealR_size (by rw [wordB_size]; omega))
  · exact .inr rfl
theorem epochL_ok {e : Int} {s : ByteArray} (hz : s.size = 64) (h : epochL e = s) : epochOk e = true ∧ sealR (wordB e) = s := by
  unfold epochL at h
  split at h
  · rename_i k; exact ⟨k, h⟩
  · rw [← h] at hz; cases hz
def epochO (s : ByteArray) : Int × Bool := if epochL (wordv s 0) = s then (wordv s 0, true) else (0, false)
theorem spec_ReadEpoch_ev (s : ByteArray) (hz : s.size = 64) : Ev (fun k => spec_ReadEpoch.f k s) (epochO s) := by
  have hw := wordv_cut s 0 8 0 (by omega) (by omega)
  unfold spec_ReadEpoch.f epochO
  refine Ev.pos (by omega) (Ev.pos (by omega) (Ev.bind (spec_ReadWord_ev _ (by rw [ByteArray.size_extract]; omega)) ?_))
  simp only [hw]
  refine Ev.bind (spec_EpochLine_ev _) ?_
  by_cases h : epochL (wordv s 0) = s
  · rw [if_pos h]
    exact Ev.pos (toList_inj.2 h) (Ev.eq rfl)
  · rw [if_neg h]
    exact Ev.neg (fun e => h (toList_inj.1 e)) (Ev.eq rfl)
theorem impl_ReadEpoch_ev (s : ByteArray) (hz : s.size = 64) : Ev (fun k => impl_ReadEpoch.f k s) (epochO s) := by
  have hw := wordv_cut s 0 60 0 (by omega) (by omega)
  have ht : (s.extract 0 60).size = 60 := by rw [ByteArray.size_extract]; omega
  unfold impl_ReadEpoch.f
  refine Ev.bind (impl_Unsealed_ev s hz) ?_
  by_cases h : epochL (wordv s 0) = s
  · obtain ⟨h1, h2⟩ := epochL_ok hz h
    rw [unseal_yes (by rw [wordB_size]; omega) h2]
    have ha := impl_wordAt_ev (s.extract 0 60) 0 (by omega) (by omega)
    rw [hw] at ha
    refine Ev.pos rfl (Ev.bind ha (Ev.bindo (within_f _ _ _) (Ev.pos h1 (Ev.bind (impl_EpochLine_ev _) (Ev.pos (toList_inj.2 h) (Ev.eq ?_))))))
    unfold epochO
    rw [if_pos h]
  · have hno : epochO s = (0, false) := by unfold epochO; rw [if_neg h]
    rw [hno]
    unfold unsealO
    split
    · have ha := impl_wordAt_ev (s.extract 0 60) 0 (by omega) (by omega)
      rw [hw] at ha
      refine Ev.pos rfl (Ev.bind ha (Ev.bindo (within_f _ _ _) (Ev.cases (fun _ => ?_) (fun _ => Ev.eq rfl))))
      exact Ev.bind (impl_EpochLine_ev _) (Ev.neg (fun e => h (toList_inj.1 e)) (Ev.eq rfl))
    · exact Ev.neg (by simp) (Ev.eq rfl)
end Go.Proofs.YtmciidoohbmipaaGreatDoor.Abs.Pu
namespace Go.Proofs.YtmciidoohbmipaaGreatDoor.Abs.Pu
open Go Go.RowKit
set_option linter.unusedVariables false
set_option linter.unusedSectionVars false
set_option linter.unusedSimpArgs false
/-- The bytes of words. -/
def WL : List Int → List Int
  | [] => []
  | n :: l => wordL (IntKind.u64.wrap n) ++ WL l
theorem wordL_length (u : Int) : (wordL u).length = 8 := rfl
theorem WL_length : ∀ l : List Int, (WL l).length = 8 * l.length
  | [] => rfl
  | n :: l => by rw [WL, List.length_append, wordL_length, WL_length l, List.length_cons]; omega
theorem WL_append : ∀ a b : List Int, WL (a ++ b) = WL a ++ WL b
  | [], _ => rfl
  | n :: a, b => by rw [List.cons_append, WL, WL, WL_append a b, List.append_assoc]
theorem WL_isBytes : ∀ l : List Int, isBytes (WL l)
  | [], x, hx => by cases hx
  | n :: l, x, hx => by
    rw [WL, List.mem_append] at hx
    rcases hx with hx | hx
    · exact wordL_isBytes _ x hx
    · exact WL_isBytes l x hx
theorem strOfNums_append (a b : List Int) : strOfNums (a ++ b) = strOfNums a ++ strOfNums b := by
  unfold strOfNums
  rw [List.map_append]
  apply ByteArray.ext
  rw [ByteArray.data_append]
  simp
theorem isBytes_append {a b : List Int} (ha : isBytes a) (hb : isBytes b) : isBytes (a ++ b) := fun x hx => by
  rcases List.mem_append.1 hx with hx | hx
  · exact ha x hx
  · exact hb x hx
/-- A word among words. -/
theorem wordv_WL (pre post z : List Int) (n : Int) (hz : isBytes z) (h0 : -9223372036854775808 ≤ n) (h1 : n ≤ 9223372036854775807) : wordv (strOfNums (WL (pre ++ n :: post) ++ z)) (8 * pre.length) = n := by
  have e := wordv_wordB n h0 h1
  unfold wordv at e ⊢
  refine Eq.trans (congrArg wrap64 (be_congr 8 (fun i hi => ?_))) e
  rw [bt_bytesOf, bt_bytesOf, bytesOf_strOfNums (isBytes_append (WL_isBytes _) hz), wordB, bytesOf_strOfNums (wordL_isBytes _), WL_append, WL, Nat.zero_add]
  simp only [List.getD_eq_getElem?_getD]
  rw [List.append_assoc, List.getElem?_append_right (by rw [WL_length]; omega), WL_length, show 8 * pre.length + i - 8 * pre.length = i from by omega, List.append_assoc, List.getElem?_append_left (by rw [wordL_length]; exact hi)]
/-- The lines of an object of a type. -/
def runL (types : List ByteArray) (t : Int) : Nat := ((rdOf ByteArray.empty types t).size + 8) / 8
def objB8 (types : List ByteArray) (o : Int × List Int) : ByteArray := strOfNums (WL ((o.1 + 1) :: o.2) ++ List.replicate (64 * runL types o.1 - 8 * (o.2.length + 1)) 0)
def okRef8 (x : Int) : Bool := true
theorem runL_bound {types : List ByteArray} (ht : typesOk types = true) (t : Int) : 1 ≤ runL types t ∧ runL types t ≤ 3 ∧ (rdOf ByteArray.empty types t).size + 1 ≤ 8 * runL types t := by
  have := type_size ht t
  unfold runL
  omega
theorem objB8_size {types : List ByteArray} {o : Int × List Int} (ht : typesOk types = true) (h : o.2.length = (rdOf ByteArray.empty types o.1).size) : (objB8 types o).size = 64 * runL types o.1 := by
  have := runL_bound ht o.1
  rw [objB8, strOfNums_size, List.length_append, WL_length, List.length_cons, List.length_replicate]
  omega
theorem objB8_head {types : List ByteArray} {o : Int × List Int} (h0 : 0 ≤ o.1) (h1 : o.1 ≤ 100) : wordv (objB8 types o) 0 = o.1 + 1 :=
  wordv_WL [] o.2 _ (o.1 + 1) (isBytes_replicate _) (by omega) (by omega)
theorem objB8_val {types : List ByteArray} {o : Int × List Int} (i : Nat) (h : i < o.2.length) (hi : ∀ x ∈ o.2, -9223372036854775808 ≤ x ∧ x ≤ 9223372036854775807) : wordv (objB8 types o) (8 + 8 * i) = o.2[i] := by
  have hx := hi _ (List.getElem_mem h)
  have hs : o.2 = o.2.take i ++ o.2[i] :: o.2.drop (i + 1) := by
    rw [← List.drop_eq_getElem_cons h, List.take_append_drop]
  have := wordv_WL ((o.1 + 1) :: o.2.take i) (o.2.drop (i + 1)) (List.replicate (64 * runL types o.1 - 8 * (o.2.length + 1)) 0) o.2[i] (isBytes_replicate _) hx.1 hx.2
  rw [List.cons_append, ← hs, List.length_cons, List.length_take, show 8 * (min i o.2.length + 1) = 8 + 8 * i from by omega] at this
  exact this
/-- The values that stand in bytes. -/
def valsOf (s : ByteArray) (n : Nat) : List Int := (List.range n).map fun i => wordv s (8 + 8 * i)
theorem valsOf_objB8 {types : List ByteArray} {o : Int × List Int} (hi : ∀ x ∈ o.2, -9223372036854775808 ≤ x ∧ x ≤ 9223372036854775807) : valsOf (objB8 types o) o.2.length = o.2 := by
  refine List.ext_getElem (by simp [valsOf]) (fun i h1 h2 => ?_)
  simp only [valsOf, List.getElem_map, List.getElem_range]
  exact objB8_val i h2 hi
end Go.Proofs.YtmciidoohbmipaaGreatDoor.Abs.Pu
namespace Go.Proofs.YtmciidoohbmipaaGreatDoor.Abs.Pu
open Go Go.RowKit
set_option linter.unusedVariables false
set_option linter.unusedSectionVars false
set_option linter.unusedSimpArgs false
theorem spec_ReadShort_f (s : ByteArray) (p : Nat) (h : p + 2 ≤ s.size) : spec_ReadShort.f (s.extract p (p + 2)) = some (rdS s p, true) := by
  have hz : (s.extract p (p + 2)).size = 2 := by rw [ByteArray.size_extract]; omega
  have b0 := bt_extract s p (p + 2) 0 (by omega) h
  have b1 := bt_extract s p (p + 2) 1 (by omega) h
  have r0 := bt_range s ((p + 0 : Nat) : Int)
  have r1 := bt_range s ((p + 1 : Nat) : Int)
  unfold spec_ReadShort.f rdS
  rw [if_pos (by omega), if_pos (by omega), if_pos (by omega), byteAt_eq, byteAt_eq]
  rw [show (0 : Int) = ((0 : Nat) : Int) from rfl, show (1 : Int) = ((1 : Nat) : Int) from rfl, b0, b1]
  rw [w64 (x := bt s ((p + 0 : Nat) : Int)) (by omega) (by omega), w64 (x := bt s ((p + 1 : Nat) : Int)) (by omega) (by omega), w64 (x := bt s ((p + 0 : Nat) : Int) * 256) (by omega) (by omega), w64 (by omega) (by omega)]
  rfl
theorem impl_ReadShort_f (s : ByteArray) (p : Nat) (h : p + 2 ≤ s.size) : impl_ReadShort.f (s.extract p (p + 2)) = some (rdS s p, true) := by
  have hz : (s.extract p (p + 2)).size = 2 := by rw [ByteArray.size_extract]; omega
  have b0 := bt_extract s p (p + 2) 0 (by omega) h
  have b1 := bt_extract s p (p + 2) 1 (by omega) h
  have r0 := bt_range s ((p + 0 : Nat) : Int)
  have r1 := bt_range s ((p + 1 : Nat) : Int)
  unfold impl_ReadShort.f rdS
  rw [if_pos (by omega), if_pos (by omega), if_pos (by omega), byteAt_eq, byteAt_eq]
  rw [show (0 : Int) = ((0 : Nat) : Int) from rfl, show (1 : Int) = ((1 : Nat) : Int) from rfl, b0, b1]
  rw [w64 (x := bt s ((p + 0 : Nat) : Int)) (by omega) (by omega), w64 (x := bt s ((p + 1 : Nat) : Int)) (by omega) (by omega), shl8_i64, w64 (x := bt s ((p + 0 : Nat) : Int) * 256) (by omega) (by omega), orA_eq, or8_i64 _ _ (by omega) (by omega) (by omega) (by omega) (by omega)]
  rfl
theorem kindsL_succ (m : Int) (n : Nat) : kindsL m (n + 1) = kindsL m n ++ [kindI m n] := by
  unfold kindsL
  rw [List.range_succ, List.map_append]
  rfl
theorem kindsL_length (m : Int) (n : Nat) : (kindsL m n).length = n := by simp [kindsL]
theorem specT_succ (s : ByteArray) (n : Nat) : specT s (n + 1) = specT s n ++ [typAt s (min (cntAt s n) 24) n] := by
  unfold specT
  rw [List.range_succ, List.map_append]
  rfl
theorem specT_length (s : ByteArray) (n : Nat) : (specT s n).length = n := by simp [specT]
theorem implT_succ (s : ByteArray) (n : Nat) : implT s (n + 1) = implT s n ++ [typAt s (cntAt s n) n] := by
  unfold implT
  rw [List.range_succ, List.map_append]
  rfl
theorem implT_length (s : ByteArray) (n : Nat) : (implT s n).length = n := by simp [implT]
theorem ws1 (k : Nat) (h : k ≤ 1000) : wrap64 (11 + wrap64 (4 * (k : Int))) = ((11 + 4 * k : Nat) : Int) := by
  rw [w64 (x := 4 * (k : Int)) (by omega) (by omega), w64 (by omega) (by omega)]; omega
theorem wi1 (k : Nat) (h : k ≤ 1000) : wrap64 (15 + wrap64 (4 * (k : Int))) = ((15 + 4 * k : Nat) : Int) := by
  rw [w64 (x := 4 * (k : Int)) (by omega) (by omega), w64 (by omega) (by omega)]; omega
theorem wt1 (a : Nat) (h : a ≤ 100000) : wrap64 ((a : Int) + 1) = ((a + 1 : Nat) : Int) := by
  rw [w64 (by omega) (by omega)]; omega
theorem wt2 (a : Nat) (h : a ≤ 100000) : wrap64 ((a : Int) + 2) = ((a + 2 : Nat) : Int) := by
  rw [w64 (by omega) (by omega)]; omega
theorem wt3 (a : Nat) (h : a ≤ 100000) : wrap64 ((a : Int) + 3) = ((a + 3 : Nat) : Int) := by
  rw [w64 (by omega) (by omega)]; omega
theorem cntAt_eq (s : ByteArray) (k : Nat) : bt s ((11 + 4 * k : Nat) : Int) = (cntAt s k : Int) ∧ cntAt s k ≤ 255 := by
  have := bt_range s ((11 + 4 * k : Nat) : Int)
  unfold cntAt
  omega
end Go.Proofs.YtmciidoohbmipaaGreatDoor.Abs.Pu
namespace Go.Proofs.YtmciidoohbmipaaGreatDoor.Abs.Pu
open Go Go.RowKit
set_option linter.unusedVariables false
set_option linter.unusedSectionVars false
set_option linter.unusedSimpArgs false
abbrev Rec := Int × Int × Int × ByteArray
def recOk (r : Rec) : Bool := (decide (0 ≤ r.1) && decide (r.1 ≤ 999999999)) && ((decide (0 ≤ r.2.1) && decide (r.2.1 ≤ 31)) && ((decide (0 ≤ r.2.2.1) && decide (r.2.2.1 ≤ 255)) && decide ((r.2.2.2.size : Int) = 32)))
def recB (r : Rec) : ByteArray := ((((⟨#[85]⟩ : ByteArray) ++ (strOf ([(r.2.1 % 256)] : List Int))) ++ shortB r.2.2.1) ++ wordB r.1) ++ r.2.2.2
def recL (r : Rec) : ByteArray := if recOk r = true then sealR (recB r) else ⟨#[]⟩
theorem recOk_facts {r : Rec} (h : recOk r = true) : 0 ≤ r.1 ∧ r.1 ≤ 999999999 ∧ 0 ≤ r.2.1 ∧ r.2.1 ≤ 31 ∧ 0 ≤ r.2.2.1 ∧ r.2.2.1 ≤ 255 ∧ r.2.2.2.size = 32 := by
  unfold recOk at h
  simp only [Bool.and_eq_true, decide_eq_true_eq] at h
  omega
theorem one_size (x : Int) : (strOf ([x] : List Int)).size = 1 := strOfNums_size _
theorem recB_size {r : Rec} (h : r.2.2.2.size = 32) : (recB r).size = 44 := by
  have h1 : (⟨#[85]⟩ : ByteArray).size = 1 := rfl
  unfold recB
  simp only [ByteArray.size_append, one_size, shortB_size, wordB_size, h, h1]
theorem spec_rec_end (r : Rec) (h : recOk r = true) : Ev (fun k => spec_RecordLine.p5 k r.1 r.2.1 r.2.2.1 r.2.2.2 (!decide ((r.2.2.2.size : Int) = 32))) (sealR (recB r)) := by
  obtain ⟨h1, h2, h3, h4, h5, h6, h7⟩ := recOk_facts h
  have h8 : (⟨#[85]⟩ : ByteArray).size = 1 := rfl
  have hb := recB_size h7
  refine Ev.step (fun k => by rw [spec_RecordLine.p5]) ?_
  rw [decide_eq_true (show ((r.2.2.2.size : Int) = 32) by omega)]
  refine Ev.neg (by simp) (Ev.pos (by rw [one_size, h8]; omega) (Ev.bind (spec_ShortBytes_ev _ h5 (by omega)) (Ev.pos ?_ (Ev.bind (spec_WordBytes_ev _) (Ev.pos ?_ (Ev.pos ?_ (Ev.bind (spec_Sealed_ev _ ?_) (Ev.eq rfl))))))))
  · simp only [ByteArray.size_append, one_size, shortB_size, h8]; omega
  · simp only [ByteArray.size_append, one_size, shortB_size, wordB_size, h8]; omega
  · simp only [ByteArray.size_append, one_size, shortB_size, wordB_size, h8, h7]; omega
  · show (recB r).size ≤ 60; omega
theorem impl_rec_end (r : Rec) (h : recOk r = true) : Ev (fun k => impl_RecordLine.p5 k r.1 r.2.1 r.2.2.1 r.2.2.2 (!decide ((r.2.2.2.size : Int) = 32))) (sealR (recB r)) := by
  obtain ⟨h1, h2, h3, h4, h5, h6, h7⟩ := recOk_facts h
  have h8 : (⟨#[85]⟩ : ByteArray).size = 1 := rfl
  have hb := recB_size h7
  refine Ev.step (fun k => by rw [impl_RecordLine.p5]) ?_
  rw [decide_eq_true (show ((r.2.2.2.size : Int) = 32) by omega)]
  refine Ev.neg (by simp) (Ev.pos (by rw [one_size, h8]; omega) (Ev.bindo (impl_ShortBytes_f _ h5 (by omega)) (Ev.pos ?_ (Ev.bind (impl_WordBytes_ev _) (Ev.pos ?_ (Ev.pos ?_ (Ev.bind (impl_Sealed_ev _ ?_) (Ev.eq rfl))))))))
  · simp only [ByteArray.size_append, one_size, shortB_size, h8]; omega
  · simp only [ByteArray.size_append, one_size, shortB_size, wordB_size, h8]; omega
  · simp only [ByteArray.size_append, one_size, shortB_size, wordB_size, h8, h7]; omega
  · show (recB r).size ≤ 60; omega
theorem spec_rec_no (a b c : Int) (d : ByteArray) (x : Bool) (h : x = true) : Ev (fun k => spec_RecordLine.p5 k a b c d x) (⟨#[]⟩ : ByteArray) := by
  refine Ev.step (fun k => by rw [spec_RecordLine.p5]) ?_
  exact Ev.pos h (Ev.eq rfl)
theorem impl_rec_no (a b c : Int) (d : ByteArray) (x : Bool) (h : x = true) : Ev (fun k => impl_RecordLine.p5 k a b c d x) (⟨#[]⟩ : ByteArray) := by
  refine Ev.step (fun k => by rw [impl_RecordLine.p5]) ?_
  exact Ev.pos h (Ev.eq rfl)
theorem recL_no {r : Rec} (h : ¬ recOk r = true) : recL r = ⟨#[]⟩ := by unfold recL; rw [if_neg h]
theorem recL_yes {r : Rec} (h : recOk r = true) : recL r = sealR (recB r) := by unfold recL; rw [if_pos h]
theorem spec_RecordLine_ev (r : Rec) : Ev (fun k => spec_RecordLine.f k r.1 r.2.1 r.2.2.1 r.2.2.2) (recL r) := by
  unfold spec_RecordLine.f
  refine Ev.bindo (l1In_f _ _ _) (Ev.cases (fun h1 => ?_) (fun h1 => ?_))
  rotate_left
  · rw [recL_no (fun h => h1 (by simp only [recOk, Bool.and_eq_true] at h ⊢; exact h.1))]
    exact spec_rec_no _ _ _ _ _ rfl
  refine Ev.bindo (l1In_f _ _ _) (Ev.cases (fun h2 => ?_) (fun h2 => ?_))
  rotate_left
  · rw [recL_no (fun h => h2 (by simp only [recOk, Bool.and_eq_true] at h ⊢; exact h.2.1))]
    exact spec_rec_no _ _ _ _ _ rfl
  refine Ev.bindo (l1In_f _ _ _) (Ev.cases (fun h3 => ?_) (fun h3 => ?_))
  rotate_left
  · rw [recL_no (fun h => h3 (by simp only [recOk, Bool.and_eq_true] at h ⊢; exact h.2.2.1))]
    exact spec_rec_no _ _ _ _ _ rfl
  by_cases h4 : (r.2.2.2.size : Int) = 32
  · have h : recOk r = true := by unfold recOk; rw [h1, h2, h3, decide_eq_true h4]; rfl
    rw [recL_yes h]
    exact spec_rec_end r h
  · rw [recL_no (fun h => h4 (by have := recOk_facts h; omega))]
    exact spec_rec_no _ _ _ _ _ (by rw [decide_eq_false h4]; rfl)
theorem impl_RecordLine_ev (r : Rec) : Ev (fun k => impl_RecordLine.f k r.1 r.2.1 r.2.2.1 r.2.2.2) (recL r) := by
  unfold impl_RecordLine.f
  refine Ev.bindo (within_f _ _ _) (Ev.cases (fun h1 => ?_) (fun h1 => ?_))
  rotate_left
  · rw [recL_no (fun h => h1 (by simp only [recOk, Bool.and_eq_true] at h ⊢; exact h.1))]
    exact impl_rec_no _ _ _ _ _ rfl
  refine Ev.bindo (within_f _ _ _) (Ev.cases (fun h2 => ?_) (fun h2 => ?_))
  rotate_left
  · rw [recL_no (fun h => h2 (by simp only [recOk, Bool.and_eq_true] at h ⊢; exact h.2.1))]
    exact impl_rec_no _ _ _ _ _ rfl
  refine Ev.bindo (within_f _ _ _) (Ev.cases (fun h3 => ?_) (fun h3 => ?_))
  rotate_left
  · rw [recL_no (fun h => h3 (by simp only [recOk, Bool.and_eq_true] at h ⊢; exact h.2.2.1))]
    exact impl_rec_no _ _ _ _ _ rfl
  by_cases h4 : (r.2.2.2.size : Int) = 32
  · have h : recOk r = true := by unfold recOk; rw [h1, h2, h3, decide_eq_true h4]; rfl
    rw [recL_yes h]
    exact impl_rec_end r h
  · rw [recL_no (fun h => h4 (by have := recOk_facts h; omega))]
    exact impl_rec_no _ _ _ _ _ (by rw [decide_eq_false h4]; rfl)
def recAt (s : ByteArray) : Rec := (wordv s 4, bt s 1, rdS s 2, s.extract 12 44)
def recO (s : ByteArray) : Option Rec := if recL (recAt s) = s then some (recAt s) else none
def outR : Option Rec → Int × Int × Int × ByteArray × Bool
  | some r => (r.1, r.2.1, r.2.2.1, r.2.2.2, true)
  | none => (0, 0, 0, ⟨#[]⟩, false)
theorem recL_ok {r : Rec} {s : ByteArray} (hz : s.size = 64) (h : recL r = s) : recOk r = true ∧ sealR (recB r) = s := by
  unfold recL at h
  split at h
  · rename_i k; exact ⟨k, h⟩
  · rw [← h] at hz; cases hz
theorem recO_ok {s : ByteArray} {r : Rec} (hz : s.size = 64) (h : recO s = some r) : recOk r = true := by
  unfold recO at h
  split at h
  · rename_i k
    injection h with h
    rw [← h]
    exact (recL_ok hz k).1
  · cases h
theorem spec_ReadRecord_ev (s : ByteArray) (hz : s.size = 64) : Ev (fun k => spec_ReadRecord.f k s) (outR (recO s)) := by
  have hw := wordv_cut s 4 12 0 (by omega) (by omega)
  have b1 := bt_range s 1
  have a2 := spec_ReadShort_f s 2 (by omega)
  unfold spec_ReadRecord.f
  refine Ev.pos (by omega) (Ev.pos (by omega) (Ev.pos (by omega) (Ev.pos (by omega) (Ev.bindo a2 (Ev.pos (by omega) (Ev.bind (spec_ReadWord_ev _ (by rw [ByteArray.size_extract]; omega)) ?_))))))
  simp only [hw, byteAt_eq]
  rw [w64 (x := bt s 1) (by omega) (by omega)]
  refine Ev.bind (spec_RecordLine_ev (recAt s)) ?_
  by_cases h : recL (recAt s) = s
  · refine Ev.pos (toList_inj.2 h) (Ev.eq ?_)
    unfold recO; rw [if_pos h]; rfl
  · refine Ev.neg (fun e => h (toList_inj.1 e)) (Ev.eq ?_)
    unfold recO; rw [if_neg h]; rfl
theorem impl_ReadRecord_ev (s : ByteArray) (hz : s.size = 64) : Ev (fun k => impl_ReadRecord.f k s) (outR (recO s)) := by
  have ht : (s.extract 0 60).size = 60 := by rw [ByteArray.size_extract]; omega
  have hw := wordv_cut s 0 60 4 (by omega) (by omega)
  have b1 := bt_range s 1
  have bx : ∀ i : Nat, i < 60 → bt (s.extract 0 60) (i : Int) = bt s (i : Int) := fun i hi => by
    have := bt_extract s 0 60 i (by omega) (by omega)
    rwa [Nat.zero_add] at this
  have e1 : bt (s.extract 0 60) 1 = bt s 1 := bx 1 (by omega)
  have e2 : rdS (s.extract 0 60) 2 = rdS s 2 := by unfold rdS; rw [bx 2 (by omega), bx (2 + 1) (by omega)]
  have e3 : (s.extract 0 60).extract 12 44 = s.extract 12 44 := cut_cut s 60 12 44 (by omega)
  have a2 := impl_ReadShort_f (s.extract 0 60) 2 (by omega)
  rw [e2] at a2
  have ha := impl_wordAt_ev (s.extract 0 60) 4 (by omega) (by omega)
  rw [hw, Nat.zero_add] at ha
  unfold impl_ReadRecord.f
  refine Ev.bind (impl_Unsealed_ev s hz) ?_
  have go : Ev (fun k => (impl_RecordLine.f k (wordv s 4) (bt s 1) (rdS s 2) (s.extract 12 44)).bind fun t4 => (if t4.toList = s.toList then (some (wordv s 4, bt s 1, rdS s 2, s.extract 12 44, true)) else (some (0, 0, 0, (⟨#[]⟩ : ByteArray), false)))) (outR (recO s)) := by
    refine Ev.bind (impl_RecordLine_ev (recAt s)) ?_
    by_cases h : recL (recAt s) = s
    · refine Ev.pos (toList_inj.2 h) (Ev.eq ?_)
      unfold recO; rw [if_pos h]; rfl
    · refine Ev.neg (fun e => h (toList_inj.1 e)) (Ev.eq ?_)
      unfold recO; rw [if_neg h]; rfl
  by_cases hc : (unsealO s).2 = true
  · have hu : unsealO s = (s.extract 0 60, true) := by
      unfold unsealO at hc ⊢
      split at hc
      · rename_i k; rw [if_pos k]
      · cases hc
    rw [hu]
    refine Ev.pos rfl (Ev.pos (by simp only [ht]; decide) (Ev.bind ha (Ev.pos (by simp only [ht]; decide) (Ev.pos (by simp only [ht]; decide) (Ev.bindo a2 ?_)))))
    simp only [byteAt_eq, e1, e3]
    rw [w64 (x := bt s 1) (by omega) (by omega)]
    exact go
  · refine Ev.neg hc (Ev.eq ?_)
    unfold recO
    rw [if_neg (fun h => ?_)]
    · rfl
    · obtain ⟨k1, k2⟩ := recL_ok hz h
      have := recOk_facts k1
      rw [unseal_yes (by rw [recB_size this.2.2.2.2.2.2]; omega) k2] at hc
      exact hc rfl
end Go.Proofs.YtmciidoohbmipaaGreatDoor.Abs.Pu
namespace Go.Proofs.YtmciidoohbmipaaGreatDoor.Abs.Pu
open Go Go.RowKit
set_option linter.unusedVariables false
set_option linter.unusedSectionVars false
set_option linter.unusedSimpArgs false
def isImageB (c : Cfg) (s : ByteArray) : Bool := configOk c && decide ((s.size : Int) = 64 * c.1)
theorem impl_isImage_ev (c : Cfg) (s : ByteArray) (hs : ∀ x ∈ c.2.2.2, x.size ≤ 1048576) : Ev (fun k => impl_isImage.f k c.1 c.2.1 c.2.2.1 c.2.2.2 s) (isImageB c s) := by
  unfold impl_isImage.f isImageB
  refine Ev.bind (impl_ConfigOk_ev c hs) (Ev.cases (fun h => ?_) (fun h => by rw [Bool.eq_false_iff.2 h, Bool.false_and]; exact Ev.eq rfl))
  have := configOk_facts h
  rw [h, Bool.true_and, w64 (x := 64 * c.1) (by omega) (by omega)]
  exact Ev.eq rfl
theorem spec_l5Image_ev (c : Cfg) (s : ByteArray) (hl : c.2.2.2.length ≤ 1048576) (hs : ∀ x ∈ c.2.2.2, x.size ≤ 1048576) : Ev (fun k => spec_l5Image.f k c.1 c.2.1 c.2.2.1 c.2.2.2 s) (isImageB c s) := by
  unfold spec_l5Image.f isImageB
  refine Ev.bind (spec_ConfigOk_ev c hl hs) (Ev.cases (fun h => ?_) (fun h => by rw [Bool.eq_false_iff.2 h, Bool.false_and]; exact Ev.eq rfl))
  have := configOk_facts h
  rw [h, Bool.true_and, w64 (x := 64 * c.1) (by omega) (by omega)]
  exact Ev.eq rfl
theorem isImageB_facts {c : Cfg} {s : ByteArray} (h : isImageB c s = true) : configOk c = true ∧ (s.size : Int) = 64 * c.1 := by
  unfold isImageB at h
  simpa using h
end Go.Proofs.YtmciidoohbmipaaGreatDoor.Abs.Pu
