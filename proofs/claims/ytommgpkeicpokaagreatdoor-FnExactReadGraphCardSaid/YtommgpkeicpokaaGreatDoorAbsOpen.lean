/- Arguments as they come from outside, at any type: what a datum's reading tells. -/
import Derived.Test.YtommgpkeicpokaaGreatDoorAbsLaw
import Derived.ChangeArms
import Derived.WideShapes
namespace Go.Proofs.YtommgpkeicpokaaGreatDoor.Abs
open Go Go.RowKit Go.ChangeShapes Go.WideShapes
set_option linter.unusedVariables false
set_option linter.unusedSectionVars false
set_option linter.unusedSimpArgs false

def okL {α : Type} (p : α → Prop) (l : List α) : Prop := l.length ≤ maxLen ∧ ∀ a ∈ l, p a

/-- What is known of a value from outside. -/
def Ty.ok : (t : Ty) → t.den → Prop
  | .int k, x => (Lit.int k x).wf = true
  | .bool, _ => True
  | .str, s => ByteArray.size s ≤ maxLen
  | .sl t, l => okL t.ok l
  | .pair a b, x => a.ok x.1 ∧ b.ok x.2

def opFs (P : Program) (r : TypeId → Option Ty) : Nat → List Field → Option Ty
  | _, [] => none
  | o, f :: fs => match r f.type with
    | none => none
    | some t => match Nat.beq f.offset o, Nat.beq (P.cellsOf f.type) t.sz with
      | true, true => match fs with
        | [] => some t
        | _ :: _ => match opFs P r (o + t.sz) fs with
          | some u => some (.pair t u)
          | none => none
      | _, _ => none

/-- A type with its cells in order. -/
def opTy (P : Program) : Nat → TypeId → Option Ty
  | 0, _ => none
  | n + 1, T => match P.underlying T with
    | some (.int k) => some (.int k)
    | some .bool => some .bool
    | some .string => some .str
    | some (.slice e) => match opTy P n e with
      | some t => match Nat.beq (P.cellsOf e) t.sz with
        | true => some (.sl t)
        | false => none
      | none => none
    | some (.struct fs) => match opFs P (opTy P n) 0 fs.toList with
      | some t => match Nat.beq (P.cellsOf T) t.sz with
        | true => some t
        | false => none
      | none => none
    | _ => none

section
variable {H : Type} {enc : TypeId × Value → H} {P : Program} {w : World} {base : Nat} {spare : Nat → Bool} {held : Bool} {M : Nat → Prop} (hM : ∀ b, ¬ M b)

def Opens (enc : TypeId × Value → H) (P : Program) (w : World) (base : Nat) (spare : Nat → Bool) (held : Bool) (M : Nat → Prop) (T : TypeId) (t : Ty) : Prop :=
  ∀ (fuel : Nat) (cs : List Value) (x : DataW H × List MemPlace), DataW.trod enc P w base spare held fuel T cs = some x → ∃ a : t.den, t.KR M w a cs ∧ t.ok a

theorem opFs_open {r : TypeId → Option Ty} (ih : ∀ T t, r T = some t → Opens enc P w base spare held M T t) {n : Nat} {cs : List Value} : (fs : List Field) → (o : Nat) → (t : Ty) → opFs P r o fs = some t →
    (∀ (i : Nat) (f : Field), fs[i]? = some f → ∃ x, DataW.trod enc P w base spare held n f.type ((cs.drop f.offset).take (P.cellsOf f.type)) = some x) → cs.length = o + t.sz → ∃ a : t.den, t.KR M w a (cs.drop o) ∧ t.ok a
  | [], o, t, h, _, _ => by cases h
  | f :: fs, o, t, h, hf, hl => by
    unfold opFs at h
    split at h
    · cases h
    rename_i t0 ht0
    split at h
    case h_2 => cases h
    rename_i h1 h2
    have h1 := Nat.eq_of_beq_eq_true h1
    have h2 := Nat.eq_of_beq_eq_true h2
    obtain ⟨x, hx⟩ := hf 0 f rfl
    rw [h1, h2] at hx
    obtain ⟨a, ka, oa⟩ := ih _ _ ht0 _ _ _ hx
    split at h
    · injection h with h
      subst h
      rw [List.take_of_length_le (by rw [List.length_drop]; omega)] at ka
      exact ⟨a, ka, oa⟩
    · split at h
      case h_2 => cases h
      rename_i u hu
      injection h with h
      subst h
      obtain ⟨b, kb, ob⟩ := opFs_open ih _ (o + t0.sz) u hu (fun i f' hi => hf (i + 1) f' (by simpa using hi)) (by rw [hl]; show o + (t0.sz + u.sz) = _; omega)
      refine ⟨(a, b), ⟨_, _, ?_, ka, kb⟩, oa, ob⟩
      rw [← List.drop_drop, List.take_append_drop]

theorem add_spot {w : World} {a : Addr} {v : Value} (h : w.cell? (a.add 0) = some v) : a = ⟨a.block, a.off, none⟩ := plain_addr (by rw [show a.add 0 = a from rfl] at h; exact h)

include hM
theorem opens : (n : Nat) → (T : TypeId) → (t : Ty) → opTy P n T = some t → Opens enc P w base spare held M T t
  | 0, _, _, h => by cases h
  | n + 1, T, t, h => by
    intro fuel cs x hx
    unfold opTy at h
    split at h
    · rename_i k hu
      injection h with h
      subst h
      obtain ⟨m, rfl, _, hw⟩ := DataW.trod_int hu hx
      exact ⟨m, rfl, hw⟩
    · rename_i hu
      injection h with h
      subst h
      obtain ⟨b, rfl, _⟩ := DataW.trod_bool hu hx
      exact ⟨b, rfl, trivial⟩
    · rename_i hu
      injection h with h
      subst h
      obtain ⟨s, rfl, _, hs⟩ := DataW.trod_string hu hx
      exact ⟨s, rfl, hs⟩
    · rename_i e hu
      split at h
      case h_2 => cases h
      rename_i t0 ht0
      split at h
      case h_2 => cases h
      rename_i hc
      have hc := Nat.eq_of_beq_eq_true hc
      injection h with h
      subst h
      have ih := opens n e t0 ht0
      rcases DataW.trod_slice hu hx with ⟨rfl, _⟩ | ⟨a, len, cap, elems, rest, m, _, rfl, _, hb, hl, hm, hlen, hel, _⟩
      · exact ⟨[], ⟨none, 0, rfl, Nat.le_refl _, fun i x hx => by simp at hx⟩, Nat.zero_le _, fun a ha => by cases ha⟩
      · have each : ∀ i, i < len → ∃ y : t0.den, ∃ c : List Value, w.cells? base (a.add (i * P.cellsOf e)) (P.cellsOf e) = some c ∧ t0.KR M w y c ∧ t0.ok y := by
          intro i hi
          have h1 := hel i hi
          rw [List.getElem?_eq_getElem (by omega)] at h1
          obtain ⟨c, hc1, hc2⟩ := Option.bind_eq_some_iff.1 h1
          obtain ⟨y, hy, ho⟩ := ih m c _ hc2
          exact ⟨y, c, hc1, hy, ho⟩
        obtain ⟨ys, hyl, hys⟩ : ∃ ys : List t0.den, ys.length = len ∧ ∀ i (h : i < ys.length), ∃ c : List Value, w.cells? base (a.add (i * P.cellsOf e)) (P.cellsOf e) = some c ∧ t0.KR M w ys[i] c ∧ t0.ok ys[i] := by
          refine ⟨List.ofFn fun i : Fin len => Classical.choose (each i i.2), by simp, fun i h => ?_⟩
          have hi : i < len := by simpa using h
          rw [List.getElem_ofFn]
          exact Classical.choose_spec (each i hi)
        refine ⟨ys, ⟨some a, cap, by rw [hyl], by omega, fun i y hy => ?_⟩, by omega, fun y hy => ?_⟩
        · have hi : i < ys.length := (List.getElem?_eq_some_iff.1 hy).1
          obtain ⟨c0, hc0, hk0, _⟩ := hys 0 (by omega)
          have hsz := t0.sz_pos
          have hcell0 := (World.cells?_some hc0).2.2 0 (by omega)
          have hl0 := (World.cells?_some hc0).2.1
          rw [List.getElem?_eq_getElem (by omega), Nat.zero_mul] at hcell0
          have hpl : a = ⟨a.block, a.off, none⟩ := plain_addr (a := a) (by rw [show (a.add 0).add 0 = a from rfl] at hcell0; exact hcell0)
          obtain ⟨c, hc1, hk, _⟩ := hys i hi
          have hye : ys[i] = y := by
            have := List.getElem?_eq_getElem hi
            rw [this] at hy
            injection hy
          rw [hye] at hk
          refine ⟨a.block, a.off, c, by rw [← hpl], hM _, KR_len t0 hk, hk, fun j u hu => ?_⟩
          have hj := (List.getElem?_eq_some_iff.1 hu).1
          have hcl := (World.cells?_some hc1).2.1
          have hcell := (World.cells?_some hc1).2.2 j (by omega)
          rw [hu, hpl, add_at, add_at, hc, Nat.add_assoc] at hcell
          exact hcell
        · obtain ⟨i, hi, rfl⟩ := List.getElem_of_mem hy
          obtain ⟨_, _, _, ho⟩ := hys i hi
          exact ho
    · rename_i fs hu
      split at h
      case h_2 => cases h
      rename_i t0 ht0
      split at h
      case h_2 => cases h
      rename_i hc
      have hc := Nat.eq_of_beq_eq_true hc
      injection h with h
      subst h
      obtain ⟨xs, m, _, _, hlen, hxl, hf⟩ := DataW.trod_struct hu hx
      have := opFs_open (n := m) (cs := cs) (fun T t hT => opens n T t hT) fs.toList 0 t0 ht0 (fun i f hi => by
        have hi' : fs[i]? = some f := by simpa using hi
        have hlt : i < xs.length := by
          rw [hxl]
          exact (Array.getElem?_eq_some_iff.1 hi').1
        exact ⟨_, (hf i f hi').trans (List.getElem?_eq_getElem hlt)⟩) (by rw [hlen, hc, Nat.zero_add])
      simpa using this
    · cases h
omit hM

/-- An argument out of its cells. -/
def argAV (agg : Bool) (cs : List AV) : AV := match agg, cs with
  | true, cs => .agg cs
  | false, [c] => c
  | false, _ => .dead

theorem arg_struct {M : Nat → Prop} {w : World} {ρ : Nat → Value} {hp : Heap} {t : Ty} {a : t.den} {cs : Array Value} (h : t.KR M w a (Value.agg cs).cells.toList) : R M w ρ hp (argAV true (t.cells a)) (.agg cs) :=
  ⟨cs.toList, by simp, R_cells' (by simpa [Value.cells] using h)⟩
theorem arg_cell {M : Nat → Prop} {w : World} {ρ : Nat → Value} {hp : Heap} {t : Ty} {a : t.den} {v : Value} {c : AV} (hv : v.cells = #[v]) (h : t.KR M w a v.cells.toList) (hc : t.cells a = [c]) : R M w ρ hp (argAV false (t.cells a)) v := by
  have := R_cells' (ρ := ρ) (hp := hp) h
  rw [hc, hv] at this
  rw [hc]
  obtain ⟨u, q, e, h1, h2⟩ := this
  injection e with e1 e2
  rw [e1]
  exact h1

/-- A value that is no struct is one cell. -/
theorem okWide_cell {w : World} {r : Reach} {base : Nat} {T : TypeId} {v : Value} (hu : (match P.underlying T with | some (.int _) => true | some .bool => true | some .string => true | some (.slice _) => true | _ => false) = true) (h : Value.okWide P w r base T v) : v.cells = #[v] := by
  split at hu
  · rename_i k hT
    obtain ⟨n, rfl⟩ := okWide_int hT h
    rfl
  · rename_i hT
    obtain ⟨n, rfl⟩ := okWide_bool hT h
    rfl
  · rename_i hT
    obtain ⟨n, rfl⟩ := okWide_string hT h
    rfl
  · rename_i e hT
    obtain ⟨a, len, cap, rfl⟩ := okWide_slice hT h
    rfl
  · cases hu
end
end Go.Proofs.YtommgpkeicpokaaGreatDoor.Abs
