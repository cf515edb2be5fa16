/- What is handed over: packing. -/
import Derived.Test.YtommgpkeicpokaaGreatDoorAbsOps6
namespace Go.Proofs.YtommgpkeicpokaaGreatDoor.Abs
open Go Go.RowKit
set_option linter.unusedVariables false
set_option linter.unusedSectionVars false
set_option linter.unusedSimpArgs false

def shift : Value → Nat → Value
  | .pointer (some a), off => .pointer (some ⟨a.block, a.off + off, none⟩)
  | v, _ => v

theorem shift_zero {A : Option Addr} {n c : Nat} : shift (.slice A n c) 0 = .slice A n c := rfl
theorem shift_tuple (a : Array Value) (off : Nat) : shift (.tuple a) off = .tuple a := rfl
theorem shift_not {v : Value} {off : Nat} (h : ∀ a, v ≠ .tuple a) : ∀ a, shift v off ≠ .tuple a := by
  intro a e
  unfold shift at e
  split at e
  · cases e
  · exact h a e
theorem hd_shift {v : Value} {A : Option Addr} {n c : Nat} (h : hd v = .slice A n c) (off : Nat) : hd (shift v off) = hd v := by
  unfold shift
  split
  · cases h
  · rfl
theorem shift_own {v : Value} {A : Option Addr} {n c : Nat} (h : hd v = .slice A n c) : shift v 0 = v := by
  unfold shift
  split
  · cases h
  · rfl
theorem blk_shift (v : Value) (off : Nat) : At (shift v off) = At v := by
  unfold shift
  split <;> rfl

theorem hpOf_eq (H : List HE) (k : Nat) : hpOf H k = (H[k]?).getD .unused := by
  unfold hpOf
  cases H[k]? <;> rfl

/-- Where the packed entries stand. d: for those without a place of their own. -/
def rhoS (ρ d : Nat → Value) (m : List (Option (Nat × Nat))) (k : Nat) : Value :=
  match m[k]? with
  | some (some (i, off)) => shift (ρ i) off
  | _ => d k

theorem at_src {ρ d : Nat → Value} {m : List (Option (Nat × Nat))} {k i off b : Nat} (h1 : m[k]? = some (some (i, off))) (h : At (rhoS ρ d m k) b) : At (ρ i) b := by
  unfold rhoS at h
  rw [h1] at h
  exact (congrFun (blk_shift (ρ i) off) b) ▸ h

theorem findM_some {i : Nat} : {m : List (Option (Nat × Nat))} → {k n off : Nat} → findM i k m = some (n, off) → ∃ j, n = k + j ∧ m[j]? = some (some (i, off))
  | [], _, _, _, h => by cases h
  | some (j, o) :: r, k, n, off, h => by
    unfold findM at h
    split at h
    · rename_i hb
      have := Nat.eq_of_beq_eq_true hb
      subst this
      injection h with h
      injection h with h1 h2
      subst h1 h2
      exact ⟨0, rfl, rfl⟩
    · obtain ⟨j, h1, h2⟩ := findM_some h
      exact ⟨j + 1, by omega, by simpa using h2⟩
  | none :: r, k, n, off, h => by
    obtain ⟨j, h1, h2⟩ := findM_some (m := r) h
    exact ⟨j + 1, by omega, by simpa using h2⟩

theorem findM_none {i : Nat} : {m : List (Option (Nat × Nat))} → {k : Nat} → findM i k m = none → ∀ (j off : Nat), m[j]? ≠ some (some (i, off))
  | [], _, _, j, off => by simp
  | some (j', o) :: r, k, h, j, off => by
    unfold findM at h
    split at h
    · cases h
    · rename_i hb
      cases j with
      | zero =>
        intro e
        simp at e
        obtain ⟨e1, _⟩ := e
        subst e1
        have : Nat.beq j' j' = true := Nat.beq_refl j'
        rw [hb] at this
        cases this
      | succ j => intro e; exact findM_none h j off (by simpa using e)
  | none :: r, k, h, j, off => by
    cases j with
    | zero => simp
    | succ j => intro e; exact findM_none (m := r) h j off (by simpa using e)

section
variable (MX : Nat → Prop) (w : World) (ρ d : Nat → Value) (hp : Heap)

/-- What may be written, less what has been lent. -/
def Ms (lent : List Nat) (b : Nat) : Prop := Mut MX hp ρ b ∧ ¬ ∃ i, i ∈ lent ∧ At (ρ i) b

/-- What an entry was packed from. -/
def Kind (hp : Heap) (i off : Nat) (h : HE) : Prop :=
  h = .gone ∨ (∃ cs cs', h = .box cs ∧ hp i = .box cs' ∧ off + cs.length ≤ cs'.length) ∨ (hp i = h ∧ off = 0 ∧ ∀ cs, h ≠ .box cs) ∨ (∃ T c c', h = .bld T c ∧ hp i = .bld T c' ∧ off = 0)

/-- What holds of what has been packed. -/
structure PI (s : PS) : Prop where
  len : s.m.length = s.H.length
  ok : ∀ (k : Nat) (h : HE), s.H[k]? = some h → h ≠ .unused ∧ HEok (Ms MX ρ hp s.lent) w (rhoS ρ d s.m) (hpOf s.H) k h
  src : ∀ (k : Nat) (h : HE), s.H[k]? = some h → live h → (∃ i off, s.m[k]? = some (some (i, off)) ∧ live (hp i)) ∨ (∀ b, ¬ At (rhoS ρ d s.m k) b)
  inj : ∀ (k k' i off off' : Nat), s.m[k]? = some (some (i, off)) → s.m[k']? = some (some (i, off')) → k = k'
  apart : ∀ (k i off : Nat), s.m[k]? = some (some (i, off)) → i ∉ s.lent
  rows : ∀ i, i ∈ s.lent → live (hp i)
  liv : ∀ (k i off : Nat), s.m[k]? = some (some (i, off)) → live (hp i)
  kind : ∀ (k i off : Nat) (h : HE), s.m[k]? = some (some (i, off)) → s.H[k]? = some h → Kind hp i off h

/-- Packed further. -/
structure Ext (s s' : PS) : Prop where
  m : ∃ r, s'.m = s.m ++ r
  H : ∀ (k : Nat), k < s.H.length → s'.H[k]? = s.H[k]?
  le : s.H.length ≤ s'.H.length
  lent : ∀ i, i ∈ s.lent → i ∈ s'.lent
end

theorem Ext.refl (s : PS) : Ext s s := ⟨⟨[], by simp⟩, fun _ _ => rfl, Nat.le_refl _, fun _ h => h⟩
theorem Ext.trans {a b c : PS} (h : Ext a b) (g : Ext b c) : Ext a c := by
  obtain ⟨r1, e1⟩ := h.m
  obtain ⟨r2, e2⟩ := g.m
  exact ⟨⟨r1 ++ r2, by rw [e2, e1, List.append_assoc]⟩, fun k hk => (g.H k (Nat.lt_of_lt_of_le hk h.le)).trans (h.H k hk), Nat.le_trans h.le g.le, fun i hi => g.lent i (h.lent i hi)⟩

section
variable {MX : Nat → Prop} {w : World} {ρ d : Nat → Value} {hp : Heap}

/-- Related in a packed state. -/
abbrev RP (MX : Nat → Prop) (w : World) (ρ d : Nat → Value) (hp : Heap) (s : PS) (a : AV) (y : Value) : Prop := R (Ms MX ρ hp s.lent) w (rhoS ρ d s.m) (hpOf s.H) a y
abbrev RPs (MX : Nat → Prop) (w : World) (ρ d : Nat → Value) (hp : Heap) (s : PS) (a : List AV) (y : List Value) : Prop := Rs (Ms MX ρ hp s.lent) w (rhoS ρ d s.m) (hpOf s.H) a y

theorem ext_old {s s' : PS} (hl : s.m.length = s.H.length) (h : Ext s s') (hnu : ∀ (k : Nat) (h : HE), s.H[k]? = some h → h ≠ .unused) : ∀ k, hpOf s.H k ≠ .unused → rhoS ρ d s'.m k = rhoS ρ d s.m k ∧ hpOf s'.H k ≠ .unused := by
  intro k hk
  have hlt : k < s.H.length := by
    rcases Nat.lt_or_ge k s.H.length with h' | h'
    · exact h'
    · rw [hpOf_eq, List.getElem?_eq_none h'] at hk
      exact absurd rfl hk
  obtain ⟨r, e⟩ := h.m
  refine ⟨?_, ?_⟩
  · unfold rhoS
    rw [e, List.getElem?_append_left (by omega)]
  · rw [hpOf_eq, h.H k hlt, ← hpOf_eq]
    exact hk

theorem Ms_mono {l l' : List Nat} (h : ∀ i, i ∈ l → i ∈ l') : ∀ b, b < w.heap.size → Ms MX ρ hp l' b → Ms MX ρ hp l b :=
  fun _ _ ⟨h1, h2⟩ => ⟨h1, fun ⟨i, hi, hb⟩ => h2 ⟨i, h i hi, hb⟩⟩

theorem RP_ext {s s' : PS} (hi : PI MX w ρ d hp s) (h : Ext s s') {a : AV} {y : Value} (hr : RP MX w ρ d hp s a y) : RP MX w ρ d hp s' a y :=
  R_step (D := fun _ => False) (Off.refl _ _) (fun _ _ h => h.elim) (Ms_mono h.lent) (fun k hk => (ext_old hi.len h (fun k h' hk => (hi.ok k h' hk).1) k hk).imp .inl id) a hr
theorem RPs_ext {s s' : PS} (hi : PI MX w ρ d hp s) (h : Ext s s') {a : List AV} {y : List Value} (hr : RPs MX w ρ d hp s a y) : RPs MX w ρ d hp s' a y :=
  Rs_step (D := fun _ => False) (Off.refl _ _) (fun _ _ h => h.elim) (Ms_mono h.lent) (fun k hk => (ext_old hi.len h (fun k h' hk => (hi.ok k h' hk).1) k hk).imp .inl id) a hr

theorem lt_of_get {α : Type} {l : List α} {k : Nat} {x : α} (h : l[k]? = some x) : k < l.length := (List.getElem?_eq_some_iff.1 h).1

/-- A new entry at the end. -/
theorem PI_push {s : PS} (hi : PI MX w ρ d hp s) {p : Option (Nat × Nat)} {h : HE} (hnu : h ≠ .unused) (hfresh : ∀ i off, p = some (i, off) → (∀ (j off' : Nat), s.m[j]? ≠ some (some (i, off'))) ∧ i ∉ s.lent ∧ live (hp i) ∧ Kind hp i off h)
    (hsrc : live h → (∃ i off, p = some (i, off) ∧ live (hp i)) ∨ (∀ b, ¬ At (rhoS ρ d (s.m ++ [p]) s.m.length) b))
    (hok : HEok (Ms MX ρ hp s.lent) w (rhoS ρ d (s.m ++ [p])) (hpOf (s.H ++ [h])) s.m.length h) :
    PI MX w ρ d hp { s with m := s.m ++ [p], H := s.H ++ [h] } ∧ Ext s { s with m := s.m ++ [p], H := s.H ++ [h] } := by
  have hext : Ext s { s with m := s.m ++ [p], H := s.H ++ [h] } := ⟨⟨[p], rfl⟩, fun k hk => by simp only []; rw [List.getElem?_append_left hk], by simp, fun _ h => h⟩
  have old := ext_old (ρ := ρ) (d := d) hi.len hext (fun k h' hk => (hi.ok k h' hk).1)
  refine ⟨⟨by simp [hi.len], fun k h' hk => ?_, fun k h' hk hl => ?_, fun k k' i off off' h1 h2 => ?_, fun k i off h1 => ?_, hi.rows, fun k i off h1 => ?_, fun k i off h' h1 h2 => ?_⟩, hext⟩
  · simp only [] at hk
    by_cases hlt : k < s.H.length
    · rw [List.getElem?_append_left hlt] at hk
      refine ⟨(hi.ok k h' hk).1, ?_⟩
      have hu : hpOf s.H k ≠ .unused := by rw [hpOf_eq, hk]; exact (hi.ok k h' hk).1
      exact HEok_step (D := fun _ => False) (Off.refl _ _) (fun _ _ h => h.elim) (fun _ _ h => h) (fun k hk => (old k hk).imp .inl id) (old k hu).1 (fun _ _ _ h => h) (hi.ok k h' hk).2
    · have hke : k = s.H.length := by
        have := lt_of_get hk
        simp at this
        omega
      subst hke
      rw [List.getElem?_append_right (Nat.le_refl _)] at hk
      simp at hk
      subst hk
      rw [← hi.len]
      exact ⟨hnu, hok⟩
  · simp only [] at hk ⊢
    by_cases hlt : k < s.H.length
    · rw [List.getElem?_append_left hlt] at hk
      rcases hi.src k h' hk hl with ⟨i, off, h1, h2⟩ | h1
      · left
        exact ⟨i, off, by rw [List.getElem?_append_left (by rw [hi.len]; exact hlt)]; exact h1, h2⟩
      · right
        have hu : hpOf s.H k ≠ .unused := by rw [hpOf_eq, hk]; exact (hi.ok k h' hk).1
        rw [(old k hu).1]
        exact h1
    · have hke : k = s.H.length := by
        have := lt_of_get hk
        simp at this
        omega
      subst hke
      rw [List.getElem?_append_right (Nat.le_refl _)] at hk
      simp at hk
      subst hk
      rw [← hi.len]
      rcases hsrc hl with ⟨i, off, h1, h2⟩ | h1
      · exact .inl ⟨i, off, by rw [List.getElem?_append_right (Nat.le_refl _), h1]; simp, h2⟩
      · exact .inr h1
  · simp only [] at h1 h2
    by_cases hlt : k < s.m.length <;> by_cases hlt' : k' < s.m.length
    · rw [List.getElem?_append_left hlt] at h1
      rw [List.getElem?_append_left hlt'] at h2
      exact hi.inj k k' i off off' h1 h2
    · rw [List.getElem?_append_left hlt] at h1
      have hke : k' = s.m.length := by have := lt_of_get h2; simp at this; omega
      subst hke
      rw [List.getElem?_append_right (Nat.le_refl _)] at h2
      simp at h2
      exact absurd h1 ((hfresh i off' h2).1 k off)
    · rw [List.getElem?_append_left hlt'] at h2
      have hke : k = s.m.length := by have := lt_of_get h1; simp at this; omega
      subst hke
      rw [List.getElem?_append_right (Nat.le_refl _)] at h1
      simp at h1
      exact absurd h2 ((hfresh i off h1).1 k' off')
    · have hke : k = s.m.length := by have := lt_of_get h1; simp at this; omega
      have hke' : k' = s.m.length := by have := lt_of_get h2; simp at this; omega
      omega
  · simp only [] at h1
    by_cases hlt : k < s.m.length
    · rw [List.getElem?_append_left hlt] at h1
      exact hi.apart k i off h1
    · have hke : k = s.m.length := by have := lt_of_get h1; simp at this; omega
      subst hke
      rw [List.getElem?_append_right (Nat.le_refl _)] at h1
      simp at h1
      exact (hfresh i off h1).2.1
  · simp only [] at h1
    by_cases hlt : k < s.m.length
    · rw [List.getElem?_append_left hlt] at h1
      exact hi.liv k i off h1
    · have hke : k = s.m.length := by have := lt_of_get h1; simp at this; omega
      subst hke
      rw [List.getElem?_append_right (Nat.le_refl _)] at h1
      simp at h1
      exact (hfresh i off h1).2.2.1
  · simp only [] at h1 h2
    by_cases hlt : k < s.m.length
    · rw [List.getElem?_append_left hlt] at h1
      rw [List.getElem?_append_left (by rw [← hi.len]; exact hlt)] at h2
      exact hi.kind k i off h' h1 h2
    · have hke : k = s.m.length := by have := lt_of_get h1; simp at this; omega
      subst hke
      rw [List.getElem?_append_right (Nat.le_refl _)] at h1
      rw [hi.len, List.getElem?_append_right (Nat.le_refl _)] at h2
      simp at h1 h2
      subst h2
      exact (hfresh i off h1).2.2.2

/-- An entry is filled in. -/
theorem PI_set {s : PS} (hi : PI MX w ρ d hp s) {k : Nat} {h : HE} (hk : s.H[k]? = some .gone) (hnu : h ≠ .unused) (hsrc : live h → (∃ i off, s.m[k]? = some (some (i, off)) ∧ live (hp i)) ∨ (∀ b, ¬ At (rhoS ρ d s.m k) b)) (hkind : ∀ i off, s.m[k]? = some (some (i, off)) → Kind hp i off h)
    (hok : HEok (Ms MX ρ hp s.lent) w (rhoS ρ d s.m) (hpOf s.H) k h) : PI MX w ρ d hp { s with H := s.H.set k h } ∧ (∀ j, hpOf (s.H.set k h) j ≠ .unused ↔ hpOf s.H j ≠ .unused) := by
  have hlt := lt_of_get hk
  have hu : ∀ j, hpOf (s.H.set k h) j ≠ .unused ↔ hpOf s.H j ≠ .unused := by
    intro j
    rw [hpOf_eq, hpOf_eq]
    by_cases hj : j = k
    · subst hj
      rw [List.getElem?_set_self hlt, hk]
      simp [hnu]
    · rw [List.getElem?_set_ne (fun e => hj e.symm)]
  refine ⟨⟨by simp [hi.len], fun j h' hj => ?_, fun j h' hj hl => ?_, hi.inj, hi.apart, hi.rows, hi.liv, fun j i off h' hm hj => ?_⟩, hu⟩
  · simp only [] at hj ⊢
    have conv : ∀ {h' : HE}, HEok (Ms MX ρ hp s.lent) w (rhoS ρ d s.m) (hpOf s.H) j h' → HEok (Ms MX ρ hp s.lent) w (rhoS ρ d s.m) (hpOf (s.H.set k h)) j h' :=
      fun hh => HEok_step (D := fun _ => False) (Off.refl _ _) (fun _ _ h => h.elim) (fun _ _ h => h) (fun i hi => ⟨Old.refl _, (hu i).2 hi⟩) rfl (fun _ _ _ h => h) hh
    by_cases hjk : j = k
    · subst hjk
      rw [List.getElem?_set_self hlt] at hj
      injection hj with hj
      subst hj
      exact ⟨hnu, conv hok⟩
    · rw [List.getElem?_set_ne (fun e => hjk e.symm)] at hj
      exact ⟨(hi.ok j h' hj).1, conv (hi.ok j h' hj).2⟩
  · simp only [] at hj ⊢
    by_cases hjk : j = k
    · subst hjk
      rw [List.getElem?_set_self hlt] at hj
      injection hj with hj
      subst hj
      exact hsrc hl
    · rw [List.getElem?_set_ne (fun e => hjk e.symm)] at hj
      exact hi.src j h' hj hl
  · simp only [] at hj hm
    by_cases hjk : j = k
    · subst hjk
      rw [List.getElem?_set_self hlt] at hj
      injection hj with hj
      subst hj
      exact hkind i off hm
    · rw [List.getElem?_set_ne (fun e => hjk e.symm)] at hj
      exact hi.kind j i off h' hm hj

/-- A row is lent. -/
theorem PI_lend {s : PS} (hi : PI MX w ρ d hp s) {i : Nat} (hr : live (hp i)) (hm : ∀ (j off : Nat), s.m[j]? ≠ some (some (i, off))) :
    PI MX w ρ d hp { s with lent := i :: s.lent } ∧ Ext s { s with lent := i :: s.lent } := by
  refine ⟨⟨hi.len, fun k h hk => ⟨(hi.ok k h hk).1, ?_⟩, hi.src, hi.inj, fun k j off hj => ?_, fun j hj => ?_, hi.liv, hi.kind⟩, ⟨⟨[], by simp⟩, fun _ _ => rfl, Nat.le_refl _, fun _ h => List.mem_cons_of_mem _ h⟩⟩
  · exact HEok_step (D := fun _ => False) (Off.refl _ _) (fun _ _ h => h.elim) (Ms_mono (fun _ h => List.mem_cons_of_mem _ h)) (fun i hi => ⟨Old.refl _, hi⟩) rfl (fun _ _ _ h => h) (hi.ok k h hk).2
  · intro hmem
    rcases List.mem_cons.1 hmem with h | h
    · subst h; exact hm k off hj
    · exact hi.apart k j off hj h
  · rcases List.mem_cons.1 hj with h | h
    · subst h; exact hr
    · exact hi.rows j h

theorem Ms_le {s : PS} (_ : PI MX w ρ d hp s) : ∀ b, b < w.heap.size → Ms MX ρ hp s.lent b → Mut MX hp ρ b := fun _ _ h => h.1

theorem KR_Ms {s : PS} {t : Ty} {x : t.den} {cs : List Value} (h : t.KR (Mut MX hp ρ) w x cs) : t.KR (Ms MX ρ hp s.lent) w x cs :=
  KR_step (D := fun _ => False) (Off.refl _ _) (fun _ _ h => h.elim) (fun _ _ h => h.1) t h

/-- A value without a number of the heap's in it. -/
def plain : AV → Bool
  | .v _ => true
  | .con _ _ => true
  | .elt _ _ _ => true
  | .bs _ _ => true
  | .bp _ _ _ => true
  | _ => false

theorem plain_step {M M' : Nat → Prop} {ρ' : Nat → Value} {hp' : Heap} (hM : ∀ b, b < w.heap.size → M' b → M b) {a : AV} (hp0 : plain a = true) {y : Value} (h : R M w ρ hp a y) : R M' w ρ' hp' a y := by
  cases a with
  | v x => exact h
  | bs ng t => exact h
  | bp ng p dd => exact h
  | con t l => exact R_step (ρ := ρ') (hp := hp') (D := fun _ => False) (Off.refl _ _) (fun _ _ h => h.elim) hM (fun i hi => ⟨Old.refl _, hi⟩) (.con t l) h
  | elt t x o => exact R_step (ρ := ρ') (hp := hp') (D := fun _ => False) (Off.refl _ _) (fun _ _ h => h.elim) hM (fun i hi => ⟨Old.refl _, hi⟩) (.elt t x o) h
  | _ => cases hp0

end

section
variable {Rt α : Type} {MX : Nat → Prop} {w : World} {ρ d : Nat → Value} {hp : Heap} (H : HRel MX w ρ hp) {n0 : Nat} (hd : ∀ k, n0 ≤ k → d k = .slice none 0 0)
  {b : Nat} {ws : List Nat} {K : α → Nat → Heap → List Nat → List Nat → Option Rt} {r : Rt}
theorem lendC_sound (H : HRel MX w ρ hp) {w1 : List Nat} : (cs : List AV) → {vs : List Value} → {s : PS} → {rs : List Nat} → {k : List AV → PS → Eff α} → PI MX w ρ d hp s → Rs (Mut MX hp ρ) w ρ hp cs vs → (lendC cs s k).go b hp rs w1 K = some r →
    ∃ cs' s' rs', (k cs' s').go b hp rs' w1 K = some r ∧ PI MX w ρ d hp s' ∧ Ext s s' ∧ s'.m = s.m ∧ RPs MX w ρ d hp s' cs' vs
  | [], vs, s, rs, k, hi, ha, hk => ⟨[], s, rs, hk, hi, Ext.refl s, rfl, ha⟩
  | .own j :: cs, vs, s, rs, k, hi, ha, hk => by
    obtain ⟨v, q, rfl, ⟨hne, hv0, A0, n1, c0, hv⟩, hq⟩ := ha
    subst hv0
    simp only [lendC, Eff.go] at hk
    have hok := H.ok j
    split at hk
    · rename_i e' t' l hrow
      split at hk
      case h_2 => cases hk
      rename_i hf
      obtain ⟨h1, h2⟩ := PI_lend hi (by rw [hrow]; trivial) (findM_none hf)
      rw [hrow] at hok
      obtain ⟨xs, g1, g2⟩ := hok
      obtain ⟨A, c, hv', hle, hr⟩ := own_reads g1 g2
      obtain ⟨cs', s', rs', hK, h3, h4, h5, h6⟩ := lendC_sound H cs h1 hq hk
      refine ⟨_, s', rs', hK, h3, h2.trans h4, h5, _, _, rfl, ⟨A, c, (hd_slice hv').trans hv', hle, hr _ fun b' hb hm => ⟨hm.1, fun hbe => hm.2 ⟨j, h4.lent j List.mem_cons_self, hbe⟩⟩⟩, h6⟩
    · rename_i o' e' be t' l htre
      split at hk
      case h_2 => cases hk
      rename_i hf
      obtain ⟨h1, h2⟩ := PI_lend hi (by rw [htre]; trivial) (findM_none hf)
      rw [htre] at hok
      obtain ⟨v0, ss, us, xs, ht⟩ := hok
      obtain ⟨A, c, hv', hle, hr⟩ := ht.view
      obtain ⟨cs', s', rs', hK, h3, h4, h5, h6⟩ := lendC_sound H cs h1 hq hk
      exact ⟨_, s', rs', hK, h3, h2.trans h4, h5, _, _, rfl, ⟨A, c, hv', hle, hr _ fun b' hb hm => ⟨hm.1, fun hbe => hm.2 ⟨j, h4.lent j List.mem_cons_self, hbe⟩⟩⟩, h6⟩
    · rename_i t' l hfrz
      rw [hfrz] at hok
      obtain ⟨A, c, hv', hle, hr⟩ := hok
      obtain ⟨cs', s', rs', hK, h3, h4, h5, h6⟩ := lendC_sound H cs hi hq hk
      refine ⟨_, s', rs', hK, h3, h4, h5, _, _, rfl, ⟨A, c, (hd_slice hv').trans hv', hle, ?_⟩, h6⟩
      exact RowR_step (D := fun _ => False) t'.sz_pos (Off.refl _ _) (fun _ _ h => h.elim) (fun _ _ h => h.1) (fun _ _ h => KR_Ms h) hr
    · cases hk
  | .v x :: cs, vs, s, rs, k, hi, ha, hk => by
    obtain ⟨v, q, rfl, h, hq⟩ := ha
    obtain ⟨cs', s', rs', hK, h3, h4, h5, h6⟩ := lendC_sound H cs hi hq hk
    exact ⟨_, s', rs', hK, h3, h4, h5, _, _, rfl, h, h6⟩
  | .con t l :: cs, vs, s, rs, k, hi, ha, hk => by
    obtain ⟨v, q, rfl, h, hq⟩ := ha
    obtain ⟨cs', s', rs', hK, h3, h4, h5, h6⟩ := lendC_sound H cs hi hq hk
    exact ⟨_, s', rs', hK, h3, h4, h5, _, _, rfl, plain_step (fun _ _ h => h.1) rfl h, h6⟩
  | .bs ng t :: cs, vs, s, rs, k, hi, ha, hk => by
    obtain ⟨v, q, rfl, h, hq⟩ := ha
    obtain ⟨cs', s', rs', hK, h3, h4, h5, h6⟩ := lendC_sound H cs hi hq hk
    exact ⟨_, s', rs', hK, h3, h4, h5, _, _, rfl, h, h6⟩
  | .bp ng p dd :: cs, vs, s, rs, k, hi, ha, hk => by
    obtain ⟨v, q, rfl, h, hq⟩ := ha
    obtain ⟨cs', s', rs', hK, h3, h4, h5, h6⟩ := lendC_sound H cs hi hq hk
    exact ⟨_, s', rs', hK, h3, h4, h5, _, _, rfl, h, h6⟩
  | .box _ _ :: cs, vs, s, rs, k, hi, ha, hk => by cases hk
  | .elt _ _ _ :: cs, vs, s, rs, k, hi, ha, hk => by cases hk
  | .oel _ _ _ _ :: cs, vs, s, rs, k, hi, ha, hk => by cases hk
  | .mp _ :: cs, vs, s, rs, k, hi, ha, hk => by cases hk
  | .sub _ _ :: cs, vs, s, rs, k, hi, ha, hk => by cases hk
  | .fn _ _ _ :: cs, vs, s, rs, k, hi, ha, hk => by cases hk
  | .agg _ :: cs, vs, s, rs, k, hi, ha, hk => by cases hk
  | .tup _ :: cs, vs, s, rs, k, hi, ha, hk => by cases hk
  | .dead :: cs, vs, s, rs, k, hi, ha, hk => by cases hk

include H hd
mutual
theorem pk_sound : (rc : RC) → {a : AV} → {y : Value} → {s : PS} → {rs : List Nat} → {k : AV → PS → Eff α} → PI MX w ρ d hp s → n0 ≤ s.m.length → R (Mut MX hp ρ) w ρ hp a y → (pk rc a s k).go b hp rs ws K = some r →
    ∃ a' s' rs', (k a' s').go b hp rs' ws K = some r ∧ PI MX w ρ d hp s' ∧ Ext s s' ∧ RP MX w ρ d hp s' a' y
  | .val, a, y, s, rs, k, hi, hn, ha, hk => by
    unfold pk at hk
    have : ∀ {a' : AV}, plain a' = true → R (Mut MX hp ρ) w ρ hp a' y → RP MX w ρ d hp s a' y := fun h1 h2 => plain_step (fun _ _ h => h.1) h1 h2
    split at hk
    · exact ⟨_, s, rs, hk, hi, Ext.refl s, this rfl ha⟩
    · exact ⟨_, s, rs, hk, hi, Ext.refl s, this rfl ha⟩
    · exact ⟨_, s, rs, hk, hi, Ext.refl s, this rfl ha⟩
    · cases hk
  | .bool, a, y, s, rs, k, hi, hn, ha, hk => by
    unfold pk at hk
    split at hk
    · rename_i t ht
      exact ⟨_, s, rs, hk, hi, Ext.refl s, boolOf_sound ha ht⟩
    · cases hk
  | .con t, a, y, s, rs, k, hi, hn, ha, hk => by
    unfold pk at hk
    split at hk
    · exact ⟨_, s, rs, hk, hi, Ext.refl s, plain_step (fun _ _ h => h.1) rfl ha⟩
    · refine ⟨_, s, rs, hk, hi, Ext.refl s, none, 0, ha, Nat.le_refl _, fun i x hx => by simp at hx⟩
    · rename_i i
      obtain ⟨hne, rfl, A0, n1, c0, hv⟩ := ha
      simp only [Eff.go] at hk
      have hok := H.ok i
      split at hk
      · rename_i e t' l hrow
        split at hk
        case h_2 => cases hk
        rename_i hf
        obtain ⟨h1, h2⟩ := PI_lend hi (by rw [hrow]; trivial) (findM_none hf)
        rw [hrow] at hok
        obtain ⟨xs, g1, g2⟩ := hok
        obtain ⟨A, c, hv', hle, hr⟩ := own_reads g1 g2
        refine ⟨_, _, _, hk, h1, h2, A, c, (hd_slice hv').trans hv', hle, hr _ fun b' hb hm => ⟨hm.1, fun hbe => hm.2 ⟨i, List.mem_cons_self, hbe⟩⟩⟩
      · rename_i o' e' be t' l htre
        split at hk
        case h_2 => cases hk
        rename_i hf
        obtain ⟨h1, h2⟩ := PI_lend hi (by rw [htre]; trivial) (findM_none hf)
        rw [htre] at hok
        obtain ⟨v0, ss, us, xs, ht⟩ := hok
        obtain ⟨A, c, hv', hle, hr⟩ := ht.view
        exact ⟨_, _, _, hk, h1, h2, A, c, hv', hle, hr _ fun b' hb hm => ⟨hm.1, fun hbe => hm.2 ⟨i, List.mem_cons_self, hbe⟩⟩⟩
      · rename_i t' l hfrz
        rw [hfrz] at hok
        obtain ⟨A, c, hv', hle, hr⟩ := hok
        refine ⟨_, s, _, hk, hi, Ext.refl s, A, c, (hd_slice hv').trans hv', hle, ?_⟩
        exact RowR_step (D := fun _ => False) t'.sz_pos (Off.refl _ _) (fun _ _ h => h.elim) (fun _ _ h => h.1) (fun _ _ h => KR_Ms h) hr
      · cases hk
    · rename_i i lo
      simp only [Eff.go] at hk
      have hok := H.ok i
      have hne := ha.1
      obtain ⟨g, n, c, c', A', e, hlo, hy, hA, hc⟩ := ha.2
      split at hk
      · rename_i e' t' l hrow
        split at hk
        case h_2 => cases hk
        rename_i hf hsz
        have hsz := Nat.eq_of_beq_eq_true hsz
        obtain ⟨h1, h2⟩ := PI_lend hi (by rw [hrow]; trivial) (findM_none hf)
        rw [hrow] at hok
        obtain ⟨xs, g1, g2⟩ := hok
        obtain ⟨A, c2, hv', hle, hr⟩ := own_reads g1 g2
        refine ⟨_, _, _, hk, h1, h2, ?_⟩
        exact sub_con (ρ := ρ) (hp := hp) hsz hv' (hr _ fun b' hb hm => ⟨hm.1, fun hbe => hm.2 ⟨i, List.mem_cons_self, hbe⟩⟩) ⟨hne, g, n, c, c', A', e, hlo, hy, hA, hc⟩
      · rename_i t' l hfrz
        split at hk
        case h_2 => cases hk
        rename_i hsz
        have hsz := Nat.eq_of_beq_eq_true hsz
        rw [hfrz] at hok
        obtain ⟨A, c2, hv', hle, hr⟩ := hok
        refine ⟨_, s, _, hk, hi, Ext.refl s, ?_⟩
        exact sub_con (ρ := ρ) (hp := hp) hsz hv' (RowR_step (D := fun _ => False) t'.sz_pos (Off.refl _ _) (fun _ _ h => h.elim) (fun _ _ h => h.1) (fun _ _ h => KR_Ms h) hr) ⟨hne, g, n, c, c', A', e, hlo, hy, hA, hc⟩
      · cases hk
    · cases hk
  | .row e t, a, y, s, rs, k, hi, hn, ha, hk => by
    unfold pk at hk
    split at hk
    · rename_i i
      obtain ⟨hne, rfl, A0, n1, c0, hv⟩ := ha
      split at hk
      · rename_i n off hf
        obtain ⟨j, hj, hm⟩ := findM_some hf
        rw [Nat.zero_add] at hj
        subst hj
        have hlt := lt_of_get hm
        rw [hi.len] at hlt
        refine ⟨_, s, rs, hk, hi, Ext.refl s, ?_, ?_, A0, n1, c0, hv⟩
        · rw [hpOf_eq, List.getElem?_eq_getElem hlt]
          exact (hi.ok n _ (List.getElem?_eq_getElem hlt)).1
        · unfold rhoS
          rw [hm]
          exact (hd_shift hv off).symm
      · cases hk
      rename_i hf hlent
      simp only [Eff.go] at hk
      have hok := H.ok i
      have hrho : rhoS ρ d (s.m ++ [some (i, 0)]) s.m.length = ρ i := by
        unfold rhoS
        rw [List.getElem?_append_right (Nat.le_refl _)]
        simp only [Nat.sub_self, List.getElem?_cons_zero]
        exact shift_own hv
      have hni : i ∉ s.lent := fun hmem => by
        have : s.lent.any (Nat.beq i) = true := List.any_eq_true.2 ⟨i, hmem, Nat.beq_refl i⟩
        rw [hlent] at this
        cases this
      split at hk
      case h_4 => cases hk
      case h_3 =>
        rename_i o' fr e' be t' l htre
        rw [htre] at hok
        obtain ⟨v0, ss, us, xs, ht⟩ := hok
        obtain ⟨h1, h2⟩ := PI_push (p := some (i, 0)) (h := .tre o' fr e' be t' l none) hi (by simp) (fun j off e => by injection e with e; injection e with e1 e2; subst e1; exact ⟨findM_none hf, hni, by rw [htre]; trivial, .inr (.inr (.inl ⟨htre, e2.symm, by simp⟩))⟩)
          (fun _ => .inl ⟨i, 0, rfl, by rw [htre]; trivial⟩) ⟨v0, ss, us, xs, ht.none_ (Ms_le hi) hrho⟩
        refine ⟨_, _, _, hk, h1, h2, ?_, by rw [hrho], A0, n1, c0, hv⟩
        rw [hpOf_eq, hi.len, List.getElem?_append_right (Nat.le_refl _)]
        simp
      case h_2 =>
        rename_i l hrow
        rw [hrow] at hok
        obtain ⟨g, c, g1, g2, g3⟩ := hok
        obtain ⟨h1, h2⟩ := PI_push (p := some (i, 0)) (h := .bts l) hi (by simp) (fun j off e => by injection e with e; injection e with e1 e2; subst e1; exact ⟨findM_none hf, hni, by rw [hrow]; trivial, .inr (.inr (.inl ⟨hrow, e2.symm, by simp⟩))⟩)
          (fun _ => .inl ⟨i, 0, rfl, by rw [hrow]; trivial⟩) ⟨g, c, by rw [hrho]; exact g1, g2, g3⟩
        refine ⟨_, _, _, hk, h1, h2, ?_, by rw [hrho], A0, n1, c0, hv⟩
        rw [hpOf_eq, hi.len, List.getElem?_append_right (Nat.le_refl _)]
        simp
      rename_i e' t' l hrow
      rw [hrow] at hok
      obtain ⟨xs, g1, g2⟩ := hok
      obtain ⟨h1, h2⟩ := PI_push (p := some (i, 0)) (h := .row e' t' l) hi (by simp) (fun j off e => by injection e with e; injection e with e1 e2; subst e1; exact ⟨findM_none hf, hni, by rw [hrow]; trivial, .inr (.inr (.inl ⟨hrow, e2.symm, by simp⟩))⟩)
        (fun _ => .inl ⟨i, 0, rfl, by rw [hrow]; trivial⟩) ⟨xs, by rw [hrho]; exact g1, Els.imp (fun _ _ h => KR_Ms h) g2⟩
      refine ⟨_, _, _, hk, h1, h2, ?_, by rw [hrho], A0, n1, c0, hv⟩
      rw [hpOf_eq, hi.len, List.getElem?_append_right (Nat.le_refl _)]
      simp
    · have hrho : rhoS ρ d (s.m ++ [none]) s.m.length = .slice none 0 0 := by
        unfold rhoS
        rw [List.getElem?_append_right (Nat.le_refl _)]
        simp only [Nat.sub_self, List.getElem?_cons_zero]
        exact hd _ hn
      obtain ⟨h1, h2⟩ := PI_push (p := none) (h := .row e t []) hi (by simp) (fun j off e => by cases e) (fun _ => .inr (by rw [hrho]; exact fun b h => nomatch (h : (none : Option Nat) = some b))) ⟨[], by rw [hrho]; exact World.ownsRow_nil _ _ _ _, rfl⟩
      refine ⟨_, _, _, hk, h1, h2, ?_, by rw [hrho]; exact ha, none, 0, 0, ha⟩
      rw [hpOf_eq, hi.len, List.getElem?_append_right (Nat.le_refl _)]
      simp
    · cases hk
  | .tre o e be t, a, y, s, rs, k, hi, hn, ha, hk => by
    unfold pk at hk
    split at hk
    · rename_i i
      obtain ⟨hne, rfl, A0, n1, c0, hv⟩ := ha
      split at hk
      · rename_i n off hf
        obtain ⟨j, hj, hm⟩ := findM_some hf
        rw [Nat.zero_add] at hj
        subst hj
        have hlt := lt_of_get hm
        rw [hi.len] at hlt
        refine ⟨_, s, rs, hk, hi, Ext.refl s, ?_, ?_, A0, n1, c0, hv⟩
        · rw [hpOf_eq, List.getElem?_eq_getElem hlt]
          exact (hi.ok n _ (List.getElem?_eq_getElem hlt)).1
        · unfold rhoS
          rw [hm]
          exact (hd_shift hv off).symm
      · cases hk
      rename_i hf hlent
      simp only [Eff.go] at hk
      have hok := H.ok i
      have hrho : rhoS ρ d (s.m ++ [some (i, 0)]) s.m.length = ρ i := by
        unfold rhoS
        rw [List.getElem?_append_right (Nat.le_refl _)]
        simp only [Nat.sub_self, List.getElem?_cons_zero]
        exact shift_own hv
      have hni : i ∉ s.lent := fun hmem => by
        have : s.lent.any (Nat.beq i) = true := List.any_eq_true.2 ⟨i, hmem, Nat.beq_refl i⟩
        rw [hlent] at this
        cases this
      split at hk
      case h_2 => cases hk
      rename_i o' fr e' be' t' l htre
      rw [htre] at hok
      obtain ⟨v0, ss, us, xs, ht⟩ := hok
      obtain ⟨h1, h2⟩ := PI_push (p := some (i, 0)) (h := .tre o' fr e' be' t' l none) hi (by simp) (fun j off e => by injection e with e; injection e with e1 e2; subst e1; exact ⟨findM_none hf, hni, by rw [htre]; trivial, .inr (.inr (.inl ⟨htre, e2.symm, by simp⟩))⟩)
        (fun _ => .inl ⟨i, 0, rfl, by rw [htre]; trivial⟩) ⟨v0, ss, us, xs, ht.none_ (Ms_le hi) hrho⟩
      refine ⟨_, _, _, hk, h1, h2, ?_, by rw [hrho], A0, n1, c0, hv⟩
      rw [hpOf_eq, hi.len, List.getElem?_append_right (Nat.le_refl _)]
      simp
    · split at hk
      case h_2 => cases hk
      rename_i hnest hosz
      have hosz : o = 0 ∨ t.inn.sz = 1 := by
        rcases Bool.or_eq_true_iff.1 hosz with h | h
        · exact .inl (Nat.eq_of_beq_eq_true h)
        · exact .inr (Nat.eq_of_beq_eq_true h)
      have hrho : rhoS ρ d (s.m ++ [none]) s.m.length = .slice none 0 0 := by
        unfold rhoS
        rw [List.getElem?_append_right (Nat.le_refl _)]
        simp only [Nat.sub_self, List.getElem?_cons_zero]
        exact hd _ hn
      obtain ⟨h1, h2⟩ := PI_push (p := none) (h := .tre o none e be t [] none) hi (by simp) (fun j off e => by cases e) (fun _ => .inr (by rw [hrho]; exact fun b h => nomatch (h : (none : Option Nat) = some b)))
        ⟨.slice none 0 0, [], [], [], hnest, hosz, .inr ⟨rfl, rfl, rfl, hrho⟩, rfl, rfl, World.ownsRow_nil _ _ _ _, rfl, (fun j x s _ hx => by simp at hx), (fun j s _ hs => by simp at hs), (fun j s u _ hs => by simp at hs), (fun j k s s' b hj hk hb => by
          cases j with
          | zero => simp at hj; subst hj; cases hb
          | succ j => simp [hole] at hj), (fun s hs => by cases hs), fun j q hc => by cases hc⟩
      refine ⟨_, _, _, hk, h1, h2, ?_, by rw [hrho]; exact ha, none, 0, 0, ha⟩
      rw [hpOf_eq, hi.len, List.getElem?_append_right (Nat.le_refl _)]
      simp
    · cases hk
  | .trs, a, y, s, rs, k, hi, hn, ha, hk => by
    unfold pk at hk
    split at hk
    · rename_i i
      obtain ⟨hne, rfl, A0, n1, c0, hv⟩ := ha
      split at hk
      · rename_i n off hf
        obtain ⟨j, hj, hm⟩ := findM_some hf
        rw [Nat.zero_add] at hj
        subst hj
        have hlt := lt_of_get hm
        rw [hi.len] at hlt
        refine ⟨_, s, rs, hk, hi, Ext.refl s, ?_, ?_, A0, n1, c0, hv⟩
        · rw [hpOf_eq, List.getElem?_eq_getElem hlt]
          exact (hi.ok n _ (List.getElem?_eq_getElem hlt)).1
        · unfold rhoS
          rw [hm]
          exact (hd_shift hv off).symm
      · cases hk
      rename_i hf hlent
      simp only [Eff.go] at hk
      have hok := H.ok i
      have hrho : rhoS ρ d (s.m ++ [some (i, 0)]) s.m.length = ρ i := by
        unfold rhoS
        rw [List.getElem?_append_right (Nat.le_refl _)]
        simp only [Nat.sub_self, List.getElem?_cons_zero]
        exact shift_own hv
      have hni : i ∉ s.lent := fun hmem => by
        have : s.lent.any (Nat.beq i) = true := List.any_eq_true.2 ⟨i, hmem, Nat.beq_refl i⟩
        rw [hlent] at this
        cases this
      split at hk
      case h_2 => cases hk
      rename_i o' fr e' be' t' l htre
      rw [htre] at hok
      obtain ⟨v0, ss, us, xs, ht⟩ := hok
      obtain ⟨h1, h2⟩ := PI_push (p := some (i, 0)) (h := .tre o' fr e' be' t' l none) hi (by simp) (fun j off e => by injection e with e; injection e with e1 e2; subst e1; exact ⟨findM_none hf, hni, by rw [htre]; trivial, .inr (.inr (.inl ⟨htre, e2.symm, by simp⟩))⟩)
        (fun _ => .inl ⟨i, 0, rfl, by rw [htre]; trivial⟩) ⟨v0, ss, us, xs, ht.none_ (Ms_le hi) hrho⟩
      refine ⟨_, _, _, hk, h1, h2, ?_, by rw [hrho], A0, n1, c0, hv⟩
      rw [hpOf_eq, hi.len, List.getElem?_append_right (Nat.le_refl _)]
      simp
    · cases hk
  | .sub lo, a, y, s, rs, k, hi, hn, ha, hk => by
    unfold pk at hk
    split at hk
    case h_2 => cases hk
    rename_i i lo'
    obtain ⟨hne, g, n, c, c', A', e, hlo, hy, hA, hc⟩ := ha
    split at hk
    case h_3 => cases hk
    case h_1 =>
      rename_i n1 off hf hll
      have hll := Nat.eq_of_beq_eq_true hll
      subst hll
      obtain ⟨j, hj, hm⟩ := findM_some hf
      rw [Nat.zero_add] at hj
      subst hj
      have hlt := lt_of_get hm
      rw [hi.len] at hlt
      refine ⟨_, s, rs, hk, hi, Ext.refl s, ?_, g, n, c, c', A', ?_, hlo, hy, hA, hc⟩
      · rw [hpOf_eq, List.getElem?_eq_getElem hlt]
        exact (hi.ok n1 _ (List.getElem?_eq_getElem hlt)).1
      · unfold rhoS
        rw [hm]
        simp only [e, shift]
    rename_i hf hlent hll
    have hll := Nat.eq_of_beq_eq_true hll
    subst hll
    simp only [Eff.go] at hk
    have hok := H.ok i
    have hrho : rhoS ρ d (s.m ++ [some (i, 0)]) s.m.length = ρ i := by
      unfold rhoS
      rw [List.getElem?_append_right (Nat.le_refl _)]
      simp only [Nat.sub_self, List.getElem?_cons_zero]
      exact shift_own (hd_slice e ▸ e)
    have hni : i ∉ s.lent := fun hmem => by
      have : s.lent.any (Nat.beq i) = true := List.any_eq_true.2 ⟨i, hmem, Nat.beq_refl i⟩
      rw [hlent] at this
      cases this
    split at hk
    case h_2 => cases hk
    rename_i e' t' l hrow
    rw [hrow] at hok
    obtain ⟨xs, g1, g2⟩ := hok
    obtain ⟨h1, h2⟩ := PI_push (p := some (i, 0)) (h := .row e' t' l) hi (by simp) (fun j off e => by injection e with e; injection e with e1 e2; subst e1; exact ⟨findM_none hf, hni, by rw [hrow]; trivial, .inr (.inr (.inl ⟨hrow, e2.symm, by simp⟩))⟩)
      (fun _ => .inl ⟨i, 0, rfl, by rw [hrow]; trivial⟩) ⟨xs, by rw [hrho]; exact g1, Els.imp (fun _ _ h => KR_Ms h) g2⟩
    refine ⟨_, _, _, hk, h1, h2, ?_, g, n, c, c', A', hrho.trans e, hlo, hy, hA, hc⟩
    rw [hpOf_eq, hi.len, List.getElem?_append_right (Nat.le_refl _)]
    simp
  | .mp t, a, y, s, rs, k, hi, hn, ha, hk => by
    unfold pk at hk
    split at hk
    case h_2 => cases hk
    rename_i i
    obtain ⟨hne, rfl, b0, hv⟩ := ha
    split at hk
    · rename_i n off hf
      obtain ⟨j, hj, hm⟩ := findM_some hf
      rw [Nat.zero_add] at hj
      subst hj
      have hlt := lt_of_get hm
      rw [hi.len] at hlt
      refine ⟨_, s, rs, hk, hi, Ext.refl s, ?_, ?_, b0, hv⟩
      · rw [hpOf_eq, List.getElem?_eq_getElem hlt]
        exact (hi.ok n _ (List.getElem?_eq_getElem hlt)).1
      · unfold rhoS
        rw [hm]
        simp only [hv, shift]
    · cases hk
    rename_i hf hlent
    simp only [Eff.go] at hk
    have hok := H.ok i
    split at hk
    case h_2 => cases hk
    rename_i t' f hmp
    rw [hmp] at hok
    obtain ⟨b1, g1, g2⟩ := hok
    have hrho : rhoS ρ d (s.m ++ [some (i, 0)]) s.m.length = ρ i := by
      unfold rhoS
      rw [List.getElem?_append_right (Nat.le_refl _)]
      simp only [Nat.sub_self, List.getElem?_cons_zero]
      rw [hv]
      rfl
    have hni : i ∉ s.lent := fun hmem => by
      have : s.lent.any (Nat.beq i) = true := List.any_eq_true.2 ⟨i, hmem, Nat.beq_refl i⟩
      rw [hlent] at this
      cases this
    obtain ⟨h1, h2⟩ := PI_push (p := some (i, 0)) (h := .mp t' f) hi (by simp) (fun j off e => by injection e with e; injection e with e1 e2; subst e1; exact ⟨findM_none hf, hni, by rw [hmp]; trivial, .inr (.inr (.inl ⟨hmp, e2.symm, by simp⟩))⟩)
      (fun _ => .inl ⟨i, 0, rfl, by rw [hmp]; trivial⟩) ⟨b1, by rw [hrho]; exact g1, g2⟩
    refine ⟨_, _, _, hk, h1, h2, ?_, by rw [hrho], b0, hv⟩
    rw [hpOf_eq, hi.len, List.getElem?_append_right (Nat.le_refl _)]
    simp
  | .bld T rc, a, y, s, rs, k, hi, hn, ha, hk => by
    unfold pk at hk
    split at hk
    case h_2 => cases hk
    rename_i i off
    obtain ⟨hne, g, o, he, rfl⟩ := ha
    split at hk
    · rename_i n off' hf
      split at hk
      case h_2 => cases hk
      rename_i hoff
      have hoff := Nat.eq_of_beq_eq_true hoff
      subst hoff
      obtain ⟨j, hj, hm⟩ := findM_some hf
      rw [Nat.zero_add] at hj
      subst hj
      refine ⟨_, s, rs, hk, hi, Ext.refl s, ?_, g, o + off, ?_, rfl⟩
      · have hlt := lt_of_get hm
        rw [hi.len] at hlt
        rw [hpOf_eq, List.getElem?_eq_getElem hlt]
        exact (hi.ok n _ (List.getElem?_eq_getElem hlt)).1
      · unfold rhoS
        rw [hm]
        simp only [he, shift]
    · rename_i hf
      simp only [Eff.go] at hk
      have hok := H.ok i
      split at hk
      case h_2 => cases hk
      rename_i T' c hbld
      split at hk
      case h_2 => cases hk
      rename_i hT hoff hlent
      have hT := Nat.eq_of_beq_eq_true hT
      have hoff := Nat.eq_of_beq_eq_true hoff
      subst hT hoff
      rw [hbld] at hok
      obtain ⟨g', p0, v0, g1, g2, g3, g4⟩ := hok
      rw [he] at g1
      injection g1 with g1
      injection g1 with g1
      injection g1 with e1 e2
      subst e1 e2
      have hni : i ∉ s.lent := fun hmem => by
        have : s.lent.any (Nat.beq i) = true := List.any_eq_true.2 ⟨i, hmem, Nat.beq_refl i⟩
        rw [hlent] at this
        cases this
      obtain ⟨h1, h2⟩ := PI_push (p := some (i, 0)) (h := .gone) hi (by simp) (fun j off' e => by injection e with e; injection e with e1 _; subst e1; exact ⟨findM_none hf, hni, by rw [hbld]; trivial, .inl rfl⟩) (fun h => h.elim) trivial
      obtain ⟨c', s', rs', hK, h3, h4, h5⟩ := pk_sound rc h1 (by simp; omega) g4 hk
      have hrho1 : rhoS ρ d (s.m ++ [some (i, 0)]) s.m.length = .pointer (some ⟨g, 0, none⟩) := by
        unfold rhoS
        rw [List.getElem?_append_right (Nat.le_refl _)]
        simp only [Nat.sub_self, List.getElem?_cons_zero, he, shift]
      obtain ⟨rr, hrr⟩ := h4.m
      have hrho : rhoS ρ d s'.m s.m.length = .pointer (some ⟨g, 0, none⟩) := by
        rw [← hrho1]
        unfold rhoS
        rw [hrr]
        simp only []
        rw [List.getElem?_append_left (by simp)]
      have hgone : s'.H[s.m.length]? = some .gone := by
        rw [h4.H s.m.length (by simp [hi.len])]
        simp only []
        rw [hi.len, List.getElem?_append_right (Nat.le_refl _)]
        simp
      have hmk : s'.m[s.m.length]? = some (some (i, 0)) := by
        rw [hrr]
        simp only []
        rw [List.getElem?_append_left (by simp), List.getElem?_append_right (Nat.le_refl _)]
        simp
      obtain ⟨h6, h7⟩ := PI_set (h := .bld T c') h3 hgone (by simp) (fun _ => .inl ⟨i, 0, hmk, by rw [hbld]; trivial⟩) (fun i' off' hm' => by
        rw [hmk] at hm'
        injection hm' with hm'
        injection hm' with hm'
        injection hm' with e1 e2
        subst e1 e2
        exact .inr (.inr (.inr ⟨T, c', c, rfl, hbld, rfl⟩))) ⟨g, p0, v0, hrho, g2, g3, h5⟩
      refine ⟨_, _, rs', hK, h6, ?_, ?_, g, 0, hrho, rfl⟩
      · have hx := h2.trans h4
        refine ⟨hx.m, fun j hj => ?_, by simpa using hx.le, hx.lent⟩
        rw [← hx.H j hj]
        simp only []
        rw [List.getElem?_set_ne (by rw [hi.len]; omega)]
      · refine (h7 _).2 ?_
        rw [hpOf_eq, hgone]
        simp
  | .box rcs, a, y, s, rs, k, hi, hn, ha, hk => by
    unfold pk at hk
    split at hk
    case h_2 => cases hk
    rename_i i off
    obtain ⟨hne, g, o, he, rfl⟩ := ha
    split at hk
    · rename_i n off' hf
      split at hk
      case h_2 => cases hk
      rename_i hoff
      have hoff := Nat.eq_of_beq_eq_true hoff
      subst hoff
      obtain ⟨j, hj, hm⟩ := findM_some hf
      rw [Nat.zero_add] at hj
      subst hj
      refine ⟨_, s, rs, hk, hi, Ext.refl s, ?_, g, o + off, ?_, rfl⟩
      · have hlt := lt_of_get hm
        rw [hi.len] at hlt
        rw [hpOf_eq, List.getElem?_eq_getElem hlt]
        exact (hi.ok n _ (List.getElem?_eq_getElem hlt)).1
      · unfold rhoS
        rw [hm]
        simp only [he, shift]
    · rename_i hf
      simp only [Eff.go] at hk
      have hok := H.ok i
      split at hk
      case h_2 => cases hk
      rename_i cs hbox
      split at hk
      case h_2 => cases hk
      rename_i hle hlent
      have hle := Nat.le_of_ble_eq_true hle
      rw [hbox] at hok
      obtain ⟨g', o', C, e, vs, g1, g2, g3, g4⟩ := hok
      rw [he] at g1
      injection g1 with g1
      injection g1 with g1
      injection g1 with e1 e2
      subst e1 e2
      have hni : i ∉ s.lent := fun hmem => by
        have : s.lent.any (Nat.beq i) = true := List.any_eq_true.2 ⟨i, hmem, Nat.beq_refl i⟩
        rw [hlent] at this
        cases this
      obtain ⟨h1, h2⟩ := PI_push (p := some (i, off)) (h := .gone) hi (by simp) (fun j off' e => by injection e with e; injection e with e1 _; subst e1; exact ⟨findM_none hf, hni, by rw [hbox]; trivial, .inl rfl⟩) (fun h => h.elim) trivial
      obtain ⟨cs', s', rs', hK, h3, h4, h5⟩ := pks_sound rcs h1 (by simp; omega) (Rs_take (Rs_drop g3 off) rcs.length) hk
      have hrho1 : rhoS ρ d (s.m ++ [some (i, off)]) s.m.length = .pointer (some ⟨g, o + off, none⟩) := by
        unfold rhoS
        rw [List.getElem?_append_right (Nat.le_refl _)]
        simp only [Nat.sub_self, List.getElem?_cons_zero, he, shift]
      obtain ⟨rr, hrr⟩ := h4.m
      have hrho : rhoS ρ d s'.m s.m.length = .pointer (some ⟨g, o + off, none⟩) := by
        rw [← hrho1]
        unfold rhoS
        rw [hrr]
        simp only []
        rw [List.getElem?_append_left (by simp)]
      have hgone : s'.H[s.m.length]? = some .gone := by
        rw [h4.H s.m.length (by simp [hi.len])]
        simp only []
        rw [hi.len, List.getElem?_append_right (Nat.le_refl _)]
        simp
      have hmk : s'.m[s.m.length]? = some (some (i, off)) := by
        rw [hrr]
        simp only []
        rw [List.getElem?_append_left (by simp), List.getElem?_append_right (Nat.le_refl _)]
        simp
      obtain ⟨h6, h7⟩ := PI_set (h := .box cs') h3 hgone (by simp) (fun _ => .inl ⟨i, off, hmk, by rw [hbox]; trivial⟩) (fun i' off' hm' => by
        rw [hmk] at hm'
        injection hm' with hm'
        injection hm' with hm'
        injection hm' with e1 e2
        subst e1 e2
        exact .inr (.inl ⟨cs', cs, rfl, hbox, by have hl5 := Rs_len h5; simp at hl5; have hl3 := Rs_len g3; omega⟩)) ⟨g, o + off, C, e, _, hrho, g2, h5, fun j v hj => by
        rw [List.getElem?_take] at hj
        split at hj
        · rw [List.getElem?_drop] at hj
          have := g4 _ v hj
          rwa [← Nat.add_assoc] at this
        · cases hj⟩
      refine ⟨_, _, rs', hK, h6, ?_, ?_, g, o + off, hrho, rfl⟩
      · have hx := h2.trans h4
        refine ⟨hx.m, fun j hj => ?_, by simpa using hx.le, hx.lent⟩
        rw [← hx.H j hj]
        simp only []
        rw [List.getElem?_set_ne (by rw [hi.len]; omega)]
      · refine (h7 _).2 ?_
        rw [hpOf_eq, hgone]
        simp
  | .fn f n rcs, a, y, s, rs, k, hi, hn, ha, hk => by
    unfold pk at hk
    split at hk
    case h_2 => cases hk
    rename_i f' cs
    split at hk
    case h_2 => cases hk
    rename_i hff hnn _
    have hff := Nat.eq_of_beq_eq_true hff
    have hnn := Nat.eq_of_beq_eq_true hnn
    subst hff hnn
    obtain ⟨vs, rfl, hvs⟩ := ha
    obtain ⟨cs', s', rs', hK, h3, h4, h5⟩ := pks_sound rcs hi hn hvs hk
    exact ⟨_, s', rs', hK, h3, h4, vs, rfl, h5⟩
  | .agg rcs, a, y, s, rs, k, hi, hn, ha, hk => by
    unfold pk at hk
    split at hk
    case h_2 => cases hk
    rename_i cs hcs
    split at hk
    · obtain ⟨vs, rfl, hvs⟩ := ha
      cases hcs
      obtain ⟨cs', s', rs', hK, h3, h4, h5⟩ := pks_sound rcs hi hn hvs hk
      exact ⟨_, s', rs', hK, h3, h4, vs, rfl, h5⟩
    · rename_i arr _
      rw [show y = _ from ha]
      cases hcs
      obtain ⟨cs', s', rs', hK, h3, h4, h5⟩ := pks_sound rcs hi hn (Rs_vals arr.toList) hk
      exact ⟨_, s', rs', hK, h3, h4, arr.toList, by simp, h5⟩
    · cases hk
  | .tup rcs, a, y, s, rs, k, hi, hn, ha, hk => by
    unfold pk at hk
    split at hk
    case h_2 => cases hk
    split at hk
    case h_2 => cases hk
    obtain ⟨vs, rfl, hvs⟩ := ha
    obtain ⟨cs', s', rs', hK, h3, h4, h5⟩ := pks_sound rcs hi hn hvs hk
    exact ⟨_, s', rs', hK, h3, h4, vs, rfl, h5⟩
  | .dead, a, y, s, rs, k, hi, hn, ha, hk => ⟨.dead, s, rs, hk, hi, Ext.refl s, trivial⟩
  | .elt t, a, y, s, rs, k, hi, hn, ha, hk => by
    unfold pk at hk
    split at hk
    · exact ⟨_, s, rs, hk, hi, Ext.refl s, plain_step (fun _ _ h => h.1) rfl ha⟩
    · rename_i i off
      obtain ⟨hne, g, o, he, rfl⟩ := ha
      split at hk
      case h_1 => cases hk
      rename_i hf
      simp only [Eff.go] at hk
      have hok := H.ok i
      split at hk
      case h_2 => cases hk
      rename_i cs hbox
      split at hk
      case h_2 => cases hk
      rename_i hle
      have hle := Nat.le_of_ble_eq_true hle
      rw [hbox] at hok
      obtain ⟨g', o', C, e, vs, g1, g2, g3, g4⟩ := hok
      rw [he] at g1
      injection g1 with g1
      injection g1 with g1
      injection g1 with e1 e2
      subst e1 e2
      obtain ⟨cs', s', rs', hK, h3, h4, h5, h6⟩ := lendC_sound H _ hi (Rs_take (Rs_drop g3 off) t.sz) hk
      split at hK
      case h_2 => cases hK
      rename_i x hx
      obtain ⟨h7, h8⟩ := PI_lend h3 (i := i) (by rw [hbox]; trivial) (by rw [h5]; exact findM_none hf)
      refine ⟨_, _, _, hK, h7, h4.trans h8, g, o + off, (vs.drop off).take t.sz, rfl, ?_, ?_, fun j u hj => ?_⟩
      · rintro ⟨_, h9⟩
        exact h9 ⟨i, List.mem_cons_self, by rw [he]; rfl⟩
      · exact KR_step (D := fun _ => False) (Off.refl _ _) (fun _ _ h => h.elim) (Ms_mono h8.lent) t (dec_sound t hx h6)
      · rw [List.getElem?_take] at hj
        split at hj
        case isFalse => cases hj
        rw [List.getElem?_drop] at hj
        rw [cell_of_row w g _ C e (0, 0) g2, show o + off + j = o + (off + j) by omega]
        exact g4 _ _ hj
    · cases hk
theorem pks_sound : (rcs : List RC) → {as : List AV} → {ys : List Value} → {s : PS} → {rs : List Nat} → {k : List AV → PS → Eff α} → PI MX w ρ d hp s → n0 ≤ s.m.length → Rs (Mut MX hp ρ) w ρ hp as ys → (pks rcs as s k).go b hp rs ws K = some r →
    ∃ as' s' rs', (k as' s').go b hp rs' ws K = some r ∧ PI MX w ρ d hp s' ∧ Ext s s' ∧ RPs MX w ρ d hp s' as' ys
  | [], [], ys, s, rs, k, hi, hn, ha, hk => ⟨[], s, rs, hk, hi, Ext.refl s, ha⟩
  | [], _ :: _, ys, s, rs, k, hi, hn, ha, hk => by cases hk
  | _ :: _, [], ys, s, rs, k, hi, hn, ha, hk => by cases hk
  | c :: rcs, a :: as, ys, s, rs, k, hi, hn, ha, hk => by
    obtain ⟨v, q, rfl, h0, h1⟩ := ha
    unfold pks at hk
    obtain ⟨a', s1, rs1, hK1, g1, g2, g3⟩ := pk_sound c hi hn h0 hk
    have hn1 : n0 ≤ s1.m.length := by obtain ⟨rr, e⟩ := g2.m; rw [e]; simp; omega
    obtain ⟨as', s2, rs2, hK2, f1, f2, f3⟩ := pks_sound rcs g1 hn1 h1 hK1
    exact ⟨a' :: as', s2, rs2, hK2, f1, g2.trans f2, v, q, rfl, RP_ext g1 f2 g3, f3⟩
end
end
end Go.Proofs.YtommgpkeicpokaaGreatDoor.Abs
