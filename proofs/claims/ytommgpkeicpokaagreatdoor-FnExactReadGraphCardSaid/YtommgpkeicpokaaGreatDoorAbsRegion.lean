/- Regions. -/
import Derived.Test.YtommgpkeicpokaaGreatDoorAbsOp
namespace Go.Proofs.YtommgpkeicpokaaGreatDoor.Abs
open Go Go.RowKit
set_option linter.unusedVariables false
set_option linter.unusedSectionVars false
set_option linter.unusedSimpArgs false

/-- What has become since the function was entered. -/
structure Since (w0 : World) (ρ0 : Nat → Value) (H0 : List HE) (w : World) (ρ : Nat → Value) (hp : Heap) : Prop where
  keep : ∀ i, i < H0.length → Old (ρ0 i) (ρ i)
  us : ∀ i, i < H0.length → hp i ≠ .unused
  off : Off (Lv (hpOf H0) ρ0) w0 w
  nwl : ∀ b, b < w0.heap.size → Lv hp ρ b → Lv (hpOf H0) ρ0 b
  bx : ∀ i cs, hpOf H0 i = .box cs → ∃ cs', hp i = .box cs' ∧ cs'.length = cs.length ∧ Inside w0 w (ρ0 i) cs.length

theorem Since.step {MX : Nat → Prop} {w0 : World} {ρ0 : Nat → Value} {H0 : List HE} {w w' : World} {ρ ρ' : Nat → Value} {hp hp' : Heap} (h : Since w0 ρ0 H0 w ρ hp) (s : Step MX w ρ hp w' ρ' hp') : Since w0 ρ0 H0 w' ρ' hp' := by
  refine ⟨fun i hi => (h.keep i hi).trans (s.old i (h.us i hi)).1, fun i hi => (s.old i (h.us i hi)).2, h.off.trans s.off h.nwl, fun b hb hl => h.nwl b hb (s.nwl b (Nat.lt_of_lt_of_le hb h.off.size) hl), fun i cs hi => ?_⟩
  obtain ⟨c1, h1, h2, h3⟩ := h.bx i cs hi
  obtain ⟨c2, g1, g2, g3⟩ := s.bx i c1 h1
  have hlt : i < H0.length := by
    rcases Nat.lt_or_ge i H0.length with h' | h'
    · exact h'
    · rw [hpOf_eq, List.getElem?_eq_none h'] at hi; cases hi
  refine ⟨c2, g1, g2.trans h2, ?_⟩
  rcases h.keep i hlt with e | ⟨⟨a, e⟩, _⟩
  · rw [e, h2] at g3
    exact h3.trans g3
  · exact fun g o e' => by rw [e] at e'; cases e'


/-- The abstract state and the machine's. -/
structure Sim (n : Nat) (MX : Nat → Prop) (w0 : World) (ρ0 : Nat → Value) (H0 : List HE) (st : St) (a : Act) (w : World) (ρ : Nat → Value) : Prop where
  rel : HRel MX w ρ st.hp
  tm : ∀ t, R (Mut MX st.hp ρ) w ρ st.hp (st.tm t) (a.tmps.getD t undef)
  size : n ≤ a.tmps.size
  defers : a.defers = []
  since : Since w0 ρ0 H0 w ρ st.hp

section
variable {Rt : Type} {P : Program} {E : Env} {k n : Nat} {MX : Nat → Prop} {w0 : World} {ρ0 : Nat → Value} {H0 : List HE}

theorem put_sound {M : Nat → Prop} {w : World} {ρ : Nat → Value} {hp : Heap} {dst : Option Tmp} {x : AV} {tm : Nat → AV} {K : (Nat → AV) → Option Rt} {r : Rt} {a : Act} {v : Value} (hs : n ≤ a.tmps.size) (ht : ∀ t, R M w ρ hp (tm t) (a.tmps.getD t undef)) (hx : R M w ρ hp x v)
    (hk : put n dst x tm K = some r) : ∃ tm', K tm' = some r ∧ (∀ t, R M w ρ hp (tm' t) ((a.put dst v).tmps.getD t undef)) ∧ n ≤ (a.put dst v).tmps.size := by
  unfold put at hk
  split at hk
  · exact ⟨tm, hk, ht, hs⟩
  · rename_i d
    split at hk
    case h_2 => cases hk
    rename_i hle
    have hle := Nat.le_of_ble_eq_true hle
    refine ⟨_, hk, fun t => ?_, by simp [Act.put]; exact hs⟩
    by_cases htd : t = d
    · subst htd
      rw [upd_same]
      have : (a.put (some t) v).tmps.getD t undef = v := by
        simp only [Act.put]
        rw [Array.getD_eq_getD_getElem?, Array.getElem?_setIfInBounds_self_of_lt (by omega)]
        rfl
      rw [this]
      exact hx
    · rw [upd_ne _ _ htd]
      have : (a.put (some d) v).tmps.getD t undef = a.tmps.getD t undef := by
        simp only [Act.put]
        rw [Array.getD_eq_getD_getElem?, Array.getD_eq_getD_getElem?, Array.getElem?_setIfInBounds_ne (fun e => htd e.symm)]
      rw [this]
      exact ht t

theorem upd_rel {M : Nat → Prop} {w : World} {ρ : Nat → Value} {hp : Heap} {tm : Nat → AV} {a : Act} {d : Nat} {x : AV} (ht : ∀ t, R M w ρ hp (tm t) (a.tmps.getD t undef)) (hx : R M w ρ hp x (a.tmps.getD d undef)) : ∀ t, R M w ρ hp (upd tm d x t) (a.tmps.getD t undef) := by
  intro t
  by_cases htd : t = d
  · subst htd; rw [upd_same]; exact hx
  · rw [upd_ne _ _ htd]; exact ht t

theorem yielded_bool {opsA : Array Oper} {tmps : Array Value} {j d : Nat} {o : Oper} {b : Bool} (ho : opsA[j]? = some o) (hd : o.dst = some d) (h : tmps.getD d undef = .bool b) : yielded opsA tmps j = some b := by
  have : tmps[d]? = some (.bool b) := by
    rw [Array.getD_eq_getD_getElem?] at h
    cases hq : tmps[d]? with
    | none => rw [hq] at h; cases h
    | some v => rw [hq] at h; simp at h; rw [h]
  simp [yielded, ho, hd, this]

theorem guarded_sound {M : Nat → Prop} {w : World} {ρ : Nat → Value} {hp : Heap} {ops : List Oper} {o : Oper} {tm : Nat → AV} {K : Bool → (Nat → AV) → Option Rt} {r : Rt} {a : Act} (ht : ∀ t, R M w ρ hp (tm t) (a.tmps.getD t undef))
    (hk : guarded ops o.guard tm K = some r) : ∃ b tm', K b tm' = some r ∧ Region.wanted o (yielded ops.toArray a.tmps) = b ∧ ∀ t, R M w ρ hp (tm' t) (a.tmps.getD t undef) := by
  unfold guarded at hk
  split at hk
  · rename_i hg
    exact ⟨true, tm, hk, by simp [Region.wanted, hg], ht⟩
  · rename_i j want hg
    split at hk
    case h_1 => cases hk
    rename_i oj hj
    split at hk
    case h_1 => cases hk
    rename_i d hd
    have hj' : ops.toArray[j]? = some oj := by simpa using hj
    have hd' := ht d
    have key : ∀ (t : Bool) (tm' : Nat → AV), a.tmps.getD d undef = .bool t → (∀ t, R M w ρ hp (tm' t) (a.tmps.getD t undef)) → K (t == want) tm' = some r → ∃ b tm', K b tm' = some r ∧ Region.wanted o (yielded ops.toArray a.tmps) = b ∧ ∀ t, R M w ρ hp (tm' t) (a.tmps.getD t undef) := by
      intro t tm' e h1 h2
      refine ⟨_, tm', h2, ?_, h1⟩
      simp [Region.wanted, hg, yielded_bool hj' hd e]
    simp only at hk
    split at hk
    · rename_i t htd
      rw [htd] at hd'
      split at hk
      · refine key true tm hd' ht ?_
        cases want <;> exact hk
      · refine key false tm hd' ht ?_
        cases want <;> exact hk
    · rename_i vs htd
      rw [htd] at hd'
      refine ⟨false, tm, hk, ?_, ht⟩
      have : yielded ops.toArray a.tmps j = none := by
        have h' : a.tmps.getD d undef = .tuple vs := hd'
        rw [Array.getD_eq_getD_getElem?] at h'
        simp only [yielded, hj', Option.bind_some, hd]
        cases hq : a.tmps[d]? with
        | none => rfl
        | some v =>
          rw [hq] at h'
          simp at h'
          subst h'
          rfl
      simp [Region.wanted, hg, this]
    · rename_i t htd
      rw [htd] at hd'
      split at hk
      · rename_i h; subst h
        refine key true _ hd' (upd_rel (x := .v (.bool true)) ht hd') ?_
        cases want <;> exact hk
      · rename_i h
        have : t = false := by simpa using h
        subst this
        refine key false _ hd' (upd_rel (x := .v (.bool false)) ht hd') ?_
        cases want <;> exact hk
    · rename_i t htd
      rw [htd] at hd'
      split at hk
      · rename_i h; subst h
        refine key false _ hd' (upd_rel (x := .v (.bool false)) ht hd') ?_
        cases want <;> exact hk
      · rename_i h
        have : t = false := by simpa using h
        subst this
        refine key true _ hd' (upd_rel (x := .v (.bool true)) ht hd') ?_
        cases want <;> exact hk
    · rename_i p dp htd
      rw [htd] at hd'
      split at hk
      · rename_i h
        have hd'' : a.tmps.getD d undef = .bool true := by rw [show a.tmps.getD d undef = _ from hd']; simp [xorB, h]
        refine key true _ hd'' (upd_rel (x := .v (.bool true)) ht hd'') ?_
        cases want <;> exact hk
      · rename_i h
        have hd'' : a.tmps.getD d undef = .bool false := by rw [show a.tmps.getD d undef = _ from hd']; simp [xorB, h]
        refine key false _ hd'' (upd_rel (x := .v (.bool false)) ht hd'') ?_
        cases want <;> exact hk
    · rename_i p dp htd
      rw [htd] at hd'
      split at hk
      · rename_i h
        have hd'' : a.tmps.getD d undef = .bool false := by rw [show a.tmps.getD d undef = _ from hd']; simp [xorB, h]
        refine key false _ hd'' (upd_rel (x := .v (.bool false)) ht hd'') ?_
        cases want <;> exact hk
      · rename_i h
        have hd'' : a.tmps.getD d undef = .bool true := by rw [show a.tmps.getD d undef = _ from hd']; simp [xorB, h]
        refine key true _ hd'' (upd_rel (x := .v (.bool true)) ht hd'') ?_
        cases want <;> exact hk
    · cases hk

/-- Operations in the order of the text. -/
theorem runOps_sound (hE : EnvOk P E) {ops : List Oper} {Q : Exit → Act → World → Prop} {K : St → Option Rt} {r : Rt} (hQ : ∀ st a w ρ, K st = some r → Sim n MX w0 ρ0 H0 st a w ρ → Q .normal a w) : (l : List Oper) → {st : St} → {a : Act} → {w : World} → {ρ : Nat → Value} → Sim n MX w0 ρ0 H0 st a w ρ →
    runOps P E k n ops l st K = some r → wpList P ops.toArray Q l a w
  | [], st, a, w, ρ, hs, hk => hQ _ _ _ _ hk hs
  | o :: l, st, a, w, ρ, hs, hk => by
    unfold runOps at hk
    obtain ⟨b, tm', hK, hw, ht⟩ := guarded_sound hs.tm hk
    unfold wpList
    rw [hw]
    cases b with
    | true =>
      simp only [if_true] at hK ⊢
      left
      refine effOf_sound hE hs.rel ht hK _ Q ?_
      intro x b' hp' rs' ws' v w' ρ' h1 h2 h3
      obtain ⟨tm2, hK2, ht2, hs2⟩ := put_sound hs.size (fun t => h2.R (ht t)) h3 h1
      exact runOps_sound hE hQ l ⟨h2.rel, ht2, hs2, by cases h : o.dst <;> simp [Act.put, hs.defers], hs.since.step h2⟩ hK2
    | false =>
      simp only [Bool.false_eq_true, if_false] at hK ⊢
      obtain ⟨tm2, hK2, ht2, hs2⟩ := put_sound hs.size ht (x := .v undef) (v := undef) rfl hK
      exact runOps_sound hE hQ l (st := ⟨tm2, st.hp, st.nx⟩) ⟨hs.rel, ht2, hs2, by cases h : o.dst <;> simp [Act.put, hs.defers], hs.since⟩ hK2

theorem region_sound (hE : EnvOk P E) {id : Nat} {ops : Array Oper} {Q : Exit → Act → World → Prop} {K : St → Option Rt} {r : Rt} (hQ : ∀ st a w ρ, K st = some r → Sim n MX w0 ρ0 H0 st a w ρ → Q .normal a w) {st : St} {a : Act} {w : World} {ρ : Nat → Value} (hs : Sim n MX w0 ρ0 H0 st a w ρ)
    (hk : runOps P E k n ops.toList ops.toList st K = some r) : (Code.region id ops false).wp P Q a w := by
  refine wp_region_list ?_
  have := runOps_sound hE hQ ops.toList hs hk
  simpa using this
end
end Go.Proofs.YtommgpkeicpokaaGreatDoor.Abs
