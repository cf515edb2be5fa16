/- From a contract of this machine to what a law's row wants. -/
import Derived.Test.YtommgpkeicpokaaGreatDoorAbsPrim
namespace Go.Proofs.YtommgpkeicpokaaGreatDoor.Abs
open Go Go.RowKit
set_option linter.unusedVariables false
set_option linter.unusedSectionVars false
set_option linter.unusedSimpArgs false

theorem hrel_start {w : World} (ρ : Nat → Value) (htb : Tb w fun _ => False) : HRel (fun _ => False) w ρ (hpOf []) :=
  ⟨fun i => by simp [hpOf, HEok], fun i j b h => by simp [hpOf, live] at h, fun i b h => by simp [hpOf, live] at h, fun b hb => hb.elim, htb.next (D := fun _ => False) (Off.refl _ _) (fun _ _ h => h) (fun b _ ⟨i, h, _⟩ => by simp [hpOf, live] at h)⟩

theorem not_mut (ρ : Nat → Value) (b : Nat) : ¬ Mut (fun _ => False) (hpOf []) ρ b := by
  rintro (h | ⟨i, h, _⟩)
  · exact h
  · simp [hpOf, live] at h

theorem tb_of {w : World} (h : ∀ p ∈ tabs, ∃ C T f, w.heap[p.1]? = some (.cells C T f) ∧ p.2 C) : Tb w fun _ => False := fun p hp => ⟨h p hp, fun h => h⟩

/-- A contract at arguments that come from outside. -/
theorem law_calls {P : Program} {f : FuncId} {s : Spec} (h : Sound P f s) {k : Nat} {avs : List AV} {c : Call} {x : c.X} (hc : s.pat k avs [] = some c) (hx : c.o = some x) (he : c.emb x = (.bs false true, [])) {w : World} {vals : List Value} (htb : Tb w fun _ => False)
    (hr : Rs (Mut (fun _ => False) (hpOf []) (fun _ => undef)) w (fun _ => undef) (hpOf []) avs vals) : Calls P f vals.toArray w fun e w' => e = .returned (.bool true) ∧ Below w.heap.size w w' := by
  refine (h k avs [] c x hc hx _ w _ vals ⟨hr, hrel_start _ htb⟩).mono ?_
  rintro e w' ⟨v, ρ', rfl, hl⟩
  have hv := hl.r
  rw [he] at hv
  have hv : v = .bool true := hv
  subst hv
  exact ⟨rfl, hl.off.toBelow fun b _ ⟨i, h, _⟩ => by simp [hpOf, live] at h⟩

theorem plain_addr {w : World} {a : Addr} {v : Value} (h : w.cell? a = some v) : a = ⟨a.block, a.off, none⟩ := by
  unfold World.cell? at h
  split at h
  · split at h
    · cases h
    · rename_i hs
      cases a with
      | mk b o s => cases s with
        | none => rfl
        | some s => simp at hs
  · cases h

theorem add_at (b o i : Nat) : (⟨b, o, none⟩ : Addr).add i = ⟨b, o + i, none⟩ := by
  unfold Addr.add
  split
  · rename_i h; subst h; rfl
  · rfl

/-- A row of whole numbers as it comes in. -/
theorem row_of {k : IntKind} {w : World} {M : Nat → Prop} (hM : ∀ b, ¬ M b) {a0 : Option Addr} {len0 cap0 : Nat} {z0 : List Int}
    (w0 : (a0 = none ∧ len0 = 0 ∧ cap0 = 0 ∧ z0 = []) ∨ ∃ x, a0 = some x ∧ len0 ≤ cap0 ∧ cap0 ≤ maxLen ∧ z0.length = cap0 ∧ (∀ i, i < z0.length → w.cell? (x.add i) = some (.int k (z0.getD i 0))) ∧ ∀ n ∈ z0, (Lit.int k n).wf = true) :
    ∃ l : List Int, l.length = len0 ∧ len0 ≤ cap0 ∧ len0 ≤ maxLen ∧ (∀ n ∈ l, (Lit.int k n).wf = true) ∧ RowR M w (Ty.KR M w (.int k)) 1 a0 l := by
  rcases w0 with ⟨rfl, rfl, rfl, rfl⟩ | ⟨x, rfl, h1, h2, h3, h4, h5⟩
  · exact ⟨[], rfl, Nat.le_refl _, Nat.zero_le _, by simp, fun i y hy => by
      have hy : ([] : List Int)[i]? = some y := hy
      simp at hy⟩
  · refine ⟨z0.take len0, by rw [List.length_take]; omega, h1, Nat.le_trans h1 h2, fun n hn => h5 n (List.mem_of_mem_take hn), fun i y hy => ?_⟩
    have hy : (List.take len0 z0)[i]? = some (show Int from y) := hy
    rw [List.getElem?_take] at hy
    split at hy
    case isFalse => cases hy
    obtain ⟨hlt, rfl⟩ := List.getElem?_eq_some_iff.1 hy
    have hc0 := h4 0 (by omega)
    have hx : x = ⟨x.block, x.off, none⟩ := plain_addr (a := x) (by rw [show x.add 0 = x from rfl] at hc0; exact hc0)
    refine ⟨x.block, x.off, [.int k z0[i]], by rw [← hx], hM _, rfl, rfl, fun j u hu => ?_⟩
    cases j with
    | succ j => simp at hu
    | zero =>
      simp at hu
      subst hu
      have hc := h4 i hlt
      rw [hx, add_at, List.getD_eq_getElem?_getD, hy] at hc
      rw [Nat.mul_one, Nat.add_zero]
      exact hc

theorem mkS_pat {X : Type} {args : List RC} {pat : Nat → List AV → List HE → Option (Option X)} {emb : X → AV × List HE} {k : Nat} {avs : List AV} {H : List HE} {o : Option X} (h : pat k avs H = some o) : (mkS args pat emb).pat k avs H = some ⟨X, o, emb⟩ := by
  unfold mkS
  simp only [h]

/-- A law of drawn bytes. -/
theorem law_bytes {P : Program} {f : FuncId} {args : List RC} {pat : Nat → List AV → List HE → Option (Option Bool)} {F : Nat → List Int → Option Bool} (h : Sound P f (mkS args pat fun r => (.bs false r, []))) (hp : ∀ k l, pat k [.con (.int .u8) l] [] = some (F k l))
    (pure : ∀ (l0 : List Int), l0.length ≤ maxLen → l0.length * 1 ≤ 140737488351232 → (∀ x ∈ l0, (Lit.int .u8 x).wf = true) → ∃ k, F k l0 = some true) (a0 : Option Addr) (len0 cap0 : Nat) (z0 : List Int) (w : World)
    (w0 : (a0 = none ∧ len0 = 0 ∧ cap0 = 0 ∧ z0 = []) ∨ ∃ x, a0 = some x ∧ len0 ≤ cap0 ∧ cap0 ≤ maxLen ∧ z0.length = cap0 ∧ (∀ i, i < z0.length → w.cell? (x.add i) = some (.int .u8 (z0.getD i 0))) ∧ ∀ n ∈ z0, (Lit.int .u8 n).wf = true) (y0 : len0 * 1 ≤ 140737488351232) (htb : Tb w fun _ => False) :
    Calls P f #[.slice a0 len0 cap0] w fun e w' => e = .returned (.bool true) ∧ Below w.heap.size w w' := by
  obtain ⟨l, rfl, h1, h2, h3, h4⟩ := row_of (not_mut (fun _ => undef)) w0
  obtain ⟨k, hk⟩ := pure l h2 y0 h3
  exact law_calls h (k := k) (htb := htb) (avs := [.con (.int .u8) l]) (c := ⟨Bool, F k l, fun r => (.bs false r, [])⟩) (x := true) (mkS_pat (hp k l)) hk rfl (vals := [.slice a0 l.length cap0]) ⟨_, _, rfl, ⟨a0, cap0, rfl, h1, h4⟩, rfl⟩
end Go.Proofs.YtommgpkeicpokaaGreatDoor.Abs
