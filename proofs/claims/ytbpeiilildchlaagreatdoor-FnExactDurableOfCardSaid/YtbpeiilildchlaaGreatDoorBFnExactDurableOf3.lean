/- Calls: what stands behind them. (Merged out of this claim's own texts.) -/
import Derived.Test.YtbpeiilildchlaaGreatDoorBFnExactDurableOf2
import Derived.Laws.BitsLemmas
import Derived.ChangeArms
import Derived.WideShapes
namespace Go.Proofs.YtbpeiilildchlaaGreatDoor.Abs
open Go Go.RowKit
set_option linter.unusedVariables false
set_option linter.unusedSectionVars false
set_option linter.unusedSimpArgs false

/-- What a callee finds. -/
structure Start (MX : Nat → Prop) (w : World) (ρ : Nat → Value) (avs : List AV) (H : List HE) (vals : List Value) : Prop where
  args : Rs (Mut MX (hpOf H) ρ) w ρ (hpOf H) avs vals
  rel : HRel MX w ρ (hpOf H)

/-- What a callee leaves. -/
structure Left (MX : Nat → Prop) (w : World) (ρ : Nat → Value) (H : List HE) (res : AV) (H' : List HE) (v : Value) (w' : World) (ρ' : Nat → Value) : Prop where
  rel : HRel MX w' ρ' (hpOf H')
  r : R (Mut MX (hpOf H') ρ') w' ρ' (hpOf H') res v
  keep : ∀ i, i < H.length → Old (ρ i) (ρ' i)
  off : Off (Lv (hpOf H) ρ) w w'
  nwl : ∀ b, b < w.heap.size → Lv (hpOf H') ρ' b → Lv (hpOf H) ρ b
  bx : ∀ i cs, hpOf H i = .box cs → ∃ cs', hpOf H' i = .box cs' ∧ cs'.length = cs.length ∧ Inside w w' (ρ i) cs.length

theorem Left.of {MX : Nat → Prop} {w : World} {ρ : Nat → Value} {avs : List AV} {vals : List Value} {H : List HE} {res : AV} {H' : List HE} {v : Value} {w' : World} {ρ' : Nat → Value} (hst : Start MX w ρ avs H vals)
    (ok : ∀ i, HEok (Mut MX (hpOf H') ρ') w' ρ' (hpOf H') i (hpOf H' i)) (sep : ∀ i j b, live (hpOf H' i) → live (hpOf H' j) → At (ρ' i) b → At (ρ' j) b → i = j)
    (ext : ∀ i b, live (hpOf H' i) → At (ρ' i) b → ¬ MX b) (r : R (Mut MX (hpOf H') ρ') w' ρ' (hpOf H') res v) (keep : ∀ i, i < H.length → Old (ρ i) (ρ' i)) (off : Off (Lv (hpOf H) ρ) w w')
    (nwl : ∀ b, b < w.heap.size → Lv (hpOf H') ρ' b → Lv (hpOf H) ρ b) (bx : ∀ i cs, hpOf H i = .box cs → ∃ cs', hpOf H' i = .box cs' ∧ cs'.length = cs.length ∧ Inside w w' (ρ i) cs.length) : Left MX w ρ H res H' v w' ρ' :=
  ⟨⟨ok, sep, ext, fun b hb => Nat.lt_of_lt_of_le (hst.rel.mx b hb) off.size, hst.rel.tb.next off (fun _ _ h => h) nwl⟩, r, keep, off, nwl, bx⟩

/-- A contract: if the Lean function answers, so does Go. -/
def Sound (P : Program) (f : FuncId) (s : Spec) : Prop :=
  ∀ k avs H c x, s.pat k avs H = some c → c.o = some x → ∀ MX w ρ vals, Start MX w ρ avs H vals →
    Calls P f vals.toArray w fun e w' => ∃ v ρ', e = .returned v ∧ Left MX w ρ H (c.emb x).1 (c.emb x).2 v w' ρ'

section
variable {Rt : Type} {b : Nat} {rs ws : List Nat} {K : AV → Nat → Heap → List Nat → List Nat → Option Rt} {r : Rt}

/-- Places for the entries. -/
structure Pl (m : List (Option (Nat × Nat))) (n : Nat) (hp : Heap) (ids : List (Nat × Nat)) (hp' : Heap) : Prop where
  len : ids.length = n
  src : ∀ (k : Nat) (p : Nat × Nat), ids[k]? = some p → m[k]? = some (some p) ∨ (hp p.1 = .unused ∧ hp' p.1 = .gone ∧ p.2 = 0 ∧ (m[k]? = none ∨ m[k]? = some none))
  inj : ∀ (k k' : Nat) (p p' : Nat × Nat), ids[k]? = some p → ids[k']? = some p' → p.1 = p'.1 → hp p.1 = .unused → (m[k]? = none ∨ m[k]? = some none) → (m[k']? = none ∨ m[k']? = some none) → k = k'
  ch : ∀ j, hp' j = hp j ∨ (hp j = .unused ∧ hp' j = .gone)
  old : ∀ j, hp j ≠ .unused → hp' j = hp j

theorem places_sound : {hs : List HE} → {m : List (Option (Nat × Nat))} → {k : List (Nat × Nat) → Eff AV} → {hp : Heap} → {b : Nat} → {ws : List Nat} → (places hs m k).go b hp rs ws K = some r →
    ∃ ids b' hp' ws', (k ids).go b' hp' rs ws' K = some r ∧ Pl m hs.length hp ids hp'
  | [], m, k, hp, b, ws, hk => ⟨[], b, hp, ws, hk, rfl, fun k p h => by simp at h, fun k k' p p' h => by simp at h, fun _ => .inl rfl, fun _ _ => rfl⟩
  | h :: hs, some p :: m, k, hp, b, ws, hk => by
    unfold places at hk
    obtain ⟨ids, b', hp', ws', hK, g⟩ := places_sound hk
    refine ⟨p :: ids, b', hp', ws', hK, by simp [g.len], fun k q hq => ?_, fun k k' q q' hq hq' => ?_, g.ch, g.old⟩
    · cases k with
      | zero => left; simpa using hq
      | succ k => simpa using g.src k q (by simpa using hq)
    · cases k with
      | zero => intro _ _ hm; simp at hm
      | succ k =>
        cases k' with
        | zero => intro _ _ _ hm; simp at hm
        | succ k' =>
          intro h1 h2 h3 h4
          have := g.inj k k' q q' (by simpa using hq) (by simpa using hq') h1 h2 (by simpa using h3) (by simpa using h4)
          omega
  | h :: hs, none :: m, k, hp, b, ws, hk => by
    unfold places at hk
    simp only [Eff.go] at hk
    split at hk
    case h_2 => cases hk
    rename_i hu
    obtain ⟨ids, b', hp', ws', hK, g⟩ := places_sound hk
    have hb : hp' b = .gone := by rw [g.old b (by rw [upd_same]; simp), upd_same]
    refine ⟨(b, 0) :: ids, b', hp', ws', hK, by simp [g.len], fun k q hq => ?_, fun k k' q q' hq hq' => ?_, fun j => ?_, fun j hj => ?_⟩
    · cases k with
      | zero =>
        right
        simp at hq
        subst hq
        exact ⟨hu, hb, rfl, .inr rfl⟩
      | succ k =>
        rcases g.src k q (by simpa using hq) with h1 | ⟨h1, h2, h3, h4⟩
        · left; simpa using h1
        · right
          have hne : q.1 ≠ b := fun e => by rw [e, upd_same] at h1; cases h1
          rw [upd_ne _ _ hne] at h1
          exact ⟨h1, h2, h3, by simpa using h4⟩
    · cases k with
      | zero =>
        cases k' with
        | zero => intro _ _ _ _; rfl
        | succ k' =>
          intro h1 h2 h3 h4
          simp at hq
          subst hq
          rcases g.src k' q' (by simpa using hq') with g1 | ⟨g1, _⟩
          · rcases h4 with h4 | h4
            · simp at h4; rw [List.getElem?_eq_none h4] at g1; cases g1
            · simp at h4; rw [h4] at g1; cases g1
          · rw [← h1, upd_same] at g1; cases g1
      | succ k =>
        cases k' with
        | zero =>
          intro h1 h2 h3 h4
          simp at hq'
          subst hq'
          rcases g.src k q (by simpa using hq) with g1 | ⟨g1, _⟩
          · rcases h3 with h3 | h3
            · simp at h3; rw [List.getElem?_eq_none h3] at g1; cases g1
            · simp at h3; rw [h3] at g1; cases g1
          · rw [h1, upd_same] at g1; cases g1
        | succ k' =>
          intro h1 h2 h3 h4
          by_cases hqb : q.1 = b
          · rcases g.src k q (by simpa using hq) with g1 | ⟨g1, _⟩
            · rcases h3 with h3 | h3
              · simp at h3; rw [List.getElem?_eq_none h3] at g1; cases g1
              · simp at h3; rw [h3] at g1; cases g1
            · rw [hqb, upd_same] at g1; cases g1
          · have := g.inj k k' q q' (by simpa using hq) (by simpa using hq') h1 (by rw [upd_ne _ _ hqb]; exact h2) (by simpa using h3) (by simpa using h4)
            omega
    · by_cases hj : j = b
      · subst hj; exact .inr ⟨hu, hb⟩
      · rcases g.ch j with h1 | ⟨h1, h2⟩
        · rw [upd_ne _ _ hj] at h1; exact .inl h1
        · rw [upd_ne _ _ hj] at h1; exact .inr ⟨h1, h2⟩
    · have hjb : j ≠ b := fun e => hj (e ▸ hu)
      rw [g.old j (by rw [upd_ne _ _ hjb]; exact hj), upd_ne _ _ hjb]
  | h :: hs, [], k, hp, b, ws, hk => by
    unfold places at hk
    simp only [Eff.go] at hk
    split at hk
    case h_2 => cases hk
    rename_i hu
    obtain ⟨ids, b', hp', ws', hK, g⟩ := places_sound hk
    have hb : hp' b = .gone := by rw [g.old b (by rw [upd_same]; simp), upd_same]
    refine ⟨(b, 0) :: ids, b', hp', ws', hK, by simp [g.len], fun k q hq => ?_, fun k k' q q' hq hq' => ?_, fun j => ?_, fun j hj => ?_⟩
    · cases k with
      | zero =>
        right
        simp at hq
        subst hq
        exact ⟨hu, hb, rfl, .inl rfl⟩
      | succ k =>
        rcases g.src k q (by simpa using hq) with h1 | ⟨h1, h2, h3, h4⟩
        · simp at h1
        · right
          have hne : q.1 ≠ b := fun e => by rw [e, upd_same] at h1; cases h1
          rw [upd_ne _ _ hne] at h1
          exact ⟨h1, h2, h3, .inl rfl⟩
    · cases k with
      | zero =>
        cases k' with
        | zero => intro _ _ _ _; rfl
        | succ k' =>
          intro h1 h2 h3 h4
          simp at hq
          subst hq
          rcases g.src k' q' (by simpa using hq') with g1 | ⟨g1, _⟩
          · simp at g1
          · rw [← h1, upd_same] at g1; cases g1
      | succ k =>
        cases k' with
        | zero =>
          intro h1 h2 h3 h4
          simp at hq'
          subst hq'
          rcases g.src k q (by simpa using hq) with g1 | ⟨g1, _⟩
          · simp at g1
          · rw [h1, upd_same] at g1; cases g1
        | succ k' =>
          intro h1 h2 h3 h4
          by_cases hqb : q.1 = b
          · rcases g.src k q (by simpa using hq) with g1 | ⟨g1, _⟩
            · simp at g1
            · rw [hqb, upd_same] at g1; cases g1
          · have := g.inj k k' q q' (by simpa using hq) (by simpa using hq') h1 (by rw [upd_ne _ _ hqb]; exact h2) (.inl rfl) (.inl rfl)
            omega
    · by_cases hj : j = b
      · subst hj; exact .inr ⟨hu, hb⟩
      · rcases g.ch j with h1 | ⟨h1, h2⟩
        · rw [upd_ne _ _ hj] at h1; exact .inl h1
        · rw [upd_ne _ _ hj] at h1; exact .inr ⟨h1, h2⟩
    · have hjb : j ≠ b := fun e => hj (e ▸ hu)
      rw [g.old j (by rw [upd_ne _ _ hjb]; exact hj), upd_ne _ _ hjb]

/-- What is written back for one entry. -/
def Back (ids : List (Nat × Nat)) (hp : Heap) (p : Nat × Nat) (h h' : HE) : Prop :=
  match h with
  | .box cs => (∃ old, hp p.1 = .box old ∧ p.2 + cs.length ≤ old.length ∧ h' = .box (splice old p.2 (rns ids cs))) ∨ (hp p.1 = .gone ∧ p.2 = 0 ∧ h' = .box (rns ids cs))
  | .row e t l => h' = .row e t l
  | .frz t l => h' = .frz t l
  | .mp t f => h' = .mp t f
  | .bts l => h' = .bts l
  | .bld T c => p.2 = 0 ∧ h' = .bld T (rn ids c)
  | .gone => h' = .gone
  | .tre o fr e be t l cur => (cur = none ∧ h' = .tre o fr e be t l none) ∨ ∃ j q p', cur = some (j, q) ∧ ids[q]? = some p' ∧ h' = .tre o fr e be t l (some (j, p'.1))
  | .unused => False

theorem back1_sound {ids : List (Nat × Nat)} {p : Nat × Nat} {h : HE} {k : Eff AV} {hp : Heap} {rs ws : List Nat} (hk : (back1 ids p h k).go b hp rs ws K = some r) :
    ∃ h' rs' ws', k.go b (upd hp p.1 h') rs' ws' K = some r ∧ Back ids hp p h h' := by
  unfold back1 at hk
  split at hk
  · rename_i cs
    simp only [Eff.go] at hk
    split at hk
    · rename_i old ho
      split at hk
      case h_2 => cases hk
      rename_i hle
      exact ⟨_, _, _, hk, .inl ⟨old, ho, Nat.le_of_ble_eq_true hle, rfl⟩⟩
    · rename_i ho
      split at hk
      case h_2 => cases hk
      rename_i h0
      exact ⟨_, _, _, hk, .inr ⟨ho, Nat.eq_of_beq_eq_true h0, rfl⟩⟩
    · cases hk
  · exact ⟨_, _, _, hk, rfl⟩
  · exact ⟨_, _, _, hk, rfl⟩
  · exact ⟨_, _, _, hk, rfl⟩
  · exact ⟨_, _, _, hk, rfl⟩
  · split at hk
    case h_2 => cases hk
    rename_i h0
    exact ⟨_, _, _, hk, Nat.eq_of_beq_eq_true h0, rfl⟩
  · exact ⟨_, _, _, hk, rfl⟩
  · split at hk
    · exact ⟨_, _, _, hk, .inl ⟨rfl, rfl⟩⟩
    · rename_i j q
      split at hk
      case h_2 => cases hk
      rename_i i x hq
      exact ⟨_, _, _, hk, .inr ⟨j, q, (i, x), rfl, hq, rfl⟩⟩
  · cases hk

theorem backAll_sound {ids : List (Nat × Nat)} : {hs : List HE} → {ps : List (Nat × Nat)} → {k : Eff AV} → {hp : Heap} → {rs ws : List Nat} → hs.length = ps.length → (∀ (i j : Nat) (p q : Nat × Nat), ps[i]? = some p → ps[j]? = some q → p.1 = q.1 → i = j) →
    (backAll ids hs ps k).go b hp rs ws K = some r → ∃ hp' rs' ws', k.go b hp' rs' ws' K = some r ∧ (∀ j, (∀ (i : Nat) (p : Nat × Nat), ps[i]? = some p → p.1 ≠ j) → hp' j = hp j) ∧
      ∀ (i : Nat) (h : HE) (p : Nat × Nat), hs[i]? = some h → ps[i]? = some p → Back ids hp p h (hp' p.1)
  | [], [], k, hp, rs, ws, _, _, hk => ⟨hp, rs, ws, hk, fun _ _ => rfl, fun i h p hi => by simp at hi⟩
  | h :: hs, p :: ps, k, hp, rs, ws, hl, hd, hk => by
    unfold backAll at hk
    obtain ⟨h', rs1, ws1, hK, hb⟩ := back1_sound hk
    have hne : ∀ (i : Nat) (q : Nat × Nat), ps[i]? = some q → q.1 ≠ p.1 := fun i q hq e => by
      have := hd (i + 1) 0 q p (by simpa using hq) rfl e
      omega
    obtain ⟨hp', rs', ws', hK', h1, h2⟩ := backAll_sound (by simpa using hl) (fun i j q q' hq hq' e => by have := hd (i + 1) (j + 1) q q' (by simpa using hq) (by simpa using hq') e; omega) hK
    have hkeep : hp' p.1 = h' := by rw [h1 p.1 hne, upd_same]
    refine ⟨hp', rs', ws', hK', fun j hj => ?_, fun i g q hg hq => ?_⟩
    · rw [h1 j (fun i q hq => hj (i + 1) q (by simpa using hq)), upd_ne _ _ (fun e => hj 0 p rfl e.symm)]
    · cases i with
      | zero =>
        simp at hg hq
        subst hg hq
        rw [hkeep]; exact hb
      | succ i =>
        have hq' : ps[i]? = some q := by simpa using hq
        have := h2 i g q (by simpa using hg) hq'
        unfold Back at this ⊢
        rw [upd_ne _ _ (hne i q hq')] at this
        exact this
  | [], _ :: _, _, _, _, _, hl, _, _ => by simp at hl
  | _ :: _, [], _, _, _, _, hl, _, _ => by simp at hl

theorem freezeL_sound : {L : List Nat} → {k : Eff AV} → {hp : Heap} → {rs ws : List Nat} → (freezeL L k).go b hp rs ws K = some r →
    ∃ hp' rs' ws', k.go b hp' rs' ws' K = some r ∧ (∀ j, hp' j = hp j ∨ (j ∈ L ∧ ∃ e t l, hp j = .row e t l ∧ hp' j = .frz t l)) ∧ ∀ j, j ∈ L → ¬ live (hp' j)
  | [], k, hp, rs, ws, hk => ⟨hp, rs, ws, hk, fun _ => .inl rfl, fun j hj => by cases hj⟩
  | i :: L, k, hp, rs, ws, hk => by
    simp only [freezeL, Eff.go] at hk
    split at hk
    · rename_i e t l hi
      simp only [Eff.go] at hk
      obtain ⟨hp', rs', ws', hK, h1, h2⟩ := freezeL_sound hk
      have hi' : hp' i = .frz t l := by
        rcases h1 i with h | ⟨_, e', t', l', h, _⟩
        · rw [h, upd_same]
        · rw [upd_same] at h; cases h
      refine ⟨hp', rs', ws', hK, fun j => ?_, fun j hj hr => ?_⟩
      · by_cases hj : j = i
        · subst hj; exact .inr ⟨List.mem_cons_self, e, t, l, hi, hi'⟩
        · rcases h1 j with h | ⟨h0, e', t', l', h, h'⟩
          · rw [upd_ne _ _ hj] at h; exact .inl h
          · rw [upd_ne _ _ hj] at h; exact .inr ⟨List.mem_cons_of_mem _ h0, e', t', l', h, h'⟩
      · rcases List.mem_cons.1 hj with h | h
        · subst h; rw [hi'] at hr; exact hr
        · exact h2 j h hr
    · cases hk
    · cases hk
    · cases hk
    · cases hk
    · cases hk
    · rename_i hno1 hno2 hno3 hno4 hno5 hno6
      obtain ⟨hp', rs', ws', hK, h1, h2⟩ := freezeL_sound hk
      refine ⟨hp', rs', ws', hK, fun j => (h1 j).imp id (fun ⟨h0, h⟩ => ⟨List.mem_cons_of_mem _ h0, h⟩), fun j hj hr => ?_⟩
      rcases List.mem_cons.1 hj with h | h
      · subst h
        rcases h1 j with g | ⟨_, e, t, l, g, _⟩
        · rw [g] at hr
          cases hh : hp j with
          | row e t l => exact hno1 _ _ _ hh
          | box cs => exact hno2 _ hh
          | mp t f => exact hno3 _ _ hh
          | bts l => exact hno4 _ hh
          | bld T c => exact hno5 _ _ hh
          | tre o fr e be t l cur => exact hno6 _ _ _ _ _ _ _ hh
          | _ => rw [hh] at hr; exact hr
        · exact hno1 _ _ _ g
      · exact h2 j h hr
end

/-! ### Values that hold nothing that is only read -/
theorem KR_free {M M' : Nat → Prop} {w : World} : (t : Ty) → t.hasSl = false → {x : t.den} → {cs : List Value} → t.KR M w x cs → t.KR M' w x cs
  | .int _, _, _, _, h => h
  | .bool, _, _, _, h => h
  | .str, _, _, _, h => h
  | .sl _, hs, _, _, _ => by cases hs
  | .pair a b, hs, _, _, h => by
    simp only [Ty.hasSl, Bool.or_eq_false_iff] at hs
    obtain ⟨c0, c1, e, h0, h1⟩ := h
    exact ⟨c0, c1, e, KR_free a hs.1 h0, KR_free b hs.2 h1⟩

section
variable {M MN : Nat → Prop} {w : World} {ρ ρN : Nat → Value} {hp hpN : Heap} {ids : List (Nat × Nat)}

/-- How the callee's numbers stand to the caller's. -/
structure Ren (ρ ρN : Nat → Value) (hp hpN : Heap) (ids : List (Nat × Nat)) : Prop where
  lt : ∀ k, hp k ≠ .unused → ∃ p, ids[k]? = some p
  at_ : ∀ (k : Nat) (p : Nat × Nat), ids[k]? = some p → hp k ≠ .unused → hpN p.1 ≠ .unused ∧ ((ρ k = shift (ρN p.1) p.2 ∧ (∀ a, ρN p.1 = .pointer (some a) → a.spot = none)) ∨ (p.2 = 0 ∧ ρ k = ρN p.1))

theorem shift_map {v : Value} {off : Nat} {b : Nat} (h : shift v off = .map (some b)) : v = .map (some b) := by
  cases v with
  | pointer a => cases a <;> simp [shift] at h
  | _ => exact h

theorem hd_shift_slice {v : Value} {off : Nat} {A : Option Addr} {n c : Nat} (h : hd (shift v off) = .slice A n c) : hd v = .slice A n c := by
  cases v with
  | pointer a => cases a <;> simp [shift, hd] at h
  | _ => exact h

theorem shift_slice {v : Value} {off : Nat} {A : Option Addr} {n c : Nat} (h : shift v off = .slice A n c) : v = .slice A n c := by
  cases v with
  | pointer a => cases a <;> simp [shift] at h
  | _ => exact h

theorem shift_tup {v : Value} {off : Nat} {a : Array Value} (h : shift v off = .tuple a) : v = .tuple a := by
  cases v with
  | pointer a => cases a <;> simp [shift] at h
  | _ => exact h

theorem KT_free {M M' : Nat → Prop} {w : World} : (t : Ty) → t.deep = false → {x : t.den} → {s : Value} → {cs : List Value} → KT M w t x s cs → KT M' w t x s cs
  | .sl _, _, _, _, _, h => h
  | .pair a b, hs, _, _, _, ⟨c0, c1, e, h0, h1⟩ => by
    simp only [Ty.deep, Bool.or_eq_false_iff] at hs
    exact ⟨c0, c1, e, KR_free a hs.1 h0, KT_free b hs.2 h1⟩
  | .int _, _, _, _, _, h => h.elim
  | .bool, _, _, _, _, h => h.elim
  | .str, _, _, _, _, h => h.elim

theorem deep_inn : (t : Ty) → t.nest = true → t.deep = false → t.inn.hasSl = false
  | .sl _, _, h => h
  | .pair a b, hn, h => by
    simp only [Ty.deep, Bool.or_eq_false_iff] at h
    exact deep_inn b hn h.2

theorem TreOk.free {M M' : Nat → Prop} {w : World} {ρ ρ' : Nat → Value} {hp hp' : Heap} {i k o : Nat} {fr : Option Nat} {e be : TypeId} {t : Ty} {l : List t.den} {v : Value} {ss us xs : List Value} (h : TreOk M w ρ hp i o fr e be t l none v ss us xs) (hM : (∀ b, b < w.heap.size → M' b → M b) ∨ t.deep = false) (hk : ρ' k = ρ i) : TreOk M' w ρ' hp' k o fr e be t l none v ss us xs := by
  rcases hM with hM | hM
  · exact h.none_ hM hk
  · refine ⟨h.nest, h.osz, h.pl.imp (hk.trans ·) (fun ⟨a, b, c, d⟩ => ⟨a, b, c, hk.trans d⟩), h.len, h.ulen, h.own, Els.imp (fun _ _ hk => KT_free t hM hk) h.els, fun j x s hf hx hs hc => ?_, h.dead, h.vw, h.dis, h.sl, fun _ _ hc => by cases hc⟩
    obtain ⟨ys, h1, h2⟩ := h.inn j x s hf hx hs hc
    exact ⟨ys, h1, Els.imp (fun _ _ hk => KR_free t.inn (deep_inn t h.nest hM) hk) h2⟩

theorem TreOk.freeCur {M M' : Nat → Prop} {w : World} {ρ ρ' : Nat → Value} {hp hp' : Heap} {i k o : Nat} {fr : Option Nat} {e be : TypeId} {t : Ty} {l : List t.den} {j q q' : Nat} {v : Value} {ss us xs : List Value} (h : TreOk M w ρ hp i o fr e be t l (some (j, q)) v ss us xs) (hM : (∀ b, b < w.heap.size → M' b → M b) ∨ t.deep = false) (hk : ρ' k = ρ i) (hq : ρ' q' = ρ q) (hu : hp' q' ≠ .unused) : TreOk M' w ρ' hp' k o fr e be t l (some (j, q')) v ss us xs := by
  rcases hM with hM | hM
  · exact h.recur hM hk hq hu
  · refine ⟨h.nest, h.osz, .inl (hk.trans (h.pl.resolve_right fun ⟨_, b, _⟩ => by cases b)), h.len, h.ulen, h.own, Els.imp (fun _ _ hk => KT_free t hM hk) h.els, fun j' x s hf hx hs hc => ?_, h.dead, h.vw, h.dis, h.sl, fun j' r hc => ?_⟩
    · obtain ⟨ys, h1, h2⟩ := h.inn j' x s hf hx hs (fun r e' => by injection e' with e'; injection e' with e1 _; exact hc q' (by rw [e1]))
      exact ⟨ys, h1, Els.imp (fun _ _ hk => KR_free t.inn (deep_inn t h.nest hM) hk) h2⟩
    · injection hc with hc
      injection hc with e1 e2
      subst e1 e2
      obtain ⟨h0, h1, h2, h3⟩ := h.cur_ j q rfl
      exact ⟨h0, h1, by rw [hq]; exact h2, hu⟩

mutual
theorem rn_R (hr : Ren ρ ρN hp hpN ids) : (a : AV) → (hM : (∀ b, b < w.heap.size → MN b → M b) ∨ hasCon a = false) → {y : Value} → R M w ρ hp a y → R MN w ρN hpN (rn ids a) y
  | .v _, _, _, h => h
  | .bs _ _, _, _, h => h
  | .bp _ _ _, _, _, h => h
  | .ifc _, _, _, h => h
  | .con t l, hM, _, h => by
    rcases hM with hM | hM
    · exact R_step (ρ := ρN) (hp := hpN) (D := fun _ => False) (Off.refl _ _) (fun _ _ h => h.elim) hM (fun i hi => ⟨Old.refl _, hi⟩) (.con t l) h
    · cases hM
  | .elt t x o, hM, _, h => by
    rcases hM with hM | hM
    · exact R_step (ρ := ρN) (hp := hpN) (D := fun _ => False) (Off.refl _ _) (fun _ _ h => h.elim) hM (fun i hi => ⟨Old.refl _, hi⟩) (.elt t x o) h
    · cases hM
  | .own k, _, _, ⟨hu, e, A, n, c, hs⟩ => by
    obtain ⟨p, hp'⟩ := hr.lt k hu
    obtain ⟨h1, h2⟩ := hr.at_ k p hp' hu
    unfold rn
    rw [hp']
    refine ⟨h1, ?_, A, n, c, hs⟩
    rcases h2 with ⟨h2, _⟩ | ⟨_, h2⟩
    · rw [e, h2] at hs
      rw [e, h2, hs, hd_shift_slice hs]
    · rw [e, h2]
  | .box k o, _, _, ⟨hu, g, o', e, e'⟩ => by
    obtain ⟨p, hp'⟩ := hr.lt k hu
    obtain ⟨h1, h2⟩ := hr.at_ k p hp' hu
    unfold rn
    rw [hp']
    rcases h2 with ⟨h2, h3⟩ | ⟨h0, h2⟩
    case inr => exact ⟨h1, g, o', by rw [← h2]; exact e, by rw [e', h0, Nat.zero_add]⟩
    rw [e] at h2
    cases hv : ρN p.1 with
    | pointer a =>
      cases a with
      | none => rw [hv] at h2; simp [shift] at h2
      | some a =>
        have hsp := h3 a hv
        rw [hv] at h2
        simp only [shift] at h2
        injection h2 with h2
        injection h2 with h2
        injection h2 with e1 e2
        obtain ⟨ab, ao, asp⟩ := a
        simp only at e1 e2 hsp
        subst e1 e2 hsp
        exact ⟨h1, g, ao, hv, by rw [e', Nat.add_assoc]⟩
    | _ => rw [hv] at h2; simp [shift] at h2
  | .oel k sz j o, _, _, ⟨hu, g, n, c, e, hj, e'⟩ => by
    obtain ⟨p, hp'⟩ := hr.lt k hu
    obtain ⟨h1, h2⟩ := hr.at_ k p hp' hu
    unfold rn
    rw [hp']
    rcases h2 with ⟨h2, _⟩ | ⟨_, h2⟩
    · exact ⟨h1, g, n, c, hd_shift_slice (by rw [← h2]; exact e), hj, e'⟩
    · exact ⟨h1, g, n, c, by rw [← h2]; exact e, hj, e'⟩
  | .mp k, _, _, ⟨hu, e, b0, hs⟩ => by
    obtain ⟨p, hp'⟩ := hr.lt k hu
    obtain ⟨h1, h2⟩ := hr.at_ k p hp' hu
    unfold rn
    rw [hp']
    refine ⟨h1, ?_, b0, hs⟩
    rcases h2 with ⟨h2, _⟩ | ⟨_, h2⟩
    · rw [e, h2] at hs
      rw [e, h2, hs, shift_map hs]
    · rw [e, h2]
  | .sub k lo, _, _, ⟨hu, g, n, c, c', A, e, r⟩ => by
    obtain ⟨p, hp'⟩ := hr.lt k hu
    obtain ⟨h1, h2⟩ := hr.at_ k p hp' hu
    unfold rn
    rw [hp']
    refine ⟨h1, g, n, c, c', A, ?_, r⟩
    rcases h2 with ⟨h2, _⟩ | ⟨_, h2⟩
    · exact shift_slice (h2.symm.trans e)
    · exact h2.symm.trans e
  | .fn f n cs, hM, _, ⟨vs, e, h⟩ => ⟨vs, e, rns_R hr cs hM h⟩
  | .agg cs, hM, _, ⟨vs, e, h⟩ => ⟨vs, e, rns_R hr cs hM h⟩
  | .tup cs, hM, _, ⟨vs, e, h⟩ => ⟨vs, e, rns_R hr cs hM h⟩
  | .dead, _, _, _ => trivial
theorem rns_R (hr : Ren ρ ρN hp hpN ids) : (as : List AV) → (hM : (∀ b, b < w.heap.size → MN b → M b) ∨ hasCons as = false) → {ys : List Value} → Rs M w ρ hp as ys → Rs MN w ρN hpN (rns ids as) ys
  | [], _, _, h => h
  | a :: as, hM, _, ⟨v, q, e, h0, h1⟩ => by
    have hM1 : (∀ b, b < w.heap.size → MN b → M b) ∨ hasCon a = false := hM.imp id fun h => by simp only [hasCons, Bool.or_eq_false_iff] at h; exact h.1
    have hM2 : (∀ b, b < w.heap.size → MN b → M b) ∨ hasCons as = false := hM.imp id fun h => by simp only [hasCons, Bool.or_eq_false_iff] at h; exact h.2
    exact ⟨v, _, e, rn_R hr a hM1 h0, rns_R hr as hM2 h1⟩
end
theorem rns_len : (as : List AV) → (rns ids as).length = as.length
  | [] => rfl
  | _ :: as => by simp [rns, rns_len as]
end

theorem full_ne : {l : List HE} → full l = true → ∀ k : Nat, l[k]? ≠ some .gone
  | [], _, k => by simp
  | h :: l, hf, k => by
    cases k with
    | zero => intro e; simp at e; subst e; cases hf
    | succ k =>
      have : full l = true := by cases h <;> first | exact hf | cases hf
      simpa using full_ne this k

theorem hpOf_some {H : List HE} {k : Nat} {h : HE} (hk : H[k]? = some h) : hpOf H k = h := by rw [hpOf_eq, hk]; rfl
theorem hpOf_get {H : List HE} {k : Nat} (hk : hpOf H k ≠ .unused) : H[k]? = some (hpOf H k) := by
  rw [hpOf_eq] at hk ⊢
  cases h : H[k]? with
  | none => rw [h] at hk; exact absurd rfl hk
  | some x => rfl

/-- The forbidden blocks of a callee. -/
def MXc (MX : Nat → Prop) (ρ d : Nat → Value) (hp : Heap) (ps : PS) (b : Nat) : Prop := Ms MX ρ hp ps.lent b ∧ ¬ Lv (hpOf ps.H) (rhoS ρ d ps.m) b

/-- A callee finds what has been packed. -/
theorem start_of {MX : Nat → Prop} {w : World} {ρ d : Nat → Value} {hp : Heap} (H : HRel MX w ρ hp) {ps : PS} (hi : PI MX w ρ d hp ps) {avs : List AV} {vals : List Value} (ha : RPs MX w ρ d hp ps avs vals) :
    Start (MXc MX ρ d hp ps) w (rhoS ρ d ps.m) avs ps.H vals := by
  have hM : ∀ b, b < w.heap.size → Mut (MXc MX ρ d hp ps) (hpOf ps.H) (rhoS ρ d ps.m) b → Ms MX ρ hp ps.lent b := by
    rintro b hb (hm | ⟨k, hl, hbk⟩)
    · exact hm.1
    · have hne : hpOf ps.H k ≠ .unused := fun e => by rw [e] at hl; exact hl
      rcases hi.src k _ (hpOf_get hne) hl with ⟨i, off, h1, h2⟩ | h1
      · have hb' : At (ρ i) b := at_src h1 hbk
        refine ⟨.inr ⟨i, h2, hb'⟩, fun ⟨j, hj, hbj⟩ => ?_⟩
        have := H.sep i j b h2 (hi.rows j hj) hb' hbj
        subst this
        exact hi.apart k i off h1 hj
      · exact (h1 _ hbk).elim
  refine ⟨Rs_step (D := fun _ => False) (Off.refl _ _) (fun _ _ h => h.elim) hM (fun i hi => ⟨Old.refl _, hi⟩) avs ha, ⟨fun k => ?_, fun k k' b hl hl' hb hb' => ?_, fun k b hl hb hm => hm.2 ⟨k, hl, hb⟩, fun b hm => ?_, H.tb.next (D := fun _ => False) (Off.refl _ _) (fun _ _ h => h.elim) (fun b hb ⟨k, hl, hbk⟩ => ?_)⟩⟩
  · by_cases hne : hpOf ps.H k = .unused
    · rw [hne]; trivial
    · exact HEok_step (D := fun _ => False) (Off.refl _ _) (fun _ _ h => h.elim) hM (fun i hi => ⟨Old.refl _, hi⟩) rfl (fun _ _ _ h => h) (hi.ok k _ (hpOf_get hne)).2
  · have hne : hpOf ps.H k ≠ .unused := fun e => by rw [e] at hl; exact hl
    have hne' : hpOf ps.H k' ≠ .unused := fun e => by rw [e] at hl'; exact hl'
    rcases hi.src k _ (hpOf_get hne) hl with ⟨i, off, h1, h2⟩ | h1
    case inr => exact (h1 _ hb).elim
    rcases hi.src k' _ (hpOf_get hne') hl' with ⟨i', off', h1', h2'⟩ | h1'
    case inr => exact (h1' _ hb').elim
    have e1 : At (ρ i) b := at_src h1 hb
    have e2 : At (ρ i') b := at_src h1' hb'
    have := H.sep i i' b h2 h2' e1 e2
    subst this
    exact hi.inj k k' i off off' h1 h1'
  · rcases hm.1.1 with h | ⟨i, h1, h2⟩
    · exact H.mx b h
    · exact H.lt h1 h2
  · have hne : hpOf ps.H k ≠ .unused := fun e => by rw [e] at hl; exact hl
    rcases hi.src k _ (hpOf_get hne) hl with ⟨i, off, h1, h2⟩ | h1
    · exact ⟨i, h2, at_src h1 hbk⟩
    · exact (h1 _ hbk).elim

def nilD : Nat → Value := fun _ => .slice none 0 0

theorem conH : {l : List HE} → {k : Nat} → {h : HE} → l[k]? = some h → (match h with | .box cs => hasCons cs | .row _ t _ => t.hasSl | .frz _ _ => true | .mp t _ => t.hasSl | .bld _ c => hasCon c | .tre _ _ _ _ t _ _ => t.deep | _ => false) = true → hasConH l = true
  | [], k, h, hk, _ => by simp at hk
  | a :: l, 0, h, hk, hc => by
    simp at hk
    subst hk
    cases a with
    | box cs => simp only [hasConH, Bool.or_eq_true]; exact .inl hc
    | row e t x => simp only [hasConH, Bool.or_eq_true]; exact .inl hc
    | frz t x => rfl
    | mp t f => simp only [hasConH, Bool.or_eq_true]; exact .inl hc
    | bts l => cases hc
    | bld T c => simp only [hasConH, Bool.or_eq_true]; exact .inl hc
    | tre o fr e be t x cur => simp only [hasConH, Bool.or_eq_true]; exact .inl hc
    | unused => cases hc
    | gone => cases hc
  | a :: l, k + 1, h, hk, hc => by
    have := conH (l := l) (k := k) (h := h) (by simpa using hk) hc
    cases a with
    | box cs => simp only [hasConH, Bool.or_eq_true]; exact .inr this
    | row e t x => simp only [hasConH, Bool.or_eq_true]; exact .inr this
    | frz t x => rfl
    | mp t f => simp only [hasConH, Bool.or_eq_true]; exact .inr this
    | bts l => exact this
    | bld T c => simp only [hasConH, Bool.or_eq_true]; exact .inr this
    | tre o fr e be t x cur => simp only [hasConH, Bool.or_eq_true]; exact .inr this
    | unused => exact this
    | gone => exact this

open Classical in
set_option maxHeartbeats 2000000 in
/-- Behind a call. -/
theorem backE_sound {Rt : Type} {b : Nat} {rs ws : List Nat} {K : AV → Nat → Heap → List Nat → List Nat → Option Rt} {r : Rt} {MX : Nat → Prop} {w : World} {ρ : Nat → Value} {hp : Heap} (H : HRel MX w ρ hp) {ps : PS} (hi : PI MX w ρ nilD hp ps) (hfull : full ps.H = true)
    {res : AV} {H' : List HE} {v : Value} {w' : World} {ρ' : Nat → Value} (hl : Left (MXc MX ρ nilD hp ps) w (rhoS ρ nilD ps.m) ps.H res H' v w' ρ') (hk : (backE ps res H').go b hp rs ws K = some r) :
    ∃ x b' hp' rs' ws' ρN, K x b' hp' rs' ws' = some r ∧ Step MX w ρ hp w' ρN hp' ∧ R (Mut MX hp' ρN) w' ρN hp' x v := by
  unfold backE at hk
  split at hk
  case h_1 => cases hk
  rename_i hlen
  have hlen := Nat.le_of_ble_eq_true hlen
  obtain ⟨ids, b1, hp1, ws1, hK1, P1⟩ := places_sound hk
  have hused : ∀ (k i off : Nat), ps.m[k]? = some (some (i, off)) → hp i ≠ .unused := fun k i off h e => by
    have := hi.liv k i off h
    rw [e] at this
    exact this
  have dist : ∀ (i j : Nat) (p q : Nat × Nat), ids[i]? = some p → ids[j]? = some q → p.1 = q.1 → i = j := by
    intro i j p q hp_ hq e
    rcases P1.src i p hp_ with h1 | ⟨h1, _, _, h1m⟩ <;> rcases P1.src j q hq with h2 | ⟨h2, _, _, h2m⟩
    · obtain ⟨p1, p2⟩ := p
      obtain ⟨q1, q2⟩ := q
      simp only at e
      subst e
      exact hi.inj i j p1 p2 q2 h1 h2
    · exact absurd (e ▸ h2) (hused i p.1 p.2 h1)
    · exact absurd (e ▸ h1) (hused j q.1 q.2 h2)
    · exact P1.inj i j p q hp_ hq e h1 h1m h2m
  obtain ⟨hp2, rs2, ws2, hK2, B1, B2⟩ := backAll_sound (by rw [P1.len]) dist hK1
  -- the last step
  have fin : ∃ x b' hpN rs' ws', K x b' hpN rs' ws' = some r ∧ x = rn ids res ∧ (∀ j, hpN j = hp2 j ∨ (j ∈ ps.lent ∧ ∃ e t l, hp2 j = .row e t l ∧ hpN j = .frz t l)) ∧ ((hasCon res || hasConH H') = true → ∀ j, j ∈ ps.lent → ¬ live (hpN j)) := by
    split at hK2
    · rename_i hc
      obtain ⟨hpN, rs3, ws3, hK3, f1, f2⟩ := freezeL_sound hK2
      exact ⟨_, _, hpN, _, _, hK3, rfl, f1, fun _ => f2⟩
    · rename_i hc
      exact ⟨_, _, hp2, _, _, hK2, rfl, fun _ => .inl rfl, fun h => by rw [hc] at h; cases h⟩
  obtain ⟨x, b', hpN, rs', ws', hK, rfl, N1, N2⟩ := fin
  let inIds : Nat → Prop := fun j => ∃ k : Nat, ∃ p : Nat × Nat, ids[k]? = some p ∧ p.1 = j
  have hB1 : ∀ j, ¬ inIds j → hp2 j = hp1 j := fun j h => B1 j fun i p hp_ e => h ⟨i, p, hp_, e⟩
  have hlentRow : ∀ j, j ∈ ps.lent → live (hp j) := hi.rows
  have hlentOut : ∀ j, j ∈ ps.lent → ¬ inIds j := by
    rintro j hj ⟨k, p, hp_, rfl⟩
    have hr := hlentRow _ hj
    rcases P1.src k p hp_ with h1 | ⟨h1, _⟩
    · exact hi.apart k p.1 p.2 h1 hj
    · rw [h1] at hr; exact hr
  have hNids : ∀ j, inIds j → hpN j = hp2 j := by
    intro j hj
    rcases N1 j with h | ⟨h, _⟩
    · exact h
    · exact absurd hj (hlentOut j h)
  have hNout : ∀ j, ¬ inIds j → hpN j = hp j ∨ (hp j = .unused ∧ hpN j = .gone) ∨ (j ∈ ps.lent ∧ ∃ e t l, hp j = .row e t l ∧ hpN j = .frz t l) := by
    intro j hj
    have h1 := hB1 j hj
    rcases N1 j with h | ⟨h0, e, t, l, h2, h3⟩
    · rw [h1] at h
      rcases P1.ch j with g | ⟨g1, g2⟩
      · exact .inl (h.trans g)
      · exact .inr (.inl ⟨g1, h.trans g2⟩)
    · have hr := hlentRow j h0
      have hpj : hp1 j = hp j := P1.old j (fun e => by rw [e] at hr; exact hr)
      rw [h1, hpj] at h2
      exact .inr (.inr ⟨h0, e, t, l, h2, h3⟩)
  let ρN : Nat → Value := fun j => if hj : (hp j = .unused ∨ ∃ a, ρ j = .tuple a) ∧ inIds j then ρ' (Classical.choose hj.2) else ρ j
  have G1 : ∀ j, hp j ≠ .unused → (∀ a, ρ j ≠ .tuple a) → ρN j = ρ j := fun j hj hn => dif_neg (fun h => h.1.elim hj fun ⟨a, e⟩ => hn a e)
  have G1' : ∀ j, ¬ inIds j → ρN j = ρ j := fun j hj => dif_neg (fun h => hj h.2)
  have G2' : ∀ (k : Nat) (p : Nat × Nat), ids[k]? = some p → (∃ a, ρ p.1 = .tuple a) → ρN p.1 = ρ' k := by
    intro k p hp_ hu
    have hj : (hp p.1 = .unused ∨ ∃ a, ρ p.1 = .tuple a) ∧ inIds p.1 := ⟨.inr hu, k, p, hp_, rfl⟩
    show (if hj : (hp p.1 = .unused ∨ ∃ a, ρ p.1 = .tuple a) ∧ inIds p.1 then ρ' (Classical.choose hj.2) else ρ p.1) = ρ' k
    rw [dif_pos hj]
    obtain ⟨q, hq, he⟩ := Classical.choose_spec hj.2
    rw [dist _ k q p hq hp_ he]
  have G2 : ∀ (k : Nat) (p : Nat × Nat), ids[k]? = some p → hp p.1 = .unused → ρN p.1 = ρ' k := by
    intro k p hp_ hu
    have hj : (hp p.1 = .unused ∨ ∃ a, ρ p.1 = .tuple a) ∧ inIds p.1 := ⟨.inl hu, k, p, hp_, rfl⟩
    show (if hj : (hp p.1 = .unused ∨ ∃ a, ρ p.1 = .tuple a) ∧ inIds p.1 then ρ' (Classical.choose hj.2) else ρ p.1) = ρ' k
    rw [dif_pos hj]
    obtain ⟨q, hq, he⟩ := Classical.choose_spec hj.2
    rw [dist _ k q p hq hp_ he]
  have hspot : ∀ j, live (hp j) → ∀ a, ρ j = .pointer (some a) → a.spot = none := by
    intro j hlj a ha
    have hok := H.ok j
    cases hj : hp j with
    | box cs =>
      rw [hj] at hok
      obtain ⟨g, o, C, e, vs, h1, _⟩ := hok
      rw [ha] at h1
      injection h1 with h1
      injection h1 with h1
      subst h1
      rfl
    | row e t l =>
      rw [hj] at hok
      obtain ⟨xs, h1, _⟩ := hok
      rcases h1.2 with ⟨h2, _⟩ | ⟨g, cap, cur, h2, _⟩
      · rw [ha] at h2; cases h2
      · rw [ha] at h2; cases h2
    | unused => rw [hj] at hlj; exact hlj.elim
    | gone => rw [hj] at hlj; exact hlj.elim
    | frz t l => rw [hj] at hlj; exact hlj.elim
    | mp t f =>
      rw [hj] at hok
      obtain ⟨b0, h1, _⟩ := hok
      rw [ha] at h1; cases h1
    | bts l =>
      rw [hj] at hok
      obtain ⟨g, c, h1, _⟩ := hok
      rw [ha] at h1; cases h1
    | tre o fr e be t l cur =>
      rw [hj] at hok
      obtain ⟨v0, ss, us, xs, ht⟩ := hok
      rcases ht.pl with e' | ⟨_, _, _, e'⟩ <;> rw [e'] at ha <;> cases ha
    | bld T c =>
      rw [hj] at hok
      obtain ⟨g, p, v, h1, _⟩ := hok
      rw [ha] at h1
      injection h1 with h1
      injection h1 with h1
      subst h1
      rfl
  have hkm : ∀ (k : Nat) (p : Nat × Nat), ps.m[k]? = some (some p) → k < ps.H.length := fun k p h => by rw [← hi.len]; exact lt_of_get h
  have G3 : ∀ (k : Nat) (p : Nat × Nat), ids[k]? = some p → (ρ' k = shift (ρN p.1) p.2 ∧ (∀ a, ρN p.1 = .pointer (some a) → a.spot = none) ∧ ps.m[k]? = some (some p) ∧ Old (ρ p.1) (ρN p.1)) ∨ (p.2 = 0 ∧ ρ' k = ρN p.1 ∧ hp p.1 = .unused) := by
    intro k p hp_
    rcases P1.src k p hp_ with h1 | ⟨h1, _, h3, _⟩
    · left
      have hliv := hi.liv k p.1 p.2 h1
      have erho : rhoS ρ nilD ps.m k = shift (ρ p.1) p.2 := by unfold rhoS; rw [h1]
      have hk0 := hl.keep k (hkm k p h1)
      rw [erho] at hk0
      by_cases htu : ∃ a, ρ p.1 = .tuple a
      · have e2 := G2' k p hp_ htu
        obtain ⟨a, ea⟩ := htu
        rw [ea, shift_tuple] at hk0
        have htu' : ∃ a', ρ' k = .tuple a' := by
          rcases hk0 with e | ⟨_, h, _⟩
          · exact ⟨a, e⟩
          · exact h
        obtain ⟨a', ea'⟩ := htu'
        refine ⟨by rw [e2, ea', shift_tuple], (fun b e => by rw [e2, ea'] at e; cases e), h1, by rw [e2, ea]; exact hk0⟩
      · have hnt : ∀ a, ρ p.1 ≠ .tuple a := fun a e => htu ⟨a, e⟩
        have e1 := G1 p.1 (hused k p.1 p.2 h1) hnt
        refine ⟨?_, by rw [e1]; exact hspot p.1 hliv, h1, .inl e1⟩
        rw [e1]
        exact hk0.eq (shift_not hnt)
    · exact .inr ⟨h3, (G2 k p hp_ h1).symm, h1⟩
  have Gblk : ∀ (k : Nat) (p : Nat × Nat), ids[k]? = some p → At (ρN p.1) = At (ρ' k) := by
    intro k p hp_
    rcases G3 k p hp_ with ⟨h, _⟩ | ⟨_, h, _⟩
    · rw [h, blk_shift]
    · rw [h]
  have hget : ∀ (k : Nat) (p : Nat × Nat), ids[k]? = some p → H'[k]? = some (hpOf H' k) := by
    intro k p hp_
    have hlt := lt_of_get hp_
    rw [P1.len] at hlt
    rw [hpOf_eq, List.getElem?_eq_getElem hlt]
    rfl
  have hBack : ∀ (k : Nat) (p : Nat × Nat), ids[k]? = some p → Back ids hp1 p (hpOf H' k) (hpN p.1) := by
    intro k p hp_
    rw [hNids p.1 ⟨k, p, hp_, rfl⟩]
    exact B2 k _ p (hget k p hp_) hp_
  have hNu : ∀ (k : Nat) (p : Nat × Nat), ids[k]? = some p → hpN p.1 ≠ .unused := by
    intro k p hp_ e
    have := hBack k p hp_
    rw [e] at this
    cases hh : hpOf H' k <;> rw [hh] at this <;> simp [Back] at this
  have ren : Ren ρ' ρN (hpOf H') hpN ids := by
    refine ⟨fun k hk => ?_, fun k p hp_ _ => ⟨hNu k p hp_, ?_⟩⟩
    · have hlt := lt_of_get (hpOf_get hk)
      rw [← P1.len] at hlt
      exact ⟨_, List.getElem?_eq_getElem hlt⟩
    · rcases G3 k p hp_ with ⟨h1, h2, _⟩ | ⟨h1, h2, _⟩
      · exact .inl ⟨h1, h2⟩
      · exact .inr ⟨h1, h2⟩
  have LN : ∀ j, live (hpN j) → (∃ k : Nat, ∃ p : Nat × Nat, ids[k]? = some p ∧ p.1 = j ∧ live (hpOf H' k)) ∨ (¬ inIds j ∧ live (hp j) ∧ hpN j = hp j ∧ ((hasCon res || hasConH H') = true → j ∉ ps.lent)) := by
    intro j hj
    by_cases hin : inIds j
    · obtain ⟨k, p, hp_, rfl⟩ := hin
      left
      refine ⟨k, p, hp_, rfl, ?_⟩
      have hb := hBack k p hp_
      cases hh : hpOf H' k with
      | box cs => trivial
      | row e t l => trivial
      | mp t f => trivial
      | bts l => trivial
      | bld T c => trivial
      | tre o fr e be t l cur => trivial
      | unused => rw [hh] at hb; exact hb
      | gone => rw [hh] at hb; rw [show hpN p.1 = .gone from hb] at hj; exact hj
      | frz t l => rw [hh] at hb; rw [show hpN p.1 = .frz t l from hb] at hj; exact hj
    · right
      rcases hNout j hin with h | ⟨_, h⟩ | ⟨_, e, t, l, _, h⟩
      · refine ⟨hin, by rw [← h]; exact hj, h, fun hc hmem => ?_⟩
        exact N2 hc j hmem (by rw [h]; exact hlentRow j hmem)
      · rw [h] at hj; exact hj.elim
      · rw [h] at hj; exact hj.elim
  have hDlv : ∀ b, Lv (hpOf ps.H) (rhoS ρ nilD ps.m) b → ∃ k i off : Nat, ps.m[k]? = some (some (i, off)) ∧ live (hp i) ∧ At (ρ i) b := by
    rintro b ⟨k, hlk, hbk⟩
    have hne : hpOf ps.H k ≠ .unused := fun e => by rw [e] at hlk; exact hlk
    rcases hi.src k _ (hpOf_get hne) hlk with ⟨i, off, h1, h2⟩ | h1
    · refine ⟨k, i, off, h1, h2, ?_⟩
      exact at_src h1 hbk
    · exact (h1 _ hbk).elim
  have hmIds : ∀ k i off : Nat, ps.m[k]? = some (some (i, off)) → inIds i := by
    intro k i off h
    have hlt : k < ids.length := by rw [P1.len]; exact Nat.lt_of_lt_of_le (hkm k _ h) hlen
    refine ⟨k, ids[k], List.getElem?_eq_getElem hlt, ?_⟩
    rcases P1.src k _ (List.getElem?_eq_getElem hlt) with g | ⟨_, _, _, g⟩
    · rw [h] at g
      injection g with g
      injection g with g
      rw [← g]
    · rcases g with g | g <;> rw [h] at g <;> cases g
  have nwl : ∀ b, b < w.heap.size → Lv hpN ρN b → Lv hp ρ b := by
    rintro b hb ⟨j, hj, hbj⟩
    rcases LN j hj with ⟨k, p, hp_, rfl, hlk⟩ | ⟨hout, hlj, _, _⟩
    · rw [Gblk k p hp_] at hbj
      obtain ⟨k2, i, off, _, h2, h3⟩ := hDlv b (hl.nwl b hb ⟨k, hlk, hbj⟩)
      exact ⟨i, h2, h3⟩
    · rw [G1' j hout] at hbj
      exact ⟨j, hlj, hbj⟩
  have outNotD : ∀ j, ¬ inIds j → live (hp j) → ∀ b, At (ρ j) b → ¬ Lv (hpOf ps.H) (rhoS ρ nilD ps.m) b := by
    intro j hout hlj b hbj hD
    obtain ⟨k, i, off, h1, h2, h3⟩ := hDlv b hD
    have := H.sep i j b h2 hlj h3 hbj
    subst this
    exact hout (hmIds k i off h1)
  have hMN : ∀ b, b < w'.heap.size → (hasCon res || hasConH H') = true → Mut MX hpN ρN b → Mut (MXc MX ρ nilD hp ps) (hpOf H') ρ' b := by
    rintro b hb hc (hm | ⟨j, hj, hbj⟩)
    · refine .inl ⟨⟨.inl hm, fun ⟨i, hmem, hbi⟩ => ?_⟩, fun hD => ?_⟩
      · exact H.ext i b (hlentRow i hmem) hbi hm
      · obtain ⟨k, i, off, _, h2, h3⟩ := hDlv b hD
        exact H.ext i b h2 h3 hm
    · rcases LN j hj with ⟨k, p, hp_, rfl, hlk⟩ | ⟨hout, hlj, _, hnl⟩
      · rw [Gblk k p hp_] at hbj
        exact .inr ⟨k, hlk, hbj⟩
      · rw [G1' j hout] at hbj
        refine .inl ⟨⟨.inr ⟨j, hlj, hbj⟩, fun ⟨i, hmem, hbi⟩ => ?_⟩, outNotD j hout hlj b hbj⟩
        have := H.sep j i b hlj (hlentRow i hmem) hbj hbi
        subst this
        exact hnl hc hmem
  have old : ∀ j, hp j ≠ .unused → Old (ρ j) (ρN j) ∧ hpN j ≠ .unused := by
    intro j hj
    by_cases hin : inIds j
    · obtain ⟨k, p, hp_, rfl⟩ := hin
      refine ⟨?_, hNu k p hp_⟩
      rcases G3 k p hp_ with ⟨_, _, _, h⟩ | ⟨_, _, h⟩
      · exact h
      · exact absurd h hj
    · refine ⟨.inl (G1' j hin), ?_⟩
      rcases hNout j hin with h | ⟨_, h⟩ | ⟨_, _, _, _, _, h⟩
      · rw [h]; exact hj
      · rw [h]; simp
      · rw [h]; simp
  have hnew : ∀ b, b < w.heap.size → Mut MX hpN ρN b → Mut MX hp ρ b := fun b hb hm => hm.imp id (nwl b hb)
  have hD' : ∀ b, b < w.heap.size → Lv (hpOf ps.H) (rhoS ρ nilD ps.m) b → Mut MX hp ρ b := fun b _ hD => by
    obtain ⟨_, i, _, _, h2, h3⟩ := hDlv b hD
    exact .inr ⟨i, h2, h3⟩
  have hoffD : ∀ (a : AV) (y : Value), R (Mut MX hp ρ) w ρ hp a y → R (Mut MX hpN ρN) w' ρN hpN a y := fun a y h => R_step hl.off hD' hnew old a h
  have hconOr : ∀ {c : Bool}, (c = true → (hasCon res || hasConH H') = true) → (∀ b, b < w'.heap.size → Mut MX hpN ρN b → Mut (MXc MX ρ nilD hp ps) (hpOf H') ρ' b) ∨ c = false := by
    intro c hc
    cases c with
    | true => exact .inl fun b hb hm => hMN b hb (hc rfl) hm
    | false => exact .inr rfl
  refine ⟨_, _, hpN, _, _, ρN, hK, ?_, rn_R ren res (hconOr (c := hasCon res) (fun h => by simp [h])) hl.r⟩
  refine Step.mk' (D := Lv (hpOf ps.H) (rhoS ρ nilD ps.m)) H hl.off (fun b _ hD => by obtain ⟨_, i, _, _, h2, h3⟩ := hDlv b hD; exact ⟨i, h2, h3⟩) old nwl ?_ ?_ ?_ ?_
  · intro j
    by_cases hin : inIds j
    · obtain ⟨k, p, hp_, rfl⟩ := hin
      right
      have hb := hBack k p hp_
      have hok := hl.rel.ok k
      cases hh : hpOf H' k with
      | unused => rw [hh] at hb; exact hb.elim
      | gone => rw [hh] at hb; rw [show hpN p.1 = .gone from hb]; trivial
      | tre o fr e be t l cur =>
        rw [hh] at hb hok
        obtain ⟨v0, ss, us, xs, ht⟩ := hok
        have hρ : ρN p.1 = ρ' k := by
          rcases G3 k p hp_ with ⟨g, _⟩ | ⟨_, g, _⟩
          · rcases ht.pl with e' | ⟨_, _, _, e'⟩
            · exact (shift_tup (g.symm.trans e')).trans e'.symm
            · exact (shift_slice (g.symm.trans e')).trans e'.symm
          · exact g.symm
        have hcd := hconOr (c := t.deep) (fun h => by have := conH (hget k p hp_) (by rw [hh]; exact h); simp [this])
        rcases hb with ⟨hc0, hb⟩ | ⟨j, q, p', hc0, hq', hb⟩
        · subst hc0
          rw [hb]
          exact ⟨v0, ss, us, xs, ht.free hcd hρ⟩
        · subst hc0
          rw [hb]
          obtain ⟨_, _, hsq, hqu⟩ := ht.cur_ j q rfl
          obtain ⟨Aq, nq, cq, hslq⟩ := ht.sl _ (List.mem_of_getElem? hsq)
          obtain ⟨hu', _⟩ := ren.at_ q p' hq' hqu
          have hρq : ρN p'.1 = ρ' q := by
            rcases G3 q p' hq' with ⟨g, _⟩ | ⟨_, g, _⟩
            · exact (shift_slice (g.symm.trans hslq)).trans hslq.symm
            · exact g.symm
          exact ⟨v0, ss, us, xs, ht.freeCur hcd hρ hρq hu'⟩
      | frz t l =>
        rw [hh] at hb hok
        rw [show hpN p.1 = .frz t l from hb]
        obtain ⟨A, c, h1, h2, h3⟩ := hok
        refine ⟨A, c, ?_, h2, ?_⟩
        · rcases G3 k p hp_ with ⟨g, _⟩ | ⟨_, g, _⟩
          · exact shift_slice (g.symm.trans h1)
          · exact g.symm.trans h1
        · have hc := conH (hget k p hp_) (by rw [hh])
          exact RowR_step (D := fun _ => False) t.sz_pos (Off.refl _ _) (fun _ _ h => h.elim) (fun b hb hm => hMN b hb (by simp [hc]) hm) (fun _ _ h => KR_step (D := fun _ => False) (Off.refl _ _) (fun _ _ h => h.elim) (fun b hb hm => hMN b hb (by simp [hc]) hm) t h) h3
      | mp t f =>
        rw [hh] at hb hok
        rw [show hpN p.1 = .mp t f from hb]
        obtain ⟨b0, h1, h2⟩ := hok
        refine ⟨b0, ?_, h2⟩
        rcases G3 k p hp_ with ⟨g, _⟩ | ⟨_, g, _⟩
        · exact shift_map (g.symm.trans h1)
        · exact g.symm.trans h1
      | bld T c =>
        rw [hh] at hb hok
        obtain ⟨hb0, hb⟩ := hb
        rw [hb]
        obtain ⟨g0, p0, v0, h1, h2, h3, h4⟩ := hok
        refine ⟨g0, p0, v0, ?_, h2, h3, rn_R ren c (hconOr (c := hasCon c) (fun h => by have := conH (hget k p hp_) (by rw [hh]; exact h); simp [this])) h4⟩
        rcases G3 k p hp_ with ⟨g, gs, _⟩ | ⟨_, g, _⟩
        · rw [h1, hb0] at g
          cases hv : ρN p.1 with
          | pointer a =>
            cases a with
            | none => rw [hv] at g; simp [shift] at g
            | some a =>
              have hsp := gs a hv
              rw [hv] at g
              simp only [shift] at g
              injection g with g
              injection g with g
              injection g with e1 e2
              obtain ⟨ab, ao, asp⟩ := a
              simp only at e1 e2 hsp
              subst e1 hsp
              have : ao = 0 := by omega
              subst this
              rfl
          | _ => rw [hv] at g; simp [shift] at g
        · exact g.symm.trans h1
      | bts l =>
        rw [hh] at hb hok
        rw [show hpN p.1 = .bts l from hb]
        obtain ⟨g0, c0, h1, h2⟩ := hok
        refine ⟨g0, c0, ?_, h2⟩
        rcases G3 k p hp_ with ⟨g, _⟩ | ⟨_, g, _⟩
        · exact shift_slice (g.symm.trans h1)
        · exact g.symm.trans h1
      | row e t l =>
        rw [hh] at hb hok
        rw [show hpN p.1 = .row e t l from hb]
        obtain ⟨xs, h1, h2⟩ := hok
        have hρ : ρN p.1 = ρ' k := by
          rcases G3 k p hp_ with ⟨g, _⟩ | ⟨_, g, _⟩
          · rcases h1.2 with ⟨h3, _⟩ | ⟨g', cap, cur, h3, _⟩
            · rw [h3]; exact shift_slice (g.symm.trans h3)
            · rw [h3]; exact shift_slice (g.symm.trans h3)
          · exact g.symm
        refine ⟨xs, by rw [hρ]; exact h1, Els.imp (fun x cs hkr => ?_) h2⟩
        rcases hconOr (c := t.hasSl) (fun h => by have := conH (hget k p hp_) (by rw [hh]; exact h); simp [this]) with hM | hM
        · exact KR_step (D := fun _ => False) (Off.refl _ _) (fun _ _ h => h.elim) hM t hkr
        · exact KR_free t hM hkr
      | box cs =>
        rw [hh] at hb hok
        obtain ⟨g, o, C, e, vs, h1, h2, h3, h4⟩ := hok
        have hrn : Rs (Mut MX hpN ρN) w' ρN hpN (rns ids cs) vs := rns_R ren cs (hconOr (c := hasCons cs) (fun h => by have := conH (hget k p hp_) (by rw [hh]; exact h); simp [this])) h3
        have hvl := Rs_len h3
        rcases hb with ⟨olds, hb1, hb2, hb3⟩ | ⟨hb1, hb2, hb3⟩
        · rw [hb3]
          -- a box that was there
          have hpk : ps.m[k]? = some (some p) ∧ hp p.1 = .box olds := by
            rcases P1.src k p hp_ with q | ⟨_, q, _⟩
            · exact ⟨q, by rw [← P1.old p.1 (hused k p.1 p.2 q)]; exact hb1⟩
            · rw [hb1] at q; cases q
          obtain ⟨hm, hold⟩ := hpk
          have hokj := H.ok p.1
          rw [hold] at hokj
          obtain ⟨g0, o0, C0, e0, vs0, f1, f2, f3, f4⟩ := hokj
          have hv0 := Rs_len f3
          have hρ : ρN p.1 = ρ p.1 := G1 p.1 (hused k p.1 p.2 hm) (fun a e => by rw [f1] at e; cases e)
          have hsh : g = g0 ∧ o = o0 + p.2 := by
            rcases G3 k p hp_ with ⟨q, _⟩ | ⟨_, _, q⟩
            · rw [h1, hρ, f1] at q
              simp only [shift] at q
              injection q with q
              injection q with q
              injection q with q1 q2
              exact ⟨q1, q2⟩
            · rw [hold] at q; cases q
          obtain ⟨rfl, rfl⟩ := hsh
          -- the callee's own box
          have hkind : ∃ csk, hpOf ps.H k = .box csk := by
            have hlt := hkm k p hm
            rcases hi.kind k p.1 p.2 _ hm (List.getElem?_eq_getElem hlt) with q | ⟨cs1, _, q, _⟩ | ⟨q, _, qn⟩ | ⟨_, _, _, q, q2, _⟩ | ⟨_, _, qn⟩
            · exact absurd (by rw [List.getElem?_eq_getElem hlt, q]) (full_ne hfull k)
            · exact ⟨cs1, by rw [hpOf_some (List.getElem?_eq_getElem hlt)]; exact q⟩
            · rw [hold] at q; exact absurd q.symm (qn _)
            · rw [hold] at q2; cases q2
            · exact absurd hold (qn _)
          obtain ⟨csk, hcsk⟩ := hkind
          obtain ⟨cs2, k1, k2, k3⟩ := hl.bx k csk hcsk
          rw [hh] at k1
          injection k1 with k1
          subst k1
          have hrk : rhoS ρ nilD ps.m k = .pointer (some ⟨g, o0 + p.2, none⟩) := by
            have hk0 := hl.keep k (hkm k p hm)
            rcases hk0 with e | ⟨_, ⟨a, e⟩, _⟩
            · rw [← e]; exact h1
            · rw [e] at h1; cases h1
          obtain ⟨C1, C2, e1, i1, i2, i3, i4⟩ := k3 g (o0 + p.2) hrk
          rw [f2] at i1
          injection i1 with i1
          injection i1 with i1 i1e
          subst i1
          rw [h2] at i2
          injection i2 with i2
          injection i2 with i2 i2e
          subst i2
          have hoT : Rs (Mut MX hpN ρN) w' ρN hpN olds vs0 := Rs_step hl.off hD' hnew old olds f3
          refine ⟨g, o0, C, e, vs0.take p.2 ++ vs ++ vs0.drop (p.2 + vs.length), by rw [hρ]; exact f1, h2, ?_, fun j u hj => ?_⟩
          · have := Rs_splice hoT hrn p.2
            exact this
          · rw [List.append_assoc] at hj
            by_cases j1 : j < p.2
            · rw [List.getElem?_append_left (by simp; omega), List.getElem?_take, if_pos j1] at hj
              rw [i4 _ (.inl (by omega))]
              exact f4 j u hj
            · have ht : (vs0.take p.2).length = p.2 := by simp; omega
              rw [List.getElem?_append_right (by omega), ht] at hj
              by_cases j2 : j - p.2 < vs.length
              · rw [List.getElem?_append_left j2] at hj
                have := h4 _ u hj
                rw [← this]
                congr 1
                omega
              · rw [List.getElem?_append_right (by omega), List.getElem?_drop] at hj
                rw [i4 _ (.inr (by omega))]
                have := f4 _ u hj
                rw [← this]
                congr 1
                omega
        · rw [hb3]
          have hun : hp p.1 = .unused := by
            rcases P1.src k p hp_ with q | ⟨q, _⟩
            · have hne := hused k p.1 p.2 q
              rw [P1.old p.1 hne] at hb1
              have := hi.liv k p.1 p.2 q
              rw [hb1] at this
              exact this.elim
            · exact q
          exact ⟨g, o, C, e, vs, by rw [G2 k p hp_ hun]; exact h1, h2, hrn, h4⟩
    · rcases hNout j hin with h | ⟨h1, h2⟩ | ⟨h0, e, t, l, h1, h2⟩
      · exact .inl ⟨h, G1' j hin, fun hlj b hbj => outNotD j hin hlj b hbj⟩
      · right; rw [h2]; trivial
      · right
        rw [h2]
        have hok := H.ok j
        rw [h1] at hok
        obtain ⟨xs, g1, g2⟩ := hok
        obtain ⟨A, c, hv', hle, hr⟩ := own_reads g1 g2
        refine ⟨A, c, by rw [G1' j hin]; exact hv', hle, ?_⟩
        have hr' := hr (fun b => Mut MX hp ρ b ∧ ¬ At (ρ j) b) (fun b _ h => h)
        have hDn : ∀ b, b < w.heap.size → Lv (hpOf ps.H) (rhoS ρ nilD ps.m) b → Mut MX hp ρ b ∧ ¬ At (ρ j) b := fun b hb hD => ⟨hD' b hb hD, fun e => outNotD j hin (by rw [h1]; trivial) b e hD⟩
        have hMn : ∀ b, b < w.heap.size → Mut MX hpN ρN b → Mut MX hp ρ b ∧ ¬ At (ρ j) b := by
          intro b hb hm
          refine ⟨hnew b hb hm, fun e => ?_⟩
          rcases hm with hm | ⟨j', hj', hbj'⟩
          · exact H.ext j b (by rw [h1]; trivial) e hm
          · rcases LN j' hj' with ⟨k, p, hp_, rfl, hlk⟩ | ⟨hout, hlj, hsame, _⟩
            · rw [Gblk k p hp_] at hbj'
              exact outNotD j hin (by rw [h1]; trivial) b e (hl.nwl b hb ⟨k, hlk, hbj'⟩)
            · rw [G1' j' hout] at hbj'
              have := H.sep j' j b hlj (by rw [h1]; trivial) hbj' e
              subst this
              rw [h2] at hj'
              exact hj'
        exact RowR_step t.sz_pos hl.off hDn hMn (fun _ _ h => KR_step hl.off hDn hMn t h) hr'
  · intro j j' b hj hj' hbj hbj'
    rcases LN j hj with ⟨k, p, hp_, rfl, hlk⟩ | ⟨hout, hlj, _, _⟩ <;> rcases LN j' hj' with ⟨k', p', hp_', rfl, hlk'⟩ | ⟨hout', hlj', _, _⟩
    · rw [Gblk k p hp_] at hbj
      rw [Gblk k' p' hp_'] at hbj'
      have := hl.rel.sep k k' b hlk hlk' hbj hbj'
      subst this
      rw [hp_] at hp_'
      injection hp_' with e
      rw [e]
    · rw [Gblk k p hp_] at hbj
      rw [G1' j' hout'] at hbj'
      exact absurd (hl.nwl b (H.lt hlj' hbj') ⟨k, hlk, hbj⟩) (outNotD j' hout' hlj' b hbj')
    · rw [Gblk k' p' hp_'] at hbj'
      rw [G1' j hout] at hbj
      exact absurd (hl.nwl b (H.lt hlj hbj) ⟨k', hlk', hbj'⟩) (outNotD j hout hlj b hbj)
    · rw [G1' j hout] at hbj
      rw [G1' j' hout'] at hbj'
      exact H.sep j j' b hlj hlj' hbj hbj'
  · intro j b hj hbj hm
    rcases LN j hj with ⟨k, p, hp_, rfl, hlk⟩ | ⟨hout, hlj, _, _⟩
    · rw [Gblk k p hp_] at hbj
      obtain ⟨_, i, _, _, h2, h3⟩ := hDlv b (hl.nwl b (H.mx b hm) ⟨k, hlk, hbj⟩)
      exact H.ext i b h2 h3 hm
    · rw [G1' j hout] at hbj
      exact H.ext j b hlj hbj hm
  · intro j cs hj
    by_cases hin : inIds j
    · right
      obtain ⟨k, p, hp_, rfl⟩ := hin
      have hm : ps.m[k]? = some (some p) := by
        rcases P1.src k p hp_ with q | ⟨q, _⟩
        · exact q
        · rw [hj] at q; cases q
      have hlt := hkm k p hm
      have hkind : ∃ csk, hpOf ps.H k = .box csk ∧ p.2 + csk.length ≤ cs.length := by
        rcases hi.kind k p.1 p.2 _ hm (List.getElem?_eq_getElem hlt) with q | ⟨cs1, cs', q, q', ql⟩ | ⟨q, _, qn⟩ | ⟨_, _, _, q, q2, _⟩ | ⟨_, _, qn⟩
        · exact absurd (by rw [List.getElem?_eq_getElem hlt, q]) (full_ne hfull k)
        · rw [hj] at q'
          injection q' with q'
          subst q'
          exact ⟨cs1, by rw [hpOf_some (List.getElem?_eq_getElem hlt)]; exact q, ql⟩
        · rw [hj] at q; exact absurd q.symm (qn _)
        · rw [hj] at q2; cases q2
        · exact absurd hj (qn _)
      obtain ⟨csk, hcsk, hfit⟩ := hkind
      obtain ⟨cs2, k1, k2, k3⟩ := hl.bx k csk hcsk
      have hb := hBack k p hp_
      rw [k1] at hb
      rcases hb with ⟨olds, hb1, hb2, hb3⟩ | ⟨hb1, _, _⟩
      · have hold : hp p.1 = .box olds := by rw [← P1.old p.1 (hused k p.1 p.2 hm)]; exact hb1
        rw [hj] at hold
        injection hold with hold
        subst hold
        refine ⟨_, hb3, by unfold splice; simp [rns_len]; omega, ?_⟩
        intro g o he
        have hrk : rhoS ρ nilD ps.m k = .pointer (some ⟨g, o + p.2, none⟩) := by
          unfold rhoS
          rw [hm]
          simp only [he, shift]
        obtain ⟨C1, C2, e1, i1, i2, i3, i4⟩ := k3 g (o + p.2) hrk
        exact ⟨C1, C2, e1, i1, i2, i3, fun j hj' => i4 j (by omega)⟩
      · rw [P1.old p.1 (hused k p.1 p.2 hm), hj] at hb1
        cases hb1
    · left
      rcases hNout j hin with h | ⟨h, _⟩ | ⟨_, _, _, _, h, _⟩
      · exact ⟨h, fun b hbj => outNotD j hin (by rw [hj]; trivial) b hbj⟩
      · rw [hj] at h; cases h
      · rw [hj] at h; cases h
end Go.Proofs.YtbpeiilildchlaaGreatDoor.Abs
namespace Go.Proofs.YtbpeiilildchlaaGreatDoor.Abs
open Go Go.RowKit
set_option linter.unusedVariables false
set_option linter.unusedSectionVars false
set_option linter.unusedSimpArgs false

def Callable (P : Program) (f : FuncId) : Prop :=
  (match P.funcs[f]? with
  | some fn => !(fn.name == "runtime.NumGoroutine") && fn.body.isSome
  | none => false) = true

def EnvOk (P : Program) : Env → Prop
  | [] => True
  | e :: r => (Sound P e.1.1 e.2 ∧ Callable P e.1.1) ∧ EnvOk P r

theorem sameIds_eq : {a b : List Nat} → sameIds a b = true → a = b
  | [], [], _ => rfl
  | [], _ :: _, h => by cases h
  | _ :: _, [], h => by cases h
  | x :: a, y :: b, h => by
    simp only [sameIds, Bool.and_eq_true] at h
    rw [Nat.eq_of_beq_eq_true h.1, sameIds_eq h.2]

theorem look_ok {P : Program} {f : FuncId} {fs : List FuncId} {s : Spec} : {E : Env} → EnvOk P E → look f fs E = some s → Sound P f s ∧ Callable P f
  | [], _, h => by cases h
  | ((g, gs), s') :: r, hE, h => by
    unfold look at h
    split at h
    · rename_i hb
      simp only [Bool.and_eq_true] at hb
      have hg := Nat.eq_of_beq_eq_true hb.1
      subst hg
      injection h with h
      subst h
      exact hE.1
    · exact look_ok hE.2 h

theorem look2_ok {P : Program} {f : FuncId} {fs : List FuncId} {s : Spec} : {E : Env} → EnvOk P E → look2 f fs E = some s → Sound P f s ∧ Callable P f
  | [], _, h => by cases h
  | ((g, gs), s') :: r, hE, h => by
    unfold look2 at h
    split at h
    · exact look_ok hE.2 h
    · exact look2_ok hE.2 h

theorem anyOut_go {Rt : Type} {hp : Heap} {b : Nat} {ws : List Nat} {K : AV → Nat → Heap → List Nat → List Nat → Option Rt} {r : Rt} : (l : List AV) → {rs : List Nat} → {k : Bool → Eff AV} → (anyOut l k).go b hp rs ws K = some r → ∃ x rs', (k x).go b hp rs' ws K = some r
  | [], rs, k, h => ⟨_, _, h⟩
  | .own i :: l, rs, k, h => by
    simp only [anyOut, Eff.go] at h
    split at h
    · exact ⟨_, _, h⟩
    · exact anyOut_go l h
  | .v _ :: l, rs, k, h => anyOut_go l h
  | .con _ _ :: l, rs, k, h => anyOut_go l h
  | .box _ _ :: l, rs, k, h => anyOut_go l h
  | .elt _ _ _ :: l, rs, k, h => anyOut_go l h
  | .oel _ _ _ _ :: l, rs, k, h => anyOut_go l h
  | .mp _ :: l, rs, k, h => anyOut_go l h
  | .sub _ _ :: l, rs, k, h => anyOut_go l h
  | .fn _ _ _ :: l, rs, k, h => anyOut_go l h
  | .agg _ :: l, rs, k, h => anyOut_go l h
  | .tup _ :: l, rs, k, h => anyOut_go l h
  | .bs _ _ :: l, rs, k, h => anyOut_go l h
  | .bp _ _ _ :: l, rs, k, h => anyOut_go l h
  | .ifc _ :: l, rs, k, h => anyOut_go l h
  | .dead :: l, rs, k, h => anyOut_go l h

theorem outE_go {Rt : Type} {hp : Heap} {b : Nat} {ws : List Nat} {K : AV → Nat → Heap → List Nat → List Nat → Option Rt} {r : Rt} : (l : List AV) → {rs : List Nat} → {k : Bool → Eff AV} → (outE l k).go b hp rs ws K = some r → ∃ x rs', (k x).go b hp rs' ws K = some r
  | [], rs, k, h => ⟨_, _, h⟩
  | .box i _ :: l, rs, k, h => by
    simp only [outE, Eff.go] at h
    split at h
    · obtain ⟨x, rs', h⟩ := anyOut_go _ h
      cases x with
      | true => exact ⟨_, _, h⟩
      | false => exact outE_go l h
    · exact outE_go l h
  | .own _ :: l, rs, k, h => outE_go l h
  | .v _ :: l, rs, k, h => outE_go l h
  | .con _ _ :: l, rs, k, h => outE_go l h
  | .elt _ _ _ :: l, rs, k, h => outE_go l h
  | .oel _ _ _ _ :: l, rs, k, h => outE_go l h
  | .mp _ :: l, rs, k, h => outE_go l h
  | .sub _ _ :: l, rs, k, h => outE_go l h
  | .fn _ _ _ :: l, rs, k, h => outE_go l h
  | .agg _ :: l, rs, k, h => outE_go l h
  | .tup _ :: l, rs, k, h => outE_go l h
  | .bs _ _ :: l, rs, k, h => outE_go l h
  | .bp _ _ _ :: l, rs, k, h => outE_go l h
  | .ifc _ :: l, rs, k, h => outE_go l h
  | .dead :: l, rs, k, h => outE_go l h

section
variable {Rt : Type} {P : Program} {MX : Nat → Prop} {w : World} {ρ : Nat → Value} {hp : Heap} {b : Nat} {rs ws : List Nat} {K : AV → Nat → Heap → List Nat → List Nat → Option Rt} {r : Rt}

theorem PI_nil (MX : Nat → Prop) (w : World) (ρ d : Nat → Value) (hp : Heap) : PI MX w ρ d hp ⟨[], [], []⟩ :=
  ⟨rfl, fun k h hk => (by simp at hk), fun k h hk => (by simp at hk), fun k k' i off off' h => (by simp at h), fun k i off h => (by simp at h), fun i hi => (by cases hi), fun k i off h => (by simp at h), fun k i off h h1 => (by simp at h1)⟩

theorem closeL_sound {α Rt : Type} {K : α → Nat → Heap → List Nat → List Nat → Option Rt} {r : Rt} {held : List Nat} : (n : Nat) → {is : List Nat} → {k : Eff α} → {b : Nat} → {hp : Heap} → {rs ws : List Nat} → {ρ : Nat → Value} → HRel MX w ρ hp → (closeL held n is k).go b hp rs ws K = some r →
    ∃ hp' ρ' rs' ws', k.go b hp' rs' ws' K = some r ∧ Step MX w ρ hp w ρ' hp'
  | 0, is, k, b, hp, rs, ws, ρ, H, hk => by
    cases is <;> exact ⟨hp, ρ, rs, ws, hk, Step.refl H⟩
  | n + 1, [], k, b, hp, rs, ws, ρ, H, hk => ⟨hp, ρ, rs, ws, hk, Step.refl H⟩
  | n + 1, i :: is, k, b, hp, rs, ws, ρ, H, hk => by
    simp only [closeL, Eff.go] at hk
    split at hk
    · rename_i o fr e be t l j q hi
      simp only [Eff.go] at hk
      have hok := H.ok i
      rw [hi] at hok
      obtain ⟨v0, ss, us, xs, ht⟩ := hok
      split at hk
      · rename_i be' b0 m hq
        split at hk
        · simp only [Eff.go] at hk
          have hst := Step.forget H hi ht
          obtain ⟨hp', ρ', rs', ws', hK, hs⟩ := closeL_sound n hst.rel hk
          exact ⟨hp', ρ', rs', ws', hK, hst.trans hs⟩
        split at hk
        case h_2 => cases hk
        rename_i hb0 hbe _ hqi
        have hbe := Nat.eq_of_beq_eq_true hbe
        subst hbe hb0
        simp only [Eff.go] at hk
        have hst := Step.putBack H hi ht hq
        obtain ⟨hp', ρ', rs', ws', hK, hs⟩ := closeL_sound n hst.rel hk
        exact ⟨hp', ρ', rs', ws', hK, hst.trans hs⟩
      · simp only [Eff.go] at hk
        have hst := Step.forget H hi ht
        obtain ⟨hp', ρ', rs', ws', hK, hs⟩ := closeL_sound n hst.rel hk
        exact ⟨hp', ρ', rs', ws', hK, hst.trans hs⟩
      · exact closeL_sound n H hk
    · exact closeL_sound n H hk
    · exact closeL_sound n H hk

theorem closeIf_sound {α Rt : Type} {K : α → Nat → Heap → List Nat → List Nat → Option Rt} {r : Rt} {x : Bool} {held is : List Nat} {k : Eff α} {b : Nat} {hp : Heap} {rs ws : List Nat} {ρ : Nat → Value} (H : HRel MX w ρ hp) (hk : (closeIf x held is k).go b hp rs ws K = some r) :
    ∃ hp' ρ' rs' ws', k.go b hp' rs' ws' K = some r ∧ Step MX w ρ hp w ρ' hp' := by
  unfold closeIf at hk
  split at hk
  · exact ⟨hp, ρ, rs, ws, hk, Step.refl H⟩
  · exact closeL_sound 24 H hk

theorem callE_sound (H : HRel MX w ρ hp) {s : Spec} {fuel : Nat} {f : FuncId} (hs : Sound P f s) {args : List AV} {vals : List Value} (ha : Rs (Mut MX hp ρ) w ρ hp args vals) (hk : (callE s fuel args).go b hp rs ws K = some r) :
    Calls P f vals.toArray w fun e w' => ∃ v, e = .returned v ∧ ∃ x b' hp' rs' ws' ρ', K x b' hp' rs' ws' = some r ∧ Step MX w ρ hp w' ρ' hp' ∧ R (Mut MX hp' ρ') w' ρ' hp' x v := by
  unfold callE at hk
  obtain ⟨hp1, ρ1, rs1, ws1, hk, hs1⟩ := closeIf_sound H hk
  have ha := hs1.Rs ha
  have H1 := hs1.rel
  obtain ⟨avs, ps, rs', hK, hi, _, hr⟩ := pks_sound (n0 := 0) H1 (d := nilD) (fun _ _ => rfl) s.args (PI_nil MX w ρ1 nilD hp1) (Nat.zero_le _) ha hk
  split at hK
  case h_1 => cases hK
  rename_i hfull
  split at hK
  case h_1 => cases hK
  rename_i c hc
  simp only [Eff.go] at hK
  cases hx : c.o with
  | none => rw [hx] at hK; cases hK
  | some x =>
    rw [hx] at hK
    refine (hs fuel avs ps.H c x hc hx _ w _ vals (start_of H1 hi hr)).mono ?_
    rintro e w' ⟨v, ρ', rfl, hl⟩
    obtain ⟨x2, b2, hp2, rs2, ws2, ρ2, h1, h2, h3⟩ := backE_sound H1 hi hfull hl hK
    exact ⟨v, rfl, x2, b2, hp2, rs2, ws2, ρ2, h1, hs1.trans h2, h3⟩

theorem ev_sound {M : Nat → Prop} {tm : Nat → AV} {a : Act} (ht : ∀ t, R M w ρ hp (tm t) (a.tmps.getD t undef)) (x : Operand) : R M w ρ hp (ev tm x) (a.eval x) := by
  cases x with
  | tmp t => exact ht t
  | const v => rfl
  | global g => rfl
  | func f => exact ⟨[], rfl, rfl⟩

theorem evs_sound {M : Nat → Prop} {tm : Nat → AV} {a : Act} (ht : ∀ t, R M w ρ hp (tm t) (a.tmps.getD t undef)) : (xs : List Operand) → Rs M w ρ hp (xs.map (ev tm)) (xs.map a.eval)
  | [] => rfl
  | x :: xs => ⟨_, _, rfl, ev_sound ht x, evs_sound ht xs⟩

theorem evps_sound {M : Nat → Prop} {tm : Nat → AV} {a : Act} (ht : ∀ t, R M w ρ hp (tm t) (a.tmps.getD t undef)) : (xs : List (Nat × Operand)) → PartsR M w ρ hp (xs.map fun p => (p.1, ev tm p.2)) (xs.map fun p => (p.1, a.eval p.2))
  | [] => rfl
  | x :: xs => ⟨_, _, rfl, ev_sound ht x.2, evps_sound ht xs⟩

/-- What an operation of the machine comes to. -/
def Does (P : Program) (MX : Nat → Prop) (w : World) (ρ : Nat → Value) (hp : Heap) (K : AV → Nat → Heap → List Nat → List Nat → Option Rt) (r : Rt) (o : Oper) (a : Act) : Prop :=
  ∀ (next : Act → World → Prop) (Q : Exit → Act → World → Prop), (∀ x b' hp' rs' ws' v w' ρ', K x b' hp' rs' ws' = some r → Step MX w ρ hp w' ρ' hp' → R (Mut MX hp' ρ') w' ρ' hp' x v → next (a.put o.dst v) w') →
    o.upon P a next Q ((execOp a.eval o).run P w)

theorem Does.value {o : Oper} {a : Act} (h : ∃ x b' hp' rs' ws' v w' ρ', K x b' hp' rs' ws' = some r ∧ (execOp a.eval o).run P w = .ok (.value v) w' ∧ Step MX w ρ hp w' ρ' hp' ∧ R (Mut MX hp' ρ') w' ρ' hp' x v) : Does P MX w ρ hp K r o a := by
  obtain ⟨x, b', hp', rs', ws', v, w', ρ', h1, h2, h3, h4⟩ := h
  intro next Q hn
  rw [h2, Oper.upon_value]
  exact hn _ _ _ _ _ _ _ _ h1 h3 h4

/-- .. memory stays as it is. -/
theorem Does.still (H : HRel MX w ρ hp) {o : Oper} {a : Act} (h : ∃ x v rs', K x b hp rs' ws = some r ∧ (execOp a.eval o).run P w = .ok (.value v) w ∧ R (Mut MX hp ρ) w ρ hp x v) : Does P MX w ρ hp K r o a := by
  obtain ⟨x, v, rs', h1, h2, h3⟩ := h
  exact Does.value ⟨x, b, hp, rs', ws, v, w, ρ, h1, h2, Step.refl H, h3⟩

theorem Does.calls {o : Oper} {a : Act} {f : FuncId} {vals : Array Value} (hrun : (execOp a.eval o).run P w = .ok (.enter f vals) w)
    (h : Calls P f vals w fun e w' => ∃ v, e = .returned v ∧ ∃ x b' hp' rs' ws' ρ', K x b' hp' rs' ws' = some r ∧ Step MX w ρ hp w' ρ' hp' ∧ R (Mut MX hp' ρ') w' ρ' hp' x v) : Does P MX w ρ hp K r o a := by
  intro next Q hn
  rw [hrun, Oper.upon_enter]
  refine h.mono ?_
  rintro e w' ⟨v, rfl, x, b', hp', rs', ws', ρ', h1, h2, h3⟩
  exact hn _ _ _ _ _ _ _ _ h1 h2 h3

theorem run_v {o : Oper} {ρ' : Operand → Value} {s : Sem Value} {v : Value} {w' : World} (h : execOp ρ' o = (do pure (.value (← s)))) (hs : s.run P w = .ok v w') : (execOp ρ' o).run P w = .ok (.value v) w' := by
  rw [h]
  simp [hs]

theorem calleeE_sound {E : Env} (hE : EnvOk P E) {fuel : Nat} (H : HRel MX w ρ hp) {o : Oper} {c : Go.Call} (ho : o.op = .call c) {tm : Nat → AV} {a : Act} (ht : ∀ t, R (Mut MX hp ρ) w ρ hp (tm t) (a.tmps.getD t undef))
    (hk : (calleeE P E fuel c tm).go b hp rs ws K = some r) : Does P MX w ρ hp K r o a := by
  have hargs := evs_sound ht c.args.toList
  have hmap : c.args.map a.eval = (c.args.toList.map a.eval).toArray := by apply Array.ext'; simp
  unfold calleeE at hk
  simp only at hk
  split at hk
  · rename_i f hf
    have hfe := ev_sound ht f
    split at hk
    case h_2 => cases hk
    rename_i g n caps hg
    rw [hg] at hfe
    obtain ⟨vs, hv, hvs⟩ := hfe
    unfold enterE at hk
    split at hk
    case h_2 => cases hk
    rename_i s hs
    obtain ⟨s3, rs3, hsnd, hcall, hk⟩ : ∃ (s3 : Spec) (rs3 : List Nat), Sound P g s3 ∧ Callable P g ∧ (callE s3 fuel (caps.take n ++ (List.map (ev tm) c.args.toList ++ caps.drop n))).go b hp rs3 ws K = some r := by
      obtain ⟨hsnd, hcall⟩ := look_ok hE hs
      split at hk
      · exact ⟨s, _, hsnd, hcall, hk⟩
      · rename_i s2 hs2
        obtain ⟨hsnd2, hcall2⟩ := look2_ok hE hs2
        obtain ⟨x, rs', hk⟩ := outE_go _ hk
        cases x with
        | true => exact ⟨s2, _, hsnd2, hcall2, hk⟩
        | false => exact ⟨s, _, hsnd, hcall, hk⟩
    refine Does.calls (f := g) (vals := (vs.take n ++ (c.args.toList.map a.eval ++ vs.drop n)).toArray) ?_ (callE_sound H hsnd (Rs_append (Rs_take hvs n) (Rs_append hargs (Rs_drop hvs n))) hk)
    unfold Callable at hcall
    split at hcall
    case h_2 => cases hcall
    rename_i fn hfn
    simp only [Bool.and_eq_true, Bool.not_eq_true'] at hcall
    have hb : ¬ fn.body = none := by intro hb; rw [hb] at hcall; exact absurd hcall.2 (by simp)
    have hn : ¬ fn.name = "runtime.NumGoroutine" := by simpa using hcall.1
    simp [execOp, ho, resolve, hf, hv, Deferred.ofValue, invoke, callFunc, hfn]
    rw [if_neg hn, if_neg hb, hmap]
    simp
  · rename_i hf
    split at hk
    case h_2 => cases hk
    rename_i x T hx hT
    rw [hx] at hargs
    obtain ⟨vx, q, hvx, hR, hq⟩ := hargs
    cases hq
    obtain ⟨z, v, rs', h1, h2, h3⟩ := lenE_sound (ty := o.type) H hR hk
    refine Does.still H ⟨z, v, rs', h1, ?_, h3⟩
    have hT' : c.argTypes = #[T] := by rw [← Array.toArray_toList (xs := c.argTypes), hT]
    simp only [execOp, ho, resolve, hf, Sem.run_bind, Sem.run_pure, Result.andThen_ok, invoke, builtin, hmap, hvx, hT', h2]
  · rename_i hf
    split at hk
    case h_2 => cases hk
    rename_i s x T T2 hx hT
    rw [hx] at hargs
    obtain ⟨vs, q, hvs, hRs, hq⟩ := hargs
    obtain ⟨vx, q', rfl, hRx, hq'⟩ := hq
    cases hq'
    obtain ⟨z, b', hp', rs', ws', v, w', ρ', h1, h2, h3, h4⟩ := appendXE_sound (ty := o.type) H hRs hRx hk
    refine Does.value ⟨z, b', hp', rs', ws', v, w', ρ', h1, ?_, h3, h4⟩
    have hT' : c.argTypes = #[T, T2] := by rw [← Array.toArray_toList (xs := c.argTypes), hT]
    simp only [execOp, ho, resolve, hf, Sem.run_bind, Sem.run_pure, Result.andThen_ok, invoke, builtin, hmap, hvs, hT', h2]
  · rename_i hf
    split at hk
    case h_2 => cases hk
    rename_i s x T T2 hx hT
    rw [hx] at hargs
    obtain ⟨vs, q, hvs, hRs, hq⟩ := hargs
    obtain ⟨vx, q', rfl, hRx, hq'⟩ := hq
    cases hq'
    obtain ⟨z, b', hp', rs', ws', v, w', ρ', h1, h2, h3, h4⟩ := copyE_sound (T2 := T2) (ty := o.type) H hRs hRx hk
    refine Does.value ⟨z, b', hp', rs', ws', v, w', ρ', h1, ?_, h3, h4⟩
    have hT' : c.argTypes = #[T, T2] := by rw [← Array.toArray_toList (xs := c.argTypes), hT]
    simp only [execOp, ho, resolve, hf, Sem.run_bind, Sem.run_pure, Result.andThen_ok, invoke, builtin, hmap, hvs, hT', h2]
  · rename_i hf
    split at hk
    case h_2 => cases hk
    rename_i x y hx
    rw [hx] at hargs
    obtain ⟨vs, q, hvs, hRs, hq⟩ := hargs
    obtain ⟨vx, q', rfl, hRx, hq'⟩ := hq
    cases hq'
    obtain ⟨z, v, h1, h2, h3⟩ := minE_sound (P := P) (T1 := c.argTypes) (t0 := o.type) hRs hRx hk
    refine Does.still H ⟨z, v, _, h1, ?_, h3⟩
    simp only at h2
    simp only [execOp, ho, resolve, hf, Sem.run_bind, Sem.run_pure, Result.andThen_ok, invoke, builtin, hmap, hvs, h2]
  · rename_i hf
    split at hk
    case h_2 => cases hk
    rename_i x y hx
    rw [hx] at hargs
    obtain ⟨vs, q, hvs, hRs, hq⟩ := hargs
    obtain ⟨vx, q', rfl, hRx, hq'⟩ := hq
    cases hq'
    obtain ⟨z, v, h1, h2, h3⟩ := minE_sound (P := P) (T1 := c.argTypes) (t0 := o.type) hRs hRx hk
    refine Does.still H ⟨z, v, _, h1, ?_, h3⟩
    simp only at h2
    simp only [execOp, ho, resolve, hf, Sem.run_bind, Sem.run_pure, Result.andThen_ok, invoke, builtin, hmap, hvs, h2]
  · cases hk

theorem part_run {T : TypeId} {t : Bool} {n off : Nat} {us : List Value} (ha : isAgg P T = some t) (hs : sizeAt P T = some n) :
    (Go.part T us.toArray off).run P w = (match t with | true => .ok (.agg (us.toArray.extract off (off + n))) w | false => match us[off]? with | some v => .ok v w | none => .halt (.stuck "part: no such cell") w) := by
  unfold Go.part
  rw [Sem.run_bind, run_isAgg ha]
  cases t with
  | true => simp [run_sizeOf hs]
  | false =>
    simp only [Result.andThen_ok, Bool.false_eq_true, if_false]
    simp only [List.getElem?_toArray]
    cases us[off]? <;> rfl

/-- Reading a part out of a value. -/
theorem finPart_sound {M : Nat → Prop} {T : TypeId} {cs : List AV} {us : List Value} {off : Nat} (h : Rs M w ρ hp cs us) (hk : (finLoad P T cs off).go b hp rs ws K = some r) :
    ∃ x v, K x b hp rs ws = some r ∧ (Go.part T us.toArray off).run P w = .ok v w ∧ R M w ρ hp x v := by
  unfold finLoad at hk
  split at hk
  · cases hk
  rename_i n hn
  split at hk
  case h_2 => cases hk
  rename_i hle
  have hle : off + n ≤ cs.length := Nat.le_of_ble_eq_true hle
  have hl := Rs_len h
  have h' := Rs_take (Rs_drop h off) n
  rcases shut_sound h' hk with ⟨ha, hK⟩ | ⟨ha, c, v, e1, e2, hr, hK⟩
  · refine ⟨_, _, hK, part_run ha hn, _, ?_, h'⟩
    congr 1
    apply Array.ext'
    simp [List.take_drop]
  · refine ⟨c, v, hK, ?_, hr⟩
    rw [part_run ha hn]
    have : us[off]? = some v := by
      have : ((us.drop off).take n)[0]? = some v := by rw [e2]; rfl
      rw [List.getElem?_take] at this
      split at this
      · simpa using this
      · cases this
    rw [this]

theorem fieldE_sound {M : Nat → Prop} {S f : Nat} {x : AV} {vx : Value} (hx : R M w ρ hp x vx) (hk : (fieldE P S x f).go b hp rs ws K = some r) :
    ∃ x v, K x b hp rs ws = some r ∧ (Instr.field S vx f).run P w = .ok v w ∧ R M w ρ hp x v := by
  unfold fieldE at hk
  split at hk
  case h_2 => cases hk
  rename_i fs hu
  split at hk
  case h_2 => cases hk
  rename_i fd hf
  split at hk
  · rename_i cs _ hc
    obtain ⟨us, rfl, hus⟩ := hx
    cases hc
    obtain ⟨z, v, h1, h2, h3⟩ := finPart_sound (P := P) hus hk
    exact ⟨z, v, h1, by simp [Instr.field, run_underlying hu, hf, asAgg, h2], h3⟩
  · rename_i cs arr hc
    rw [show vx = _ from hx]
    cases hc
    obtain ⟨z, v, h1, h2, h3⟩ := finPart_sound (P := P) (Rs_vals (M := M) (w := w) (ρ := ρ) (hp := hp) arr.toList) hk
    exact ⟨z, v, h1, by simp at h2; simp [Instr.field, run_underlying hu, hf, asAgg, h2], h3⟩
  · cases hk

theorem sameTmp_eq {a : Act} {x y : Operand} (h : sameTmp x y = true) : a.eval x = a.eval y ∨ ∃ k k' n, a.eval x = .int k n ∧ a.eval y = .int k' n := by
  unfold sameTmp at h
  split at h
  · rw [Nat.eq_of_beq_eq_true h]; exact .inl rfl
  · rename_i k m k' n
    have := of_decide_eq_true h
    subst this
    exact .inr ⟨k, k', m, rfl, rfl⟩
  · cases h

/-- One operation. -/
theorem effOf_sound {E : Env} (hE : EnvOk P E) {fuel : Nat} (H : HRel MX w ρ hp) {o : Oper} {tm : Nat → AV} {a : Act} (ht : ∀ t, R (Mut MX hp ρ) w ρ hp (tm t) (a.tmps.getD t undef))
    (hk : (effOf P E fuel o tm).go b hp rs ws K = some r) : Does P MX w ρ hp K r o a := by
  have hev := ev_sound ht
  unfold effOf at hk
  split at hk
  · rename_i x ho
    exact Does.still H ⟨_, _, _, hk, by simp [execOp, ho], hev x⟩
  · rename_i x ho
    exact Does.still H ⟨_, _, _, hk, by simp [execOp, ho], hev x⟩
  · rename_i c x y ho
    have hc := hev c
    have key : ∀ t : Bool, a.eval c = .bool t → ((∃ z, (t = true → z = ev tm x) ∧ (t = false → z = ev tm y) ∧ K z b hp rs ws = some r) → Does P MX w ρ hp K r o a) := by
      rintro t e ⟨z, h1, h2, h3⟩
      cases t with
      | true => rw [h1 rfl] at h3; exact Does.still H ⟨_, _, _, h3, by simp [execOp, ho, e, asBool], hev x⟩
      | false => rw [h2 rfl] at h3; exact Does.still H ⟨_, _, _, h3, by simp [execOp, ho, e, asBool], hev y⟩
    split at hk
    · rename_i t hct
      rw [hct] at hc
      cases t with
      | true => exact key true hc ⟨_, fun _ => rfl, fun h => (by cases h), hk⟩
      | false => exact key false hc ⟨_, fun h => (by cases h), fun _ => rfl, hk⟩
    · rename_i t hct
      rw [hct] at hc
      simp only [Eff.go] at hk
      split at hk
      · rename_i h; subst h; exact key true hc ⟨_, fun _ => rfl, fun h => (by cases h), hk⟩
      · rename_i h
        have : t = false := by simpa using h
        subst this
        exact key false hc ⟨_, fun h => (by cases h), fun _ => rfl, hk⟩
    · rename_i t hct
      rw [hct] at hc
      simp only [Eff.go] at hk
      split at hk
      · rename_i h; subst h; exact key false hc ⟨_, fun h => (by cases h), fun _ => rfl, hk⟩
      · rename_i h
        have : t = false := by simpa using h
        subst this
        exact key true hc ⟨_, fun _ => rfl, fun h => (by cases h), hk⟩
    · rename_i p d hct
      rw [hct] at hc
      simp only [Eff.go] at hk
      split at hk
      · rename_i h; exact key true (by rw [show a.eval c = _ from hc]; simp [xorB, h]) ⟨_, fun _ => rfl, fun h => (by cases h), hk⟩
      · rename_i h; exact key false (by rw [show a.eval c = _ from hc]; simp [xorB, h]) ⟨_, fun h => (by cases h), fun _ => rfl, hk⟩
    · rename_i p d hct
      rw [hct] at hc
      simp only [Eff.go] at hk
      split at hk
      · rename_i h; exact key false (by rw [show a.eval c = _ from hc]; simp [xorB, h]) ⟨_, fun h => (by cases h), fun _ => rfl, hk⟩
      · rename_i h; exact key true (by rw [show a.eval c = _ from hc]; simp [xorB, h]) ⟨_, fun _ => rfl, fun h => (by cases h), hk⟩
    · cases hk
  · rename_i T ho
    obtain ⟨x, b', hp', rs', ws', v, w', ρ', h1, h2, h3, h4⟩ := allocE_sound H hk
    exact Does.value ⟨x, b', hp', rs', ws', v, w', ρ', h1, run_v (by simp only [execOp, ho]) h2, h3, h4⟩
  · rename_i T x ho
    obtain ⟨x, b', hp', rs', ws', v, w', ρ', h1, h2, h3, h4⟩ := boxE_sound (T := T) H (hev x) hk
    exact Does.value ⟨x, b', hp', rs', ws', v, w', ρ', h1, run_v (by simp only [execOp, ho]) h2, h3, h4⟩
  · rename_i T ps ho
    obtain ⟨x, v, h1, h2, h3⟩ := buildE_sound (P := P) (evps_sound ht ps.toList) hk
    refine Does.still H ⟨x, v, _, h1, run_v (by simp only [execOp, ho]; rfl) ?_, h3⟩
    rw [← h2]
    congr 2
    apply Array.ext'
    simp
  · rename_i T n ps ho
    obtain ⟨x, b', hp', rs', ws', v, w', ρ', h1, h2, h3, h4⟩ := (buildOneE_sound H (evps_sound ht ps.toList) hk).elim (fun ⟨_, hk⟩ => buildSliceE_sound H (evps_sound ht ps.toList) hk) id
    refine Does.value ⟨x, b', hp', rs', ws', v, w', ρ', h1, run_v (by simp only [execOp, ho]; rfl) ?_, h3, h4⟩
    rw [← h2]
    congr 2
    apply Array.ext'
    simp
  · rename_i T x ho
    obtain ⟨x, b', hp', rs', ws', v, ρ', h1, h2, h3, h4⟩ := loadE_sound H (hev x) hk
    exact Does.value ⟨x, b', hp', rs', ws', v, w, ρ', h1, run_v (by simp only [execOp, ho]) h2, h3, h4⟩
  · rename_i T x y ho
    obtain ⟨b', hp', rs', ws', w', ρ', h1, h2, h3⟩ := storeE_sound H (hev x) (hev y) hk
    intro next Q hn
    have hrun : (execOp a.eval o).run P w = .ok .skip w' := by simp only [execOp, ho, Sem.run_bind, h2, Result.andThen_ok, Sem.run_pure]
    rw [hrun, Oper.upon_skip]
    exact hn _ _ _ _ _ _ _ _ h1 h3 rfl
  · rename_i x ho
    have hx := hev x
    split at hk
    · rename_i i off hxe
      rw [hxe] at hx
      have hx' := hx
      obtain ⟨_, g, o', _, he⟩ := hx'
      exact Does.still H ⟨_, _, _, hk, by simp only [execOp, ho, he]; rfl, by rw [← he]; exact hx⟩
    · rename_i t y off hxe
      rw [hxe] at hx
      have hx' := hx
      obtain ⟨g, o', cs, he, _⟩ := hx'
      exact Does.still H ⟨_, _, _, hk, by simp only [execOp, ho, he]; rfl, by rw [← he]; exact hx⟩
    · rename_i i sz j off hxe
      rw [hxe] at hx
      have hx' := hx
      obtain ⟨_, g, n, c, _, _, he⟩ := hx'
      exact Does.still H ⟨_, _, _, hk, by simp only [execOp, ho, he]; rfl, by rw [← he]; exact hx⟩
    · rename_i f n cs hxe
      rw [hxe] at hx
      have hx' := hx
      obtain ⟨vs, he, _⟩ := hx'
      exact Does.still H ⟨_, _, _, hk, by simp only [execOp, ho, he]; rfl, by rw [← he]; exact hx⟩
    · cases hk
  · rename_i op T x y U ho
    split at hk
    · obtain ⟨z, v, h1, h2, h3⟩ := ifcE_sound (P := P) (hev x) hk
      exact Does.still H ⟨z, v, _, h1, run_v (by simp only [execOp, ho]; rfl) (h2 x), h3⟩
    · obtain ⟨z, v, h1, h2, h3⟩ := binE_sound (P := P) (hev x) (hev y) hk
      exact Does.still H ⟨z, v, _, h1, run_v (by simp only [execOp, ho]) (h2 x y), h3⟩
  · rename_i op T x ho
    obtain ⟨z, v, h1, h2, h3⟩ := unE_sound (P := P) (hev x) hk
    exact Does.still H ⟨z, v, _, h1, run_v (by simp only [execOp, ho]) h2, h3⟩
  · rename_i S T x ho
    obtain ⟨z, b', hp', rs', ws', v, w', ρ', h1, h2, h3, h4⟩ := conv2E_sound H (hev x) hk
    exact Does.value ⟨z, b', hp', rs', ws', v, w', ρ', h1, run_v (by simp only [execOp, ho]) h2, h3, h4⟩
  · rename_i T ho
    obtain ⟨z, b', hp', rs', ws', v, w', ρ', h1, h2, h3, h4⟩ := makeMapE_sound H hk
    exact Does.value ⟨z, b', hp', rs', ws', v, w', ρ', h1, run_v (s := Instr.makeMap T none) (by simp only [execOp, ho]; rfl) h2, h3, h4⟩
  · rename_i T m k x ho
    obtain ⟨b', hp', rs', ws', w', ρ', h1, h2, h3⟩ := mapPutE_sound H (hev m) (hev k) (hev x) hk
    intro next Q hn
    have hrun : (execOp a.eval o).run P w = .ok .skip w' := by simp only [execOp, ho, Sem.run_bind, h2, Result.andThen_ok, Sem.run_pure]
    rw [hrun, Oper.upon_skip]
    exact hn _ _ _ _ _ _ _ _ h1 h3 rfl
  · rename_i T m k x ho
    obtain ⟨b', hp', rs', ws', w', ρ', h1, h2, h3⟩ := mapPutE_sound H (hev m) (hev k) (hev x) hk
    intro next Q hn
    have hrun : (execOp a.eval o).run P w = .ok .skip w' := by simp only [execOp, ho, Sem.run_bind, h2, Result.andThen_ok, Sem.run_pure]
    rw [hrun, Oper.upon_skip]
    exact hn _ _ _ _ _ _ _ _ h1 h3 rfl
  · rename_i T m k ho
    obtain ⟨z, v, rs', h1, h2, h3⟩ := lookupE_sound H (hev m) (hev k) hk
    exact Does.still H ⟨z, v, rs', h1, run_v (by simp only [execOp, ho]) h2, h3⟩
  · rename_i f first cap ho
    refine Does.still H ⟨_, .func (.func f) (first.map a.eval) (cap.map a.eval), _, hk, run_v (s := Instr.makeFunc (.func f) (first.map a.eval) (cap.map a.eval)) (by simp only [execOp, ho]) rfl, (first.toList ++ cap.toList).map a.eval, ?_, evs_sound ht _⟩
    have e1 : ((first.toList ++ cap.toList).map a.eval).take first.toList.length = first.toList.map a.eval := by rw [List.map_append, ← List.length_map (f := a.eval), List.take_left]
    have e2 : ((first.toList ++ cap.toList).map a.eval).drop first.toList.length = cap.toList.map a.eval := by rw [List.map_append, ← List.length_map (f := a.eval), List.drop_left]
    rw [e1, e2]
    congr 1 <;> (apply Array.ext'; simp)
  · rename_i T n c ho
    split at hk
    case h_2 => cases hk
    rename_i hs
    obtain ⟨x, b', hp', rs', ws', v, w', ρ', h1, h2, h3, h4⟩ := makeSliceE_sound H (hev n) hk
    refine Does.value ⟨x, b', hp', rs', ws', v, w', ρ', h1, run_v (s := Instr.makeSlice T (a.eval n) (a.eval c)) (by simp only [execOp, ho]) ?_, h3, h4⟩
    rcases sameTmp_eq (a := a) hs with h | ⟨k, k', m, e1, e2⟩
    · rw [← h]; exact h2
    · rw [e1] at h2
      rw [e1, e2, ← h2]
      simp [Instr.makeSlice, asInt, asIntOf]
  · rename_i T x lo hi ho
    obtain ⟨z, b', hp', rs', ws', v, w', ρ', h1, h2, h3, h4⟩ := sliceE_sound (vlo := lo.map a.eval) (vhi := hi.map a.eval) H (hev x) (fun y hy => by
        cases lo with
        | none => cases hy
        | some l => simp at hy; subst hy; exact ⟨_, rfl, hev l⟩) (fun h => by cases lo <;> simp_all) (fun y hy => by
        cases hi with
        | none => cases hy
        | some l => simp at hy; subst hy; exact ⟨_, rfl, hev l⟩) (fun h => by cases hi <;> simp_all) hk
    exact Does.value ⟨z, b', hp', rs', ws', v, w', ρ', h1, run_v (by simp only [execOp, ho]; rfl) h2, h3, h4⟩
  · rename_i S x f ho
    obtain ⟨z, v, h1, h2, h3⟩ := fieldAddrE_sound (P := P) (hev x) hk
    exact Does.still H ⟨z, v, _, h1, run_v (by simp only [execOp, ho]) h2, h3⟩
  · rename_i S x f ho
    obtain ⟨z, v, h1, h2, h3⟩ := fieldE_sound (P := P) (hev x) hk
    exact Does.still H ⟨z, v, _, h1, run_v (by simp only [execOp, ho]) h2, h3⟩
  · rename_i T x i ho
    obtain ⟨z, v, rs', h1, h2, h3⟩ := indexAddrE_sound H (hev x) (hev i) hk
    exact Does.still H ⟨z, v, rs', h1, run_v (by simp only [execOp, ho]) h2, h3⟩
  · rename_i T x i ho
    obtain ⟨z, v, h1, h2, h3⟩ := indexE_sound (P := P) (hev x) (hev i) hk
    exact Does.still H ⟨z, v, _, h1, run_v (by simp only [execOp, ho]) h2, h3⟩
  · rename_i x i ho
    have hx := hev x
    split at hk
    case h_2 => cases hk
    rename_i cs hxe
    rw [hxe] at hx
    obtain ⟨vs, he, hvs⟩ := hx
    split at hk
    case h_2 => cases hk
    rename_i c hc
    obtain ⟨v, hv, hR⟩ := Rs_get hvs i c hc
    exact Does.still H ⟨c, v, _, hk, run_v (s := Instr.extract (a.eval x) i) (by simp only [execOp, ho]) (by rw [he]; simp [Instr.extract, hv]), hR⟩
  · rename_i c ho
    exact calleeE_sound hE H ho ht hk
  · cases hk
end
end Go.Proofs.YtbpeiilildchlaaGreatDoor.Abs
namespace Go.Proofs.YtbpeiilildchlaaGreatDoor.Abs
open Go Go.RowKit
set_option linter.unusedVariables false
set_option linter.unusedSectionVars false
set_option linter.unusedSimpArgs false

/-- What has become since the function was entered. -/
structure Since (w0 : World) (ρ0 : Nat → Value) (H0 : List HE) (w : World) (ρ : Nat → Value) (hp : Heap) : Prop where
  keep : ∀ i, i < H0.length → Old (ρ0 i) (ρ i)
  us : ∀ i, i < H0.length → hp i ≠ .unused
  off : Off (Lv (hpOf H0) ρ0) w0 w
  nwl : ∀ b, b < w0.heap.size → Lv hp ρ b → Lv (hpOf H0) ρ0 b
  bx : ∀ i cs, hpOf H0 i = .box cs → ∃ cs', hp i = .box cs' ∧ cs'.length = cs.length ∧ Inside w0 w (ρ0 i) cs.length

theorem Since.step {MX : Nat → Prop} {w0 : World} {ρ0 : Nat → Value} {H0 : List HE} {w w' : World} {ρ ρ' : Nat → Value} {hp hp' : Heap} (h : Since w0 ρ0 H0 w ρ hp) (s : Step MX w ρ hp w' ρ' hp') : Since w0 ρ0 H0 w' ρ' hp' := by
  refine ⟨fun i hi => (h.keep i hi).trans (s.old i (h.us i hi)).1, fun i hi => (s.old i (h.us i hi)).2, h.off.trans s.off h.nwl, fun b hb hl => h.nwl b hb (s.nwl b (Nat.lt_of_lt_of_le hb h.off.size) hl), fun i cs hi => ?_⟩
  obtain ⟨c1, h1, h2, h3⟩ := h.bx i cs hi
  obtain ⟨c2, g1, g2, g3⟩ := s.bx i c1 h1
  have hlt : i < H0.length := by
    rcases Nat.lt_or_ge i H0.length with h' | h'
    · exact h'
    · rw [hpOf_eq, List.getElem?_eq_none h'] at hi; cases hi
  refine ⟨c2, g1, g2.trans h2, ?_⟩
  rcases h.keep i hlt with e | ⟨⟨a, e⟩, _⟩
  · rw [e, h2] at g3
    exact h3.trans g3
  · exact fun g o e' => by rw [e] at e'; cases e'


/-- The abstract state and the machine's. -/
structure Sim (n : Nat) (MX : Nat → Prop) (w0 : World) (ρ0 : Nat → Value) (H0 : List HE) (st : St) (a : Act) (w : World) (ρ : Nat → Value) : Prop where
  rel : HRel MX w ρ st.hp
  tm : ∀ t, R (Mut MX st.hp ρ) w ρ st.hp (st.tm t) (a.tmps.getD t undef)
  size : n ≤ a.tmps.size
  defers : a.defers = []
  since : Since w0 ρ0 H0 w ρ st.hp

section
variable {Rt : Type} {P : Program} {E : Env} {k n : Nat} {MX : Nat → Prop} {w0 : World} {ρ0 : Nat → Value} {H0 : List HE}

theorem put_sound {M : Nat → Prop} {w : World} {ρ : Nat → Value} {hp : Heap} {dst : Option Tmp} {x : AV} {tm : Nat → AV} {K : (Nat → AV) → Option Rt} {r : Rt} {a : Act} {v : Value} (hs : n ≤ a.tmps.size) (ht : ∀ t, R M w ρ hp (tm t) (a.tmps.getD t undef)) (hx : R M w ρ hp x v)
    (hk : put n dst x tm K = some r) : ∃ tm', K tm' = some r ∧ (∀ t, R M w ρ hp (tm' t) ((a.put dst v).tmps.getD t undef)) ∧ n ≤ (a.put dst v).tmps.size := by
  unfold put at hk
  split at hk
  · exact ⟨tm, hk, ht, hs⟩
  · rename_i d
    split at hk
    case h_2 => cases hk
    rename_i hle
    have hle := Nat.le_of_ble_eq_true hle
    refine ⟨_, hk, fun t => ?_, by simp [Act.put]; exact hs⟩
    by_cases htd : t = d
    · subst htd
      rw [upd_same]
      have : (a.put (some t) v).tmps.getD t undef = v := by
        simp only [Act.put]
        rw [Array.getD_eq_getD_getElem?, Array.getElem?_setIfInBounds_self_of_lt (by omega)]
        rfl
      rw [this]
      exact hx
    · rw [upd_ne _ _ htd]
      have : (a.put (some d) v).tmps.getD t undef = a.tmps.getD t undef := by
        simp only [Act.put]
        rw [Array.getD_eq_getD_getElem?, Array.getD_eq_getD_getElem?, Array.getElem?_setIfInBounds_ne (fun e => htd e.symm)]
      rw [this]
      exact ht t

theorem upd_rel {M : Nat → Prop} {w : World} {ρ : Nat → Value} {hp : Heap} {tm : Nat → AV} {a : Act} {d : Nat} {x : AV} (ht : ∀ t, R M w ρ hp (tm t) (a.tmps.getD t undef)) (hx : R M w ρ hp x (a.tmps.getD d undef)) : ∀ t, R M w ρ hp (upd tm d x t) (a.tmps.getD t undef) := by
  intro t
  by_cases htd : t = d
  · subst htd; rw [upd_same]; exact hx
  · rw [upd_ne _ _ htd]; exact ht t

theorem yielded_bool {opsA : Array Oper} {tmps : Array Value} {j d : Nat} {o : Oper} {b : Bool} (ho : opsA[j]? = some o) (hd : o.dst = some d) (h : tmps.getD d undef = .bool b) : yielded opsA tmps j = some b := by
  have : tmps[d]? = some (.bool b) := by
    rw [Array.getD_eq_getD_getElem?] at h
    cases hq : tmps[d]? with
    | none => rw [hq] at h; cases h
    | some v => rw [hq] at h; simp at h; rw [h]
  simp [yielded, ho, hd, this]

theorem guarded_sound {M : Nat → Prop} {w : World} {ρ : Nat → Value} {hp : Heap} {ops : List Oper} {o : Oper} {tm : Nat → AV} {K : Bool → (Nat → AV) → Option Rt} {r : Rt} {a : Act} (ht : ∀ t, R M w ρ hp (tm t) (a.tmps.getD t undef))
    (hk : guarded ops o.guard tm K = some r) : ∃ b tm', K b tm' = some r ∧ Region.wanted o (yielded ops.toArray a.tmps) = b ∧ ∀ t, R M w ρ hp (tm' t) (a.tmps.getD t undef) := by
  unfold guarded at hk
  split at hk
  · rename_i hg
    exact ⟨true, tm, hk, by simp [Region.wanted, hg], ht⟩
  · rename_i j want hg
    split at hk
    case h_1 => cases hk
    rename_i oj hj
    split at hk
    case h_1 => cases hk
    rename_i d hd
    have hj' : ops.toArray[j]? = some oj := by simpa using hj
    have hd' := ht d
    have key : ∀ (t : Bool) (tm' : Nat → AV), a.tmps.getD d undef = .bool t → (∀ t, R M w ρ hp (tm' t) (a.tmps.getD t undef)) → K (t == want) tm' = some r → ∃ b tm', K b tm' = some r ∧ Region.wanted o (yielded ops.toArray a.tmps) = b ∧ ∀ t, R M w ρ hp (tm' t) (a.tmps.getD t undef) := by
      intro t tm' e h1 h2
      refine ⟨_, tm', h2, ?_, h1⟩
      simp [Region.wanted, hg, yielded_bool hj' hd e]
    simp only at hk
    split at hk
    · rename_i t htd
      rw [htd] at hd'
      split at hk
      · refine key true tm hd' ht ?_
        cases want <;> exact hk
      · refine key false tm hd' ht ?_
        cases want <;> exact hk
    · rename_i vs htd
      rw [htd] at hd'
      refine ⟨false, tm, hk, ?_, ht⟩
      have : yielded ops.toArray a.tmps j = none := by
        have h' : a.tmps.getD d undef = .tuple vs := hd'
        rw [Array.getD_eq_getD_getElem?] at h'
        simp only [yielded, hj', Option.bind_some, hd]
        cases hq : a.tmps[d]? with
        | none => rfl
        | some v =>
          rw [hq] at h'
          simp at h'
          subst h'
          rfl
      simp [Region.wanted, hg, this]
    · rename_i t htd
      rw [htd] at hd'
      split at hk
      · rename_i h; subst h
        refine key true _ hd' (upd_rel (x := .v (.bool true)) ht hd') ?_
        cases want <;> exact hk
      · rename_i h
        have : t = false := by simpa using h
        subst this
        refine key false _ hd' (upd_rel (x := .v (.bool false)) ht hd') ?_
        cases want <;> exact hk
    · rename_i t htd
      rw [htd] at hd'
      split at hk
      · rename_i h; subst h
        refine key false _ hd' (upd_rel (x := .v (.bool false)) ht hd') ?_
        cases want <;> exact hk
      · rename_i h
        have : t = false := by simpa using h
        subst this
        refine key true _ hd' (upd_rel (x := .v (.bool true)) ht hd') ?_
        cases want <;> exact hk
    · rename_i p dp htd
      rw [htd] at hd'
      split at hk
      · rename_i h
        have hd'' : a.tmps.getD d undef = .bool true := by rw [show a.tmps.getD d undef = _ from hd']; simp [xorB, h]
        refine key true _ hd'' (upd_rel (x := .v (.bool true)) ht hd'') ?_
        cases want <;> exact hk
      · rename_i h
        have hd'' : a.tmps.getD d undef = .bool false := by rw [show a.tmps.getD d undef = _ from hd']; simp [xorB, h]
        refine key false _ hd'' (upd_rel (x := .v (.bool false)) ht hd'') ?_
        cases want <;> exact hk
    · rename_i p dp htd
      rw [htd] at hd'
      split at hk
      · rename_i h
        have hd'' : a.tmps.getD d undef = .bool false := by rw [show a.tmps.getD d undef = _ from hd']; simp [xorB, h]
        refine key false _ hd'' (upd_rel (x := .v (.bool false)) ht hd'') ?_
        cases want <;> exact hk
      · rename_i h
        have hd'' : a.tmps.getD d undef = .bool true := by rw [show a.tmps.getD d undef = _ from hd']; simp [xorB, h]
        refine key true _ hd'' (upd_rel (x := .v (.bool true)) ht hd'') ?_
        cases want <;> exact hk
    · cases hk

/-- Operations in the order of the text. -/
theorem runOps_sound (hE : EnvOk P E) {ops : List Oper} {Q : Exit → Act → World → Prop} {K : St → Option Rt} {r : Rt} (hQ : ∀ st a w ρ, K st = some r → Sim n MX w0 ρ0 H0 st a w ρ → Q .normal a w) : (l : List Oper) → {st : St} → {a : Act} → {w : World} → {ρ : Nat → Value} → Sim n MX w0 ρ0 H0 st a w ρ →
    runOps P E k n ops l st K = some r → wpList P ops.toArray Q l a w
  | [], st, a, w, ρ, hs, hk => hQ _ _ _ _ hk hs
  | o :: l, st, a, w, ρ, hs, hk => by
    unfold runOps at hk
    obtain ⟨b, tm', hK, hw, ht⟩ := guarded_sound hs.tm hk
    unfold wpList
    rw [hw]
    cases b with
    | true =>
      simp only [if_true] at hK ⊢
      left
      refine effOf_sound hE hs.rel ht hK _ Q ?_
      intro x b' hp' rs' ws' v w' ρ' h1 h2 h3
      obtain ⟨tm2, hK2, ht2, hs2⟩ := put_sound hs.size (fun t => h2.R (ht t)) h3 h1
      exact runOps_sound hE hQ l ⟨h2.rel, ht2, hs2, by cases h : o.dst <;> simp [Act.put, hs.defers], hs.since.step h2⟩ hK2
    | false =>
      simp only [Bool.false_eq_true, if_false] at hK ⊢
      obtain ⟨tm2, hK2, ht2, hs2⟩ := put_sound hs.size ht (x := .v undef) (v := undef) rfl hK
      exact runOps_sound hE hQ l (st := ⟨tm2, st.hp, st.nx⟩) ⟨hs.rel, ht2, hs2, by cases h : o.dst <;> simp [Act.put, hs.defers], hs.since⟩ hK2

theorem region_sound (hE : EnvOk P E) {id : Nat} {ops : Array Oper} {Q : Exit → Act → World → Prop} {K : St → Option Rt} {r : Rt} (hQ : ∀ st a w ρ, K st = some r → Sim n MX w0 ρ0 H0 st a w ρ → Q .normal a w) {st : St} {a : Act} {w : World} {ρ : Nat → Value} (hs : Sim n MX w0 ρ0 H0 st a w ρ)
    (hk : runOps P E k n ops.toList ops.toList st K = some r) : (Code.region id ops false).wp P Q a w := by
  refine wp_region_list ?_
  have := runOps_sound hE hQ ops.toList hs hk
  simpa using this
end
end Go.Proofs.YtbpeiilildchlaaGreatDoor.Abs
namespace Go.Proofs.YtbpeiilildchlaaGreatDoor.Abs
open Go Go.RowKit
set_option linter.unusedVariables false
set_option linter.unusedSectionVars false
set_option linter.unusedSimpArgs false

abbrev Out := AV × Nat × Heap × List Nat × List Nat
def done : AV → Nat → Heap → List Nat → List Nat → Option Out := fun x b hp rs ws => some (x, b, hp, rs, ws)

theorem go_done {α Rt : Type} : (e : Eff α) → {b : Nat} → {hp : Heap} → {rs ws : List Nat} → {K : α → Nat → Heap → List Nat → List Nat → Option Rt} → {r : Rt} → e.go b hp rs ws K = some r →
    ∃ x b' hp' rs' ws', e.go b hp rs ws (fun x b hp rs ws => some (x, b, hp, rs, ws)) = some (x, b', hp', rs', ws') ∧ K x b' hp' rs' ws' = some r
  | .ret a, _, _, _, _, _, _, h => ⟨_, _, _, _, _, rfl, h⟩
  | .fail, _, _, _, _, _, _, h => by cases h
  | .rd i k, _, _, _, _, _, _, h => go_done (k _) h
  | .wr i x k, _, _, _, _, _, _, h => go_done k h
  | .nw x k, b, hp, _, _, _, _, h => by
    simp only [Eff.go] at h ⊢
    split at h
    · exact go_done (k b) h
    · cases h
  | .br c d t e, _, _, _, _, _, _, h => by
    simp only [Eff.go] at h ⊢
    split at h
    · rename_i hc; rw [if_pos hc]; exact go_done t h
    · rename_i hc; rw [if_neg hc]; exact go_done e h
  | .gd c d e, _, _, _, _, _, _, h => by
    simp only [Eff.go] at h ⊢
    split at h
    · exact go_done e h
    · cases h
  | .opt X o k, _, _, _, _, _, _, h => by
    simp only [Eff.go] at h ⊢
    cases ho : o with
    | none => rw [ho] at h; cases h
    | some x => rw [ho] at h; exact go_done (k x) h
  | .rdS i k, _, _, _, _, _, _, h => go_done (k _) h
  | .wrS i c k, _, _, _, _, _, _, h => go_done k h

/-- What stands at a place: 2 i: what entry i says; 2 i + 1: what of it is out. -/
def cellAt (hp : Heap) (c : Nat) : HE ⊕ Option (Nat × Nat) := if c % 2 = 0 then .inl (strip (hp (c / 2))) else .inr (outOf (hp (c / 2)))
theorem cell_even (hp : Heap) (i : Nat) : cellAt hp (2 * i) = .inl (strip (hp i)) := by
  unfold cellAt
  rw [if_pos (by omega), show 2 * i / 2 = i by omega]
theorem cell_odd (hp : Heap) (i : Nat) : cellAt hp (2 * i + 1) = .inr (outOf (hp i)) := by
  unfold cellAt
  rw [if_neg (by omega), show (2 * i + 1) / 2 = i by omega]
theorem he_join {h h' : HE} (h1 : strip h = strip h') (h2 : outOf h = outOf h') : h = h' := by
  cases h <;> cases h' <;> simp [strip, outOf] at h1 h2 ⊢ <;> (try exact h1) <;> (try exact ⟨h1.1, h1.2.1, h1.2.2.1, h1.2.2.2.1, h1.2.2.2.2.1, h1.2.2.2.2.2, h2⟩)
theorem cells_join {hp hp' : Heap} {i : Nat} (h0 : cellAt hp (2 * i) = cellAt hp' (2 * i)) (h1 : cellAt hp (2 * i + 1) = cellAt hp' (2 * i + 1)) : hp i = hp' i := by
  rw [cell_even, cell_even] at h0
  rw [cell_odd, cell_odd] at h1
  exact he_join (Sum.inl.inj h0) (Sum.inr.inj h1)
theorem cell_ne {hp : Heap} {i c : Nat} {x : HE} (h0 : c ≠ 2 * i) (h1 : c ≠ 2 * i + 1) : cellAt (upd hp i x) c = cellAt hp c := by
  unfold cellAt
  rw [upd_ne _ _ (by omega)]
theorem cell_upd {hp hp2 : Heap} {i c : Nat} {x : HE} (h : c = 2 * i ∨ c = 2 * i + 1) : cellAt (upd hp i x) c = cellAt (upd hp2 i x) c := by
  rcases h with rfl | rfl
  · rw [cell_even, cell_even, upd_same, upd_same]
  · rw [cell_odd, cell_odd, upd_same, upd_same]
theorem strip_set (c : Option (Nat × Nat)) (h : HE) : strip (setCur c h) = strip h := by cases h <;> rfl
theorem st_set {c : Option (Nat × Nat)} {h h' : HE} (e : strip h = strip h') : outOf (setCur c h) = outOf (setCur c h') := by
  cases h <;> cases h' <;> first | rfl | (simp [strip] at e)

/-- What an effect reads and writes is all that it hangs on. -/
theorem go_local {α : Type} : (e : Eff α) → {b : Nat} → {hp : Heap} → {rs ws : List Nat} → {x : α} → {b' : Nat} → {hp' : Heap} → {rs' ws' : List Nat} → e.go b hp rs ws (fun x b hp rs ws => some (x, b, hp, rs, ws)) = some (x, b', hp', rs', ws') →
    ∃ dr dw, rs' = dr ++ rs ∧ ws' = dw ++ ws ∧ (∀ h, h ∉ dw → cellAt hp' h = cellAt hp h) ∧ ∀ (hp2 : Heap) (rs1 ws1 : List Nat), (∀ h, h ∈ dr ∨ h ∈ dw → cellAt hp2 h = cellAt hp h) →
      ∃ hp2', e.go b hp2 rs1 ws1 (fun x b hp rs ws => some (x, b, hp, rs, ws)) = some (x, b', hp2', dr ++ rs1, dw ++ ws1) ∧ (∀ h, h ∈ dw → cellAt hp2' h = cellAt hp' h) ∧ ∀ h, h ∉ dw → cellAt hp2' h = cellAt hp2 h
  | .ret a, b, hp, rs, ws, _, _, _, _, _, h => by
    simp only [Eff.go, Option.some.injEq, Prod.mk.injEq] at h
    obtain ⟨rfl, rfl, rfl, rfl, rfl⟩ := h
    exact ⟨[], [], rfl, rfl, fun _ _ => rfl, fun hp2 rs1 ws1 _ => ⟨hp2, rfl, fun h hh => (by cases hh), fun _ _ => rfl⟩⟩
  | .fail, _, _, _, _, _, _, _, _, _, h => by cases h
  | .rd i k, b, hp, rs, ws, _, _, _, _, _, h => by
    simp only [Eff.go] at h
    obtain ⟨dr, dw, e1, e2, e3, e4⟩ := go_local (k (hp i)) h
    refine ⟨dr ++ [2 * i, 2 * i + 1], dw, by rw [e1]; simp, e2, e3, fun hp2 rs1 ws1 hag => ?_⟩
    obtain ⟨hp2', f1, f2, f3⟩ := e4 hp2 (2 * i :: (2 * i + 1) :: rs1) ws1 (fun h hh => hag h (hh.imp (fun h' => List.mem_append_left _ h') id))
    refine ⟨hp2', ?_, f2, f3⟩
    simp only [Eff.go]
    rw [cells_join (hag (2 * i) (.inl (by simp))) (hag (2 * i + 1) (.inl (by simp))), f1]
    simp
  | .rdS i k, b, hp, rs, ws, _, _, _, _, _, h => by
    simp only [Eff.go] at h
    obtain ⟨dr, dw, e1, e2, e3, e4⟩ := go_local (k (strip (hp i))) h
    refine ⟨dr ++ [2 * i], dw, by rw [e1]; simp, e2, e3, fun hp2 rs1 ws1 hag => ?_⟩
    obtain ⟨hp2', f1, f2, f3⟩ := e4 hp2 (2 * i :: rs1) ws1 (fun h hh => hag h (hh.imp (fun h' => List.mem_append_left _ h') id))
    refine ⟨hp2', ?_, f2, f3⟩
    have hs := hag (2 * i) (.inl (by simp))
    rw [cell_even, cell_even] at hs
    simp only [Eff.go]
    rw [Sum.inl.inj hs, f1]
    simp
  | .wr i x k, b, hp, rs, ws, _, _, hp', _, _, h => by
    simp only [Eff.go] at h
    obtain ⟨dr, dw, e1, e2, e3, e4⟩ := go_local k h
    refine ⟨dr, dw ++ [2 * i, 2 * i + 1], e1, by rw [e2]; simp, fun j hj => ?_, fun hp2 rs1 ws1 hag => ?_⟩
    · simp only [List.mem_append, List.mem_cons, List.not_mem_nil, or_false, not_or] at hj
      rw [e3 j hj.1, cell_ne hj.2.1 hj.2.2]
    · obtain ⟨hp2', f1, f2, f3⟩ := e4 (upd hp2 i x) rs1 (2 * i :: (2 * i + 1) :: ws1) (fun j hj => by
        by_cases hji : j = 2 * i ∨ j = 2 * i + 1
        · exact cell_upd hji
        · rw [cell_ne (fun e => hji (.inl e)) (fun e => hji (.inr e)), cell_ne (fun e => hji (.inl e)) (fun e => hji (.inr e))]; exact hag j (hj.imp id (fun h' => List.mem_append_left _ h')))
      refine ⟨hp2', by simp only [Eff.go]; rw [f1]; simp, fun j hj => ?_, fun j hj => ?_⟩
      · by_cases hjd : j ∈ dw
        · exact f2 j hjd
        · simp only [List.mem_append, List.mem_cons, List.not_mem_nil, or_false] at hj
          rw [f3 j hjd, e3 j hjd]
          exact cell_upd (hj.resolve_left hjd)
      · simp only [List.mem_append, List.mem_cons, List.not_mem_nil, or_false, not_or] at hj
        rw [f3 j hj.1, cell_ne hj.2.1 hj.2.2]
  | .wrS i c k, b, hp, rs, ws, _, _, hp', _, _, h => by
    simp only [Eff.go] at h
    obtain ⟨dr, dw, e1, e2, e3, e4⟩ := go_local k h
    have keep : ∀ (hp : Heap) j, j ≠ 2 * i + 1 → cellAt (upd hp i (setCur c (hp i))) j = cellAt hp j := fun hp j hj => by
      by_cases hj2 : j = 2 * i
      · subst hj2
        rw [cell_even, cell_even, upd_same, strip_set]
      · exact cell_ne hj2 hj
    refine ⟨dr ++ [2 * i], dw ++ [2 * i + 1], by rw [e1]; simp, by rw [e2]; simp, fun j hj => ?_, fun hp2 rs1 ws1 hag => ?_⟩
    · simp only [List.mem_append, List.mem_singleton, not_or] at hj
      rw [e3 j hj.1, keep hp j hj.2]
    · have hs := hag (2 * i) (.inl (by simp))
      rw [cell_even, cell_even] at hs
      have hs := Sum.inl.inj hs
      have odd : cellAt (upd hp2 i (setCur c (hp2 i))) (2 * i + 1) = cellAt (upd hp i (setCur c (hp i))) (2 * i + 1) := by
        rw [cell_odd, cell_odd, upd_same, upd_same, st_set hs]
      obtain ⟨hp2', f1, f2, f3⟩ := e4 (upd hp2 i (setCur c (hp2 i))) (2 * i :: rs1) ((2 * i + 1) :: ws1) (fun j hj => by
        by_cases hji : j = 2 * i + 1
        · subst hji; exact odd
        · rw [keep hp2 j hji, keep hp j hji]
          exact hag j (hj.imp (fun h' => List.mem_append_left _ h') (fun h' => List.mem_append_left _ h')))
      refine ⟨hp2', by simp only [Eff.go]; rw [f1]; simp, fun j hj => ?_, fun j hj => ?_⟩
      · by_cases hjd : j ∈ dw
        · exact f2 j hjd
        · simp only [List.mem_append, List.mem_singleton] at hj
          have := hj.resolve_left hjd
          subst this
          rw [f3 _ hjd, e3 _ hjd, odd]
      · simp only [List.mem_append, List.mem_singleton, not_or] at hj
        rw [f3 j hj.1, keep hp2 j hj.2]
  | .nw x k, b, hp, rs, ws, _, _, hp', _, _, h => by
    simp only [Eff.go] at h
    split at h
    case h_2 => cases h
    rename_i hu
    obtain ⟨dr, dw, e1, e2, e3, e4⟩ := go_local (k b) h
    refine ⟨dr, dw ++ [2 * b, 2 * b + 1], e1, by rw [e2]; simp, fun j hj => ?_, fun hp2 rs1 ws1 hag => ?_⟩
    · simp only [List.mem_append, List.mem_cons, List.not_mem_nil, or_false, not_or] at hj
      rw [e3 j hj.1, cell_ne hj.2.1 hj.2.2]
    · obtain ⟨hp2', f1, f2, f3⟩ := e4 (upd hp2 b x) rs1 (2 * b :: (2 * b + 1) :: ws1) (fun j hj => by
        by_cases hji : j = 2 * b ∨ j = 2 * b + 1
        · exact cell_upd hji
        · rw [cell_ne (fun e => hji (.inl e)) (fun e => hji (.inr e)), cell_ne (fun e => hji (.inl e)) (fun e => hji (.inr e))]; exact hag j (hj.imp id (fun h' => List.mem_append_left _ h')))
      have hub : hp2 b = .unused := by rw [cells_join (hag (2 * b) (.inr (by simp))) (hag (2 * b + 1) (.inr (by simp))), hu]
      refine ⟨hp2', by simp only [Eff.go]; rw [hub]; simp only []; rw [f1]; simp, fun j hj => ?_, fun j hj => ?_⟩
      · by_cases hjd : j ∈ dw
        · exact f2 j hjd
        · simp only [List.mem_append, List.mem_cons, List.not_mem_nil, or_false] at hj
          rw [f3 j hjd, e3 j hjd]
          exact cell_upd (hj.resolve_left hjd)
      · simp only [List.mem_append, List.mem_cons, List.not_mem_nil, or_false, not_or] at hj
        rw [f3 j hj.1, cell_ne hj.2.1 hj.2.2]
  | .br c d t e, b, hp, rs, ws, _, _, _, _, _, h => by
    simp only [Eff.go] at h
    split at h
    · rename_i hc
      obtain ⟨dr, dw, e1, e2, e3, e4⟩ := go_local t h
      exact ⟨dr, dw, e1, e2, e3, fun hp2 rs1 ws1 hag => by
        obtain ⟨hp2', f1, f2⟩ := e4 hp2 rs1 ws1 hag
        exact ⟨hp2', by simp only [Eff.go]; rw [if_pos hc]; exact f1, f2⟩⟩
    · rename_i hc
      obtain ⟨dr, dw, e1, e2, e3, e4⟩ := go_local e h
      exact ⟨dr, dw, e1, e2, e3, fun hp2 rs1 ws1 hag => by
        obtain ⟨hp2', f1, f2⟩ := e4 hp2 rs1 ws1 hag
        exact ⟨hp2', by simp only [Eff.go]; rw [if_neg hc]; exact f1, f2⟩⟩
  | .gd c d e, b, hp, rs, ws, _, _, _, _, _, h => by
    simp only [Eff.go] at h
    split at h
    · obtain ⟨dr, dw, e1, e2, e3, e4⟩ := go_local e h
      exact ⟨dr, dw, e1, e2, e3, fun hp2 rs1 ws1 hag => by
        obtain ⟨hp2', f1, f2⟩ := e4 hp2 rs1 ws1 hag
        exact ⟨hp2', by simp only [Eff.go]; exact f1, f2⟩⟩
    · cases h
  | .opt X o k, b, hp, rs, ws, _, _, _, _, _, h => by
    simp only [Eff.go] at h
    cases ho : o with
    | none => rw [ho] at h; cases h
    | some y =>
      rw [ho] at h
      obtain ⟨dr, dw, e1, e2, e3, e4⟩ := go_local (k y) h
      exact ⟨dr, dw, e1, e2, e3, fun hp2 rs1 ws1 hag => by
        obtain ⟨hp2', f1, f2⟩ := e4 hp2 rs1 ws1 hag
        exact ⟨hp2', by simp only [Eff.go, Option.bind_some]; exact f1, f2⟩⟩

/-- An operation hangs on what it looks at alone. -/
theorem effOf_congr {P : Program} {E : Env} {k : Nat} {o : Oper} {tm tm' : Nat → AV} (h : ∀ t, .tmp t ∈ o.op.operands → tm t = tm' t) : effOf P E k o tm = effOf P E k o tm' := by
  have hev : ∀ x, x ∈ o.op.operands → ev tm x = ev tm' x := by
    intro x hx
    cases x with
    | tmp t => exact h t hx
    | const v => rfl
    | global g => rfl
    | func f => rfl
  obtain ⟨dst, op, ty, pos, after, guard⟩ := o
  simp only at hev h
  have hps : ∀ ps : Array (Nat × Operand), (∀ p ∈ ps, p.2 ∈ op.operands) → (ps.toList.map fun p => (p.1, ev tm p.2)) = ps.toList.map fun p => (p.1, ev tm' p.2) := fun ps hp =>
    List.map_congr_left fun p hm => by rw [hev p.2 (hp p (by simpa using hm))]
  have hl : ∀ xs : Array Operand, (∀ x ∈ xs, x ∈ op.operands) → xs.toList.map (ev tm) = xs.toList.map (ev tm') := fun xs hx =>
    List.map_congr_left fun x hm => hev x (hx x (by simpa using hm))
  cases op with
  | move x => simp only [effOf]; rw [hev x (by simp [Op.operands])]
  | assign x => simp only [effOf]; rw [hev x (by simp [Op.operands])]
  | pick c a b => simp only [effOf]; rw [hev c (by simp [Op.operands]), hev a (by simp [Op.operands]), hev b (by simp [Op.operands])]
  | box t x => simp only [effOf]; rw [hev x (by simp [Op.operands])]
  | build t ps => simp only [effOf]; rw [hps ps (fun p hp => by simp only [Op.operands]; exact Array.mem_def.2 (List.mem_map.2 ⟨p, by simpa using hp, rfl⟩))]
  | buildSlice t n ps => simp only [effOf]; rw [hps ps (fun p hp => by simp only [Op.operands]; exact Array.mem_def.2 (List.mem_map.2 ⟨p, by simpa using hp, rfl⟩))]
  | load t a => simp only [effOf]; rw [hev a (by simp [Op.operands])]
  | store t a v => simp only [effOf]; rw [hev a (by simp [Op.operands]), hev v (by simp [Op.operands])]
  | nilCheck x => simp only [effOf]; rw [hev x (by simp [Op.operands])]
  | binOp op t x y u => simp only [effOf]; rw [hev x (by simp [Op.operands]), hev y (by simp [Op.operands])]
  | unOp op t x => simp only [effOf]; rw [hev x (by simp [Op.operands])]
  | convert s d x => simp only [effOf]; rw [hev x (by simp [Op.operands])]
  | makeFunc f first cap =>
    cases f with
    | func f => simp only [effOf, List.map_append]; rw [hl cap (fun x hx => by simp [Op.operands, hx]), hl first (fun x hx => by simp [Op.operands, hx])]
    | _ => rfl
  | makeSlice t n c => simp only [effOf]; rw [hev n (by simp [Op.operands])]
  | makeMap t r =>
    cases r with
    | none => rfl
    | some r => rfl
  | insert t m k v => simp only [effOf]; rw [hev m (by simp [Op.operands]), hev k (by simp [Op.operands]), hev v (by simp [Op.operands])]
  | mapUpdate t m k v => simp only [effOf]; rw [hev m (by simp [Op.operands]), hev k (by simp [Op.operands]), hev v (by simp [Op.operands])]
  | lookup t m k ok =>
    cases ok with
    | false => simp only [effOf]; rw [hev m (by simp [Op.operands]), hev k (by simp [Op.operands])]
    | true => rfl
  | slice t x lo hi mx =>
    cases mx with
    | none =>
      simp only [effOf]
      rw [hev x (by simp [Op.operands])]
      cases lo with
      | none => cases hi with
        | none => rfl
        | some y => simp only [Option.map_some, Option.map_none]; rw [hev y (by simp [Op.operands])]
      | some z => cases hi with
        | none => simp only [Option.map_some, Option.map_none]; rw [hev z (by simp [Op.operands])]
        | some y => simp only [Option.map_some]; rw [hev y (by simp [Op.operands]), hev z (by simp [Op.operands])]
    | some m => rfl
  | fieldAddr s x f => simp only [effOf]; rw [hev x (by simp [Op.operands])]
  | field s x f => simp only [effOf]; rw [hev x (by simp [Op.operands])]
  | indexAddr t x i => simp only [effOf]; rw [hev x (by simp [Op.operands]), hev i (by simp [Op.operands])]
  | index t x i => simp only [effOf]; rw [hev x (by simp [Op.operands]), hev i (by simp [Op.operands])]
  | extract x i => simp only [effOf]; rw [hev x (by simp [Op.operands])]
  | call c =>
    simp only [effOf, calleeE]
    rw [hl c.args (fun x hx => by simp [Op.operands, Call.operands, hx])]
    cases hc : c.callee with
    | value f => simp only []; rw [hev f (by simp [Op.operands, Call.operands, hc])]
    | invoke r m => rfl
    | builtin b => cases b <;> rfl
  | _ => rfl

/-- What is said of the one is said of the other. -/
def Imp (x y : AV) : Prop := ∀ (M : Nat → Prop) (w : World) (ρ : Nat → Value) (hp : Heap) (v : Value), R M w ρ hp x v → R M w ρ hp y v

/-- How a guard was decided. -/
def GuardIs (ops : List Oper) (o : Oper) (b : Bool) (tm : Nat → AV) : Prop :=
  (o.guard = none ∧ b = true) ∨ ∃ j want oj d, o.guard = some (j, want) ∧ ops[j]? = some oj ∧ oj.dst = some d ∧ ((∃ t, tm d = .v (.bool t) ∧ b = (t == want)) ∨ (∃ vs, tm d = .v (.tuple vs) ∧ b = false))

theorem guarded_inv {Rt : Type} {ops : List Oper} {o : Oper} {tm : Nat → AV} {K : Bool → (Nat → AV) → Option Rt} {r : Rt} (hk : guarded ops o.guard tm K = some r) : ∃ b tm', K b tm' = some r ∧ GuardIs ops o b tm' ∧ ∀ t, Imp (tm t) (tm' t) := by
  have refl : ∀ t, Imp (tm t) (tm t) := fun t _ _ _ _ _ h => h
  unfold guarded at hk
  split at hk
  · rename_i hg; exact ⟨true, tm, hk, .inl ⟨hg, rfl⟩, refl⟩
  · rename_i j want hg
    split at hk
    case h_1 => cases hk
    rename_i oj hj
    split at hk
    case h_1 => cases hk
    rename_i d hd
    have key : ∀ (t : Bool) (tm' : Nat → AV), tm' d = .v (.bool t) → (∀ u, Imp (tm u) (tm' u)) → K (t == want) tm' = some r → ∃ b tm', K b tm' = some r ∧ GuardIs ops o b tm' ∧ ∀ t, Imp (tm t) (tm' t) :=
      fun t tm' h1 h2 h3 => ⟨_, tm', h3, .inr ⟨j, want, oj, d, hg, hj, hd, .inl ⟨t, h1, rfl⟩⟩, h2⟩
    have ui : ∀ (x : AV), Imp (tm d) x → ∀ u, Imp (tm u) (upd tm d x u) := by
      intro x hx u
      by_cases h : u = d
      · subst h; rw [upd_same]; exact hx
      · rw [upd_ne _ _ h]; exact refl u
    simp only at hk
    split at hk
    · rename_i t htd
      split at hk
      · exact key true tm htd refl (by cases want <;> exact hk)
      · exact key false tm htd refl (by cases want <;> exact hk)
    · rename_i vs htd
      exact ⟨false, tm, hk, .inr ⟨j, want, oj, d, hg, hj, hd, .inr ⟨vs, htd, rfl⟩⟩, refl⟩
    · rename_i t htd
      split at hk
      · rename_i h; subst h
        exact key true _ (upd_same _ _ _) (ui _ (by rw [htd]; exact fun _ _ _ _ _ h => h)) (by cases want <;> exact hk)
      · rename_i h
        have : t = false := by simpa using h
        subst this
        exact key false _ (upd_same _ _ _) (ui _ (by rw [htd]; exact fun _ _ _ _ _ h => h)) (by cases want <;> exact hk)
    · rename_i t htd
      split at hk
      · rename_i h; subst h
        exact key false _ (upd_same _ _ _) (ui _ (by rw [htd]; exact fun _ _ _ _ _ h => h)) (by cases want <;> exact hk)
      · rename_i h
        have : t = false := by simpa using h
        subst this
        exact key true _ (upd_same _ _ _) (ui _ (by rw [htd]; exact fun _ _ _ _ _ h => h)) (by cases want <;> exact hk)
    · rename_i p dp htd
      split at hk
      · rename_i h
        exact key true _ (upd_same _ _ _) (ui _ (by rw [htd]; intro _ _ _ _ v hv; rw [show v = _ from hv]; simp [R, xorB, h])) (by cases want <;> exact hk)
      · rename_i h
        exact key false _ (upd_same _ _ _) (ui _ (by rw [htd]; intro _ _ _ _ v hv; rw [show v = _ from hv]; simp [R, xorB, h])) (by cases want <;> exact hk)
    · rename_i p dp htd
      split at hk
      · rename_i h
        exact key false _ (upd_same _ _ _) (ui _ (by rw [htd]; intro _ _ _ _ v hv; rw [show v = _ from hv]; simp [R, xorB, h])) (by cases want <;> exact hk)
      · rename_i h
        exact key true _ (upd_same _ _ _) (ui _ (by rw [htd]; intro _ _ _ _ v hv; rw [show v = _ from hv]; simp [R, xorB, h])) (by cases want <;> exact hk)
    · cases hk

theorem GuardIs.wanted {M : Nat → Prop} {w : World} {ρ : Nat → Value} {hp : Heap} {ops : List Oper} {o : Oper} {b : Bool} {tm : Nat → AV} {a : Act} (h : GuardIs ops o b tm) (ht : ∀ g w' oj d, o.guard = some (g, w') → ops[g]? = some oj → oj.dst = some d → R M w ρ hp (tm d) (a.tmps.getD d undef)) :
    Region.wanted o (yielded ops.toArray a.tmps) = b := by
  rcases h with ⟨hg, rfl⟩ | ⟨j, want, oj, d, hg, hj, hd, h⟩
  · simp [Region.wanted, hg]
  · have hd' := ht j want oj d hg hj hd
    have hj' : ops.toArray[j]? = some oj := by simpa using hj
    rcases h with ⟨t, e, rfl⟩ | ⟨vs, e, rfl⟩
    · rw [e] at hd'
      simp [Region.wanted, hg, yielded_bool hj' hd hd']
    · rw [e] at hd'
      have : yielded ops.toArray a.tmps j = none := by
        have h' : a.tmps.getD d undef = .tuple vs := hd'
        rw [Array.getD_eq_getD_getElem?] at h'
        simp only [yielded, hj', Option.bind_some, hd]
        cases hq : a.tmps[d]? with
        | none => rfl
        | some v => rw [hq] at h'; simp at h'; subst h'; rfl
      simp [Region.wanted, hg, this]

def putTm (dst : Option Tmp) (x : AV) (tm : Nat → AV) : Nat → AV :=
  match dst with
  | some d => upd tm d x
  | none => tm

/-- One operation of the walk in the order of the text. -/
structure Row (P : Program) (E : Env) (k n nx : Nat) (ops : List Oper) (i : Nat) (o : Oper) (T T' : Nat → AV) (h h' : Heap) (b : Bool) (tm : Nat → AV) (x : AV) (rs ws : List Nat) : Prop where
  guard : GuardIs ops o b tm
  imp : ∀ t, Imp (T t) (tm t)
  run : (b = true ∧ ∃ b', (effOf P E k o tm).go (nx + 16 * i) h [] [] (fun x b hp rs ws => some (x, b, hp, rs, ws)) = some (x, b', h', rs, ws)) ∨ (b = false ∧ x = .v undef ∧ h' = h ∧ rs = [] ∧ ws = [])
  dst : ∀ d, o.dst = some d → d < n
  next : T' = putTm o.dst x tm

theorem put_inv {Rt : Type} {n : Nat} {dst : Option Tmp} {x : AV} {tm : Nat → AV} {K : (Nat → AV) → Option Rt} {r : Rt} (hk : put n dst x tm K = some r) : (∀ d, dst = some d → d < n) ∧ K (putTm dst x tm) = some r := by
  cases dst with
  | none => exact ⟨fun d h => (by cases h), hk⟩
  | some d =>
    simp only [put] at hk
    split at hk
    case h_2 => cases hk
    rename_i hle
    have hle := Nat.le_of_ble_eq_true hle
    exact ⟨fun d' h => by injection h with h; subst h; exact hle, hk⟩

/-- The whole walk. -/
theorem runD_inv {Rt : Type} {P : Program} {E : Env} {k n nx : Nat} {ops : List Oper} {K : St → Foot → Option Rt} {r : Rt} : (l : List Oper) → {i : Nat} → {tm0 : Nat → AV} → {hp0 : Heap} → {F : Foot} → (∀ j, l[j]? = ops[i + j]?) → F.length = i →
    runD P E k n ops l i ⟨tm0, hp0, nx⟩ F K = some r →
    ∃ (T : Nat → Nat → AV) (hs : Nat → Heap) (bs : Nat → Bool) (tms : Nat → Nat → AV) (xs : Nat → AV) (F' : Foot), T i = tm0 ∧ hs i = hp0 ∧ (∀ j, j < i → F'[j]? = F[j]?) ∧ F'.length = i + l.length ∧
      (∀ j o, i ≤ j → ops[j]? = some o → ∃ rs ws, F'[j]? = some (rs, ws) ∧ Row P E k n nx ops j o (T j) (T (j + 1)) (hs j) (hs (j + 1)) (bs j) (tms j) (xs j) rs ws) ∧
      K ⟨T (i + l.length), hs (i + l.length), nx⟩ F' = some r
  | [], i, tm0, hp0, F, hl, hF, hk => by
    refine ⟨fun _ => tm0, fun _ => hp0, fun _ => true, fun _ => tm0, fun _ => .dead, F, rfl, rfl, fun _ _ => rfl, by simpa using hF, fun j o hij ho => ?_, hk⟩
    have := hl (j - i)
    rw [show i + (j - i) = j by omega, ho] at this
    simp at this
  | o :: l, i, tm0, hp0, F, hl, hF, hk => by
    unfold runD at hk
    obtain ⟨b, tm', hK, hg, himp⟩ := guarded_inv hk
    have ho : ops[i]? = some o := by simpa using (hl 0).symm
    have fin : ∃ x h' rs ws, ((b = true ∧ ∃ b', (effOf P E k o tm').go (nx + 16 * i) hp0 [] [] (fun x b hp rs ws => some (x, b, hp, rs, ws)) = some (x, b', h', rs, ws)) ∨ (b = false ∧ x = .v undef ∧ h' = hp0 ∧ rs = [] ∧ ws = [])) ∧ (∀ d, o.dst = some d → d < n) ∧
        runD P E k n ops l (i + 1) ⟨putTm o.dst x tm', h', nx⟩ (F ++ [(rs, ws)]) K = some r := by
      cases b with
      | true =>
        obtain ⟨x, b', h', rs, ws, h1, h2⟩ := go_done _ hK
        split at h2
        case h_2 => cases h2
        obtain ⟨h3, h4⟩ := put_inv h2
        exact ⟨x, h', rs, ws, .inl ⟨rfl, b', h1⟩, h3, h4⟩
      | false =>
        obtain ⟨h3, h4⟩ := put_inv hK
        exact ⟨.v undef, hp0, [], [], .inr ⟨rfl, rfl, rfl, rfl, rfl⟩, h3, h4⟩
    obtain ⟨x, h', rs, ws, hrun, hdst, hrest⟩ := fin
    obtain ⟨T, hs, bs, tms, xs, F', e1, e2, e3, e4, e5, e6⟩ := runD_inv l (i := i + 1) (fun j => by have := hl (j + 1); rw [show i + 1 + j = i + (j + 1) by omega]; simpa using this) (by simp [hF]) hrest
    have hne : ∀ {j : Nat}, i + 1 ≤ j → j ≠ i := fun h => by omega
    refine ⟨fun j => if j = i then tm0 else T j, fun j => if j = i then hp0 else hs j, fun j => if j = i then b else bs j, fun j => if j = i then tm' else tms j, fun j => if j = i then x else xs j, F', by simp, by simp, fun j hj => ?_, by rw [e4, List.length_cons]; omega, fun j oj hij hoj => ?_, ?_⟩
    · rw [e3 j (by omega), List.getElem?_append_left (by omega)]
    · by_cases hji : j = i
      · subst hji
        rw [ho] at hoj
        injection hoj with hoj
        subst hoj
        refine ⟨rs, ws, ?_, ?_⟩
        · rw [e3 j (by omega), List.getElem?_append_right (by omega), hF]; simp
        · simp only [if_true, show ¬ (j + 1 = j) by omega, if_false]
          exact ⟨hg, himp, by rw [e2]; exact hrun, hdst, e1⟩
      · obtain ⟨rs', ws', h1, h2⟩ := e5 j oj (by omega) hoj
        refine ⟨rs', ws', h1, ?_⟩
        simp only [if_neg hji, show ¬ (j + 1 = i) by omega, if_false]
        exact h2
    · have : i + (o :: l).length = i + 1 + l.length := by simp; omega
      rw [this]
      simp only [show ¬ (i + 1 + l.length = i) by omega, if_false]
      exact e6

theorem meets_false {a b : List Nat} (h : meets a b = false) : ∀ x, x ∈ a → x ∉ b := by
  induction a with
  | nil => intro x hx; cases hx
  | cons y a ih =>
    simp only [meets, Bool.or_eq_false_iff] at h
    intro x hx hxb
    rcases List.mem_cons.1 hx with e | e
    · subst e
      have : b.any (Nat.beq x) = true := List.any_eq_true.2 ⟨x, hxb, Nat.beq_refl x⟩
      rw [h.1] at this
      cases this
    · exact ih h.2 x e hxb

/-- Waits for it. -/
def WaitsOn (o : Oper) (i : Nat) : Prop := ∃ e, e ∈ o.after ∧ Region.binds .any e = true ∧ e.on = i

theorem reach_listed {ops : List Oper} {L : Nat → Prop} (hc : ∀ (j : Nat) (o : Oper), L j → ops[j]? = some o → ∀ e, e ∈ o.after → Region.binds .any e = true → L e.on) : (f : Nat) → {j i : Nat} → L j → reach ops f j i = true → L i
  | 0, _, _, _, h => by cases h
  | f + 1, j, i, hj, h => by
    unfold reach at h
    split at h
    · rename_i o ho
      obtain ⟨e, he, hb⟩ := List.any_eq_true.1 h
      simp only [Bool.and_eq_true, Bool.or_eq_true] at hb
      have hl := hc j o hj ho e (by simpa using he) hb.1
      rcases hb.2 with h2 | h2
      · rw [Nat.eq_of_beq_eq_true h2] at hl; exact hl
      · exact reach_listed hc f hl h2
    · cases h

/-- As far as the first step. -/
theorem reach_step {ops : List Oper} {L : Nat → Prop} (hc : ∀ (j : Nat) (o : Oper), L j → ops[j]? = some o → ∀ e, e ∈ o.after → Region.binds .any e = true → L e.on) {j i : Nat} {o : Oper} (ho : ops[j]? = some o) (hd : ∀ e, e ∈ o.after → Region.binds .any e = true → L e.on) : (f : Nat) → reach ops f j i = true → L i
  | 0, h => by cases h
  | f + 1, h => by
    unfold reach at h
    rw [ho] at h
    obtain ⟨e, he, hb⟩ := List.any_eq_true.1 h
    simp only [Bool.and_eq_true, Bool.or_eq_true] at hb
    have hl := hd e (by simpa using he) hb.1
    rcases hb.2 with h2 | h2
    · rw [Nat.eq_of_beq_eq_true h2] at hl; exact hl
    · exact reach_listed hc f hl h2

theorem footOk_pair {ops : List Oper} {F : Foot} (h : footOk ops F = true) {i j : Nat} {oj : Oper} {ri wi rj wj : List Nat} (hij : i < j) (hj : ops[j]? = some oj) (hi : F[i]? = some (ri, wi)) (hj' : F[j]? = some (rj, wj)) :
    WaitsOn oj i ∨ (∃ f, reach ops f j i = true) ∨ ((∀ x, x ∈ wi → x ∉ rj) ∧ (∀ x, x ∈ wi → x ∉ wj) ∧ ∀ x, x ∈ wj → x ∉ ri) := by
  have hjl : j < ops.length := lt_of_get hj
  simp only [footOk, List.all_eq_true, List.mem_range] at h
  have := h i (by omega) j hjl
  rw [hj, hi, hj'] at this
  simp only [Bool.or_eq_true, Bool.not_eq_true'] at this
  rcases this with h1 | h1 | h1 | h1
  · have : Nat.ble (i + 1) j = true := Nat.ble_eq_true_of_le hij
    rw [h1] at this; cases this
  · left
    obtain ⟨e, he, hb⟩ := List.any_eq_true.1 h1
    simp only [Bool.and_eq_true] at hb
    exact ⟨e, by simpa using he, hb.1, Nat.eq_of_beq_eq_true hb.2⟩
  · right; right
    simp only [Bool.and_eq_true, Bool.not_eq_true'] at h1
    exact ⟨meets_false h1.1.1, meets_false h1.1.2, meets_false h1.2⟩
  · exact .inr (.inl ⟨_, h1⟩)

theorem lex_from {ops : Array Oper} : (fuel k : Nat) → (listed : Array Bool) → (∀ j, j < ops.size → (listed.getD j true = true ↔ j < k)) → (∀ j, listed.getD j false = true → j < k) → listed.size = ops.size → k + fuel = ops.size → Region.lexFrom .any ops fuel k listed = true →
    ∀ i, k ≤ i → ∀ oi, ops[i]? = some oi → (∀ e, e ∈ oi.after → Region.binds .any e = true → e.on < i) ∧ ∀ j oj, i < j → ops[j]? = some oj → WaitsOn oj i ∨ oi.apart ops oj = true
  | 0, k, listed, _, _, _, hk, _, i, hi, oi, hoi => by
    have := (Array.getElem?_eq_some_iff.1 hoi).1
    omega
  | fuel + 1, k, listed, h1, h1', h2, hk, hB, i, hi, oi, hoi => by
    simp only [Region.lexFrom, Bool.and_eq_true] at hB
    obtain ⟨⟨hr, hf⟩, hB'⟩ := hB
    have hkl : k < ops.size := by omega
    by_cases hik : i = k
    · subst hik
      have hrd := mem_ready.1 (show i ∈ Region.ready .any ops listed by simpa using hr)
      obtain ⟨_, o, ho, hall⟩ := hrd
      rw [hoi] at ho
      injection ho with ho
      subst ho
      refine ⟨fun e he hb => h1' _ (hall e he hb), fun j oj hij hoj => ?_⟩
      have hjl := (Array.getElem?_eq_some_iff.1 hoj).1
      have hun : listed.getD j true = false := by
        cases hq : listed.getD j true with
        | false => rfl
        | true => have := (h1 j hjl).1 hq; omega
      by_cases hw : WaitsOn oj i
      · exact .inl hw
      · exact .inr (Region.free_spec hoi hf j oj hoj (by omega) hun (fun e he hb heq => hw ⟨e, he, hb, heq⟩))
    · refine lex_from fuel (k + 1) (listed.setIfInBounds k true) (fun j hj => ?_) (fun j hj => ?_) (by simp [h2]) (by omega) hB' i (by omega) oi hoi
      · by_cases hjk : j = k
        · subst hjk
          rw [Array.getD_eq_getD_getElem?, Array.getElem?_setIfInBounds_self_of_lt (by omega)]
          simp
        · rw [getD_set_ne true (fun e => hjk e.symm), h1 j hj]
          omega
      · by_cases hjk : j = k
        · omega
        · rw [getD_set_ne false (fun e => hjk e.symm)] at hj
          have := h1' j hj
          omega

theorem lex_pairs {ops : Array Oper} (h : Region.lexB .any ops = true) : ∀ i oi, ops[i]? = some oi → (∀ e, e ∈ oi.after → Region.binds .any e = true → e.on < i) ∧ ∀ j oj, i < j → ops[j]? = some oj → WaitsOn oj i ∨ oi.apart ops oj = true := by
  simp only [Region.lexB, Bool.and_eq_true] at h
  intro i oi hoi
  refine lex_from ops.size 0 _ (fun j hj => ?_) (fun j hj => ?_) (by simp) (by omega) h.2 i (Nat.zero_le _) oi hoi
  · rw [Array.getD_eq_getD_getElem?]
    simp [hj]
  · rw [Array.getD_eq_getD_getElem?] at hj
    by_cases hl : j < ops.size
    · simp [hl] at hj
    · simp [hl] at hj

/-! ### Any order -/
section
variable (T0 : Nat → AV) (h0 : Heap) (dstOf : Nat → Option Tmp) (xs : Nat → AV) (hs : Nat → Heap) (wsOf : Nat → List Nat)

def lastT (L : Nat → Bool) : Nat → Nat → AV
  | 0, t => T0 t
  | i + 1, t => if L i = true ∧ dstOf i = some t then xs i else lastT L i t

def lastH (L : Nat → Bool) : Nat → Nat → HE ⊕ Option (Nat × Nat)
  | 0, h => cellAt h0 h
  | i + 1, h => if L i = true ∧ h ∈ wsOf i then cellAt (hs (i + 1)) h else lastH L i h
end

theorem lastT_congr {T0 : Nat → AV} {dstOf : Nat → Option Tmp} {xs : Nat → AV} {L L' : Nat → Bool} {t : Nat} : (N : Nat) → (∀ k, k < N → dstOf k = some t → L k = L' k) → lastT T0 dstOf xs L N t = lastT T0 dstOf xs L' N t
  | 0, _ => rfl
  | i + 1, h => by
    have ih := lastT_congr (T0 := T0) (xs := xs) i (fun k hk hd => h k (by omega) hd)
    unfold lastT
    rw [ih]
    by_cases hd : dstOf i = some t
    · rw [h i (by omega) hd]
    · rw [if_neg (fun e => hd e.2), if_neg (fun e => hd e.2)]

theorem lastT_skip {T0 : Nat → AV} {dstOf : Nat → Option Tmp} {xs : Nat → AV} {L : Nat → Bool} {t i : Nat} : (N : Nat) → i ≤ N → (∀ k, i ≤ k → k < N → L k = true → dstOf k ≠ some t) → lastT T0 dstOf xs L N t = lastT T0 dstOf xs L i t
  | 0, hi, _ => by rw [show i = 0 by omega]
  | N + 1, hi, h => by
    by_cases e : i = N + 1
    · rw [e]
    · have ih := lastT_skip (T0 := T0) (xs := xs) N (by omega) (fun k h1 h2 h3 => h k h1 (by omega) h3)
      rw [← ih]
      show (if L N = true ∧ dstOf N = some t then xs N else lastT T0 dstOf xs L N t) = _
      rw [if_neg (fun e => h N (by omega) (by omega) e.1 e.2)]

theorem lastH_congr {h0 : Heap} {hs : Nat → Heap} {wsOf : Nat → List Nat} {L L' : Nat → Bool} {h : Nat} : (N : Nat) → (∀ k, k < N → h ∈ wsOf k → L k = L' k) → lastH h0 hs wsOf L N h = lastH h0 hs wsOf L' N h
  | 0, _ => rfl
  | i + 1, g => by
    have ih := lastH_congr (h0 := h0) (hs := hs) i (fun k hk hd => g k (by omega) hd)
    unfold lastH
    rw [ih]
    by_cases hd : h ∈ wsOf i
    · rw [g i (by omega) hd]
    · rw [if_neg (fun e => hd e.2), if_neg (fun e => hd e.2)]

theorem lastH_skip {h0 : Heap} {hs : Nat → Heap} {wsOf : Nat → List Nat} {L : Nat → Bool} {h i : Nat} : (N : Nat) → i ≤ N → (∀ k, i ≤ k → k < N → L k = true → h ∉ wsOf k) → lastH h0 hs wsOf L N h = lastH h0 hs wsOf L i h
  | 0, hi, _ => by rw [show i = 0 by omega]
  | N + 1, hi, g => by
    by_cases e : i = N + 1
    · rw [e]
    · have ih := lastH_skip (h0 := h0) (hs := hs) N (by omega) (fun k h1 h2 h3 => g k h1 (by omega) h3)
      rw [← ih]
      show (if L N = true ∧ h ∈ wsOf N then cellAt (hs (N + 1)) h else lastH h0 hs wsOf L N h) = _
      rw [if_neg (fun e => g N (by omega) (by omega) e.1 e.2)]

theorem apart_of {ops : Array Oper} {x y : Oper} (h : x.apart ops y = true) : (∀ d, x.dst = some d → d ∉ y.looksAt ops) ∧ (∀ d, x.dst = some d → y.dst ≠ some d) ∧ (∀ d, y.dst = some d → d ∉ x.looksAt ops) := Oper.apart_spec h

theorem looks_operand {ops : Array Oper} {o : Oper} {t : Nat} (h : .tmp t ∈ o.op.operands) : t ∈ o.looksAt ops :=
  List.mem_append_left _ (List.mem_filterMap.2 ⟨.tmp t, by simpa using h, rfl⟩)
theorem looks_guard {ops : Array Oper} {o : Oper} {g d : Nat} {w : Bool} {oj : Oper} (hg : o.guard = some (g, w)) (hj : ops[g]? = some oj) (hd : oj.dst = some d) : d ∈ o.looksAt ops := by
  refine List.mem_append_right _ ?_
  rw [hg]
  simp only [hj, Option.bind_some, hd]
  simp

section
variable {Rt : Type} {P : Program} {E : Env} {k n : Nat} {MX : Nat → Prop} {w0 : World} {ρ0 : Nat → Value} {H0 : List HE}

/-- The walk in the order of the text, as a whole. -/
structure Walk (P : Program) (E : Env) (k n nx : Nat) (ops : Array Oper) (T : Nat → Nat → AV) (hs : Nat → Heap) (bs : Nat → Bool) (tms : Nat → Nat → AV) (xs : Nat → AV) (F : Foot) : Prop where
  rows : ∀ (j : Nat) (o : Oper), ops[j]? = some o → ∃ rs ws, F[j]? = some (rs, ws) ∧ Row P E k n nx ops.toList j o (T j) (T (j + 1)) (hs j) (hs (j + 1)) (bs j) (tms j) (xs j) rs ws
  lex : ∀ (i : Nat) (oi : Oper), ops[i]? = some oi → (∀ e, e ∈ oi.after → Region.binds .any e = true → e.on < i) ∧ ∀ (j : Nat) (oj : Oper), i < j → ops[j]? = some oj → WaitsOn oj i ∨ oi.apart ops oj = true
  foot : footOk ops.toList F = true

def dstAt (ops : Array Oper) (i : Nat) : Option Tmp := (ops[i]?).bind (·.dst)
def wsAt (F : Foot) (i : Nat) : List Nat := match F[i]? with | some (_, ws) => ws | none => []

theorem Row.keeps {nx : Nat} {ops : List Oper} {i : Nat} {o : Oper} {T T' : Nat → AV} {h h' : Heap} {b : Bool} {tm : Nat → AV} {x : AV} {rs ws : List Nat} (r : Row P E k n nx ops i o T T' h h' b tm x rs ws) : ∀ j, j ∉ ws → cellAt h' j = cellAt h j := by
  rcases r.run with ⟨_, b', hr⟩ | ⟨_, _, rfl, _, rfl⟩
  · obtain ⟨dr, dw, e1, e2, e3, _⟩ := go_local _ hr
    intro j hj
    rw [List.append_nil] at e2
    exact e3 j (e2 ▸ hj)
  · exact fun _ _ => rfl

/-- The state behind some of the operations. -/
structure DInv (MX : Nat → Prop) (w0 : World) (ρ0 : Nat → Value) (H0 : List HE) (n : Nat) (ops : Array Oper) (T : Nat → Nat → AV) (hs : Nat → Heap) (xs : Nat → AV) (F : Foot) (listed : Array Bool) (a : Act) (w : World) (ρ : Nat → Value) (hpD : Heap) : Prop where
  rel : HRel MX w ρ hpD
  since : Since w0 ρ0 H0 w ρ hpD
  size : n ≤ a.tmps.size
  defers : a.defers = []
  lsize : listed.size = ops.size
  closed : ∀ (j : Nat) (o : Oper), listed.getD j false = true → ops[j]? = some o → ∀ e, e ∈ o.after → Region.binds .any e = true → listed.getD e.on false = true
  tm : ∀ t, R (Mut MX hpD ρ) w ρ hpD (lastT (T 0) (dstAt ops) xs (fun i => listed.getD i false) ops.size t) (a.tmps.getD t undef)
  hp : ∀ h, cellAt hpD h = lastH (hs 0) hs (wsAt F) (fun i => listed.getD i false) ops.size h

theorem getD_both {listed : Array Bool} {i : Nat} (h : i < listed.size) : listed.getD i true = listed.getD i false := by
  rw [Array.getD_eq_getD_getElem?, Array.getD_eq_getD_getElem?, Array.getElem?_eq_getElem h]; rfl

theorem walk_T {nx : Nat} {ops : Array Oper} {T : Nat → Nat → AV} {hs : Nat → Heap} {bs : Nat → Bool} {tms : Nat → Nat → AV} {xs : Nat → AV} {F : Foot} (W : Walk P E k n nx ops T hs bs tms xs F) (t : Nat) : (i : Nat) → i ≤ ops.size → Imp (lastT (T 0) (dstAt ops) xs (fun _ => true) i t) (T i t)
  | 0, _ => fun _ _ _ _ _ h => h
  | i + 1, hi => by
    have ih := walk_T W t i (by omega)
    obtain ⟨o, ho⟩ : ∃ o, ops[i]? = some o := ⟨_, Array.getElem?_eq_getElem (by omega)⟩
    obtain ⟨rs, ws, _, r⟩ := W.rows i o ho
    have hd : dstAt ops i = o.dst := by simp [dstAt, ho]
    unfold lastT
    rw [r.next, hd]
    by_cases h : o.dst = some t
    · rw [if_pos ⟨rfl, h⟩, h]
      simp only [putTm, upd_same]
      exact fun _ _ _ _ _ h => h
    · rw [if_neg (fun e => h e.2)]
      have : putTm o.dst (xs i) (tms i) t = tms i t := by
        cases hdd : o.dst with
        | some d => exact upd_ne _ _ (fun e => h (by rw [hdd, e]))
        | none => rfl
      rw [this]
      exact fun M w ρ hp v hv => r.imp t _ _ _ _ _ (ih M w ρ hp v hv)

theorem walk_H {nx : Nat} {ops : Array Oper} {T : Nat → Nat → AV} {hs : Nat → Heap} {bs : Nat → Bool} {tms : Nat → Nat → AV} {xs : Nat → AV} {F : Foot} (W : Walk P E k n nx ops T hs bs tms xs F) (h : Nat) : (i : Nat) → i ≤ ops.size → lastH (hs 0) hs (wsAt F) (fun _ => true) i h = cellAt (hs i) h
  | 0, _ => rfl
  | i + 1, hi => by
    have ih := walk_H W h i (by omega)
    obtain ⟨o, ho⟩ : ∃ o, ops[i]? = some o := ⟨_, Array.getElem?_eq_getElem (by omega)⟩
    obtain ⟨rs, ws, hF, r⟩ := W.rows i o ho
    unfold lastH
    by_cases hw : h ∈ wsAt F i
    · rw [if_pos ⟨rfl, hw⟩]
    · rw [if_neg (fun e => hw e.2), ih]
      have : wsAt F i = ws := by simp [wsAt, hF]
      exact (r.keeps h (this ▸ hw)).symm

theorem set_listed {listed : Array Bool} {i j : Nat} (hi : i < listed.size) : (listed.setIfInBounds i true).getD j false = (if j = i then true else listed.getD j false) := by
  by_cases h : j = i
  · subst h
    rw [if_pos rfl, Array.getD_eq_getD_getElem?, Array.getElem?_setIfInBounds_self_of_lt hi]; rfl
  · rw [if_neg h, getD_set_ne false (fun e => h e.symm)]

theorem draw_any (hE : EnvOk P E) {nx : Nat} {ops : Array Oper} {T : Nat → Nat → AV} {hs : Nat → Heap} {bs : Nat → Bool} {tms : Nat → Nat → AV} {xs : Nat → AV} {F : Foot} (W : Walk P E k n nx ops T hs bs tms xs F)
    {Q : Exit → Act → World → Prop} {nx' : Nat} (hQ : ∀ a w ρ, Sim n MX w0 ρ0 H0 ⟨T ops.size, hs ops.size, nx'⟩ a w ρ → Q .normal a w) :
    (fuel : Nat) → {un : List Nat} → {listed : Array Bool} → {a : Act} → {w : World} → {ρ : Nat → Value} → {hpD : Heap} → un.Nodup → (∀ i, i ∈ un ↔ i < ops.size ∧ listed.getD i false = false) → un.length = fuel →
    DInv MX w0 ρ0 H0 n ops T hs xs F listed a w ρ hpD → wpAny P .any ops Q fuel listed a w := by
  intro fuel
  have fin : ∀ {listed : Array Bool} {a : Act} {w : World} {ρ : Nat → Value} {hpD : Heap}, (∀ i, i < ops.size → listed.getD i false = true) → DInv MX w0 ρ0 H0 n ops T hs xs F listed a w ρ hpD → Q .normal a w := by
    intro listed a w ρ hpD hall D
    have e1 : ∀ t, lastT (T 0) (dstAt ops) xs (fun i => listed.getD i false) ops.size t = lastT (T 0) (dstAt ops) xs (fun _ => true) ops.size t := fun t => lastT_congr _ (fun k hk _ => hall k hk)
    have e2 : hpD = hs ops.size := by
      have hc : ∀ h, cellAt hpD h = cellAt (hs ops.size) h := fun h => by rw [D.hp h, lastH_congr (L' := fun _ => true) _ (fun k hk _ => hall k hk), walk_H W h _ (Nat.le_refl _)]
      funext h
      exact cells_join (hc _) (hc _)
    subst e2
    exact hQ a w ρ ⟨D.rel, fun t => walk_T W t _ (Nat.le_refl _) _ _ _ _ _ (by rw [← e1 t]; exact D.tm t), D.size, D.defers, D.since⟩
  induction fuel with
  | zero =>
    intro un listed a w ρ hpD hnd hun hlen D
    have hu0 : un = [] := List.eq_nil_of_length_eq_zero hlen
    have hall : ∀ i, i < ops.size → listed.getD i false = true := by
      intro i hi
      cases h : listed.getD i false with
      | true => rfl
      | false => have := (hun i).2 ⟨hi, h⟩; rw [hu0] at this; cases this
    refine ⟨?_, fin hall D⟩
    refine List.eq_nil_iff_forall_not_mem.2 fun j hj => ?_
    obtain ⟨h1, o, ho, _⟩ := mem_ready.1 hj
    have hjl := (Array.getElem?_eq_some_iff.1 ho).1
    rw [getD_both (by rw [D.lsize]; exact hjl), hall j hjl] at h1
    cases h1
  | succ fuel ih =>
    intro un listed a w ρ hpD hnd hun hlen D
    refine ⟨fun hre => ?_, fun i hi => ?_⟩
    · -- nothing may come up: all have come up
      refine fin (fun i hi => ?_) D
      have key : ∀ m i, i < m → i < ops.size → listed.getD i false = true := by
        intro m
        induction m with
        | zero => intro i h; omega
        | succ m ihm =>
          intro i him hi
          cases h : listed.getD i false with
          | true => rfl
          | false =>
            exfalso
            obtain ⟨o, ho⟩ : ∃ o, ops[i]? = some o := ⟨_, Array.getElem?_eq_getElem hi⟩
            have : i ∈ Region.ready .any ops listed := mem_ready.2 ⟨by rw [getD_both (by rw [D.lsize]; exact hi)]; exact h, o, ho, fun e he hb => by
              have := (W.lex i o ho).1 e he hb
              exact ihm e.on (by omega) (by omega)⟩
            rw [hre] at this
            cases this
      exact key (i + 1) i (by omega) hi
    · obtain ⟨hun1, o, ho, hall⟩ := mem_ready.1 hi
      have hil := (Array.getElem?_eq_some_iff.1 ho).1
      have hLi : listed.getD i false = false := by rw [← getD_both (by rw [D.lsize]; exact hil)]; exact hun1
      obtain ⟨rs, ws, hF, r⟩ := W.rows i o ho
      have hws : wsAt F i = ws := by simp [wsAt, hF]
      have hdi : dstAt ops i = o.dst := by simp [dstAt, ho]
      -- the others that have come up and stand behind it
      have later : ∀ j oj, i < j → ops[j]? = some oj → listed.getD j false = true → ¬ WaitsOn oj i := by
        rintro j oj _ hoj hL ⟨e, he, hb, hon⟩
        have := D.closed j oj hL hoj e he hb
        rw [hon, hLi] at this
        cases this
      have looked : ∀ t, t ∈ o.looksAt ops → lastT (T 0) (dstAt ops) xs (fun i => listed.getD i false) ops.size t = lastT (T 0) (dstAt ops) xs (fun _ => true) i t := by
        intro t ht
        rw [lastT_skip (i := i) ops.size (by omega) (fun j h1 h2 h3 hd => ?_)]
        · refine lastT_congr i (fun j hj hd => ?_)
          obtain ⟨oj, hoj⟩ : ∃ oj, ops[j]? = some oj := ⟨_, Array.getElem?_eq_getElem (by omega)⟩
          have hd' : oj.dst = some t := by rw [← hd]; simp [dstAt, hoj]
          rcases (W.lex j oj hoj).2 i o hj ho with ⟨e, he, hb, hon⟩ | hap
          · have := hall e he hb
            rw [hon] at this
            exact this
          · exact absurd ht ((apart_of hap).1 t hd')
        · by_cases hji : j = i
          · subst hji; rw [hLi] at h3; cases h3
          · obtain ⟨oj, hoj⟩ : ∃ oj, ops[j]? = some oj := ⟨_, Array.getElem?_eq_getElem (by omega)⟩
            have hd' : oj.dst = some t := by rw [← hd]; simp [dstAt, hoj]
            rcases (W.lex i o ho).2 j oj (by omega) hoj with hw | hap
            · exact later j oj (by omega) hoj h3 hw
            · exact (apart_of hap).2.2 t hd' ht
      have tmOk : ∀ t, t ∈ o.looksAt ops → R (Mut MX hpD ρ) w ρ hpD (tms i t) (a.tmps.getD t undef) := fun t ht =>
        r.imp t _ _ _ _ _ (walk_T W t i (by omega) _ _ _ _ _ (by rw [← looked t ht]; exact D.tm t))
      have footL : ∀ j oj rj wj, i < j → ops[j]? = some oj → F[j]? = some (rj, wj) → listed.getD j false = true → (∀ x, x ∈ ws → x ∉ wj) ∧ ∀ x, x ∈ wj → x ∉ rs := by
        intro j oj rj wj hij hoj hFj hL
        rcases footOk_pair W.foot hij (by simpa using hoj) hF hFj with hw | ⟨f, hf⟩ | h
        · exact absurd hw (later j oj hij hoj hL)
        · have := reach_listed (L := fun j => listed.getD j false = true) (fun j o h1 h2 => D.closed j o h1 (by simpa using h2)) f hL hf
          rw [hLi] at this
          cases this
        · exact h.2
      have touched : ∀ h, h ∈ rs ∨ h ∈ ws → cellAt hpD h = cellAt (hs i) h := by
        intro h hh
        rw [D.hp h, lastH_skip (i := i) ops.size (by omega) (fun j h1 h2 h3 hw => ?_)]
        · rw [lastH_congr (L' := fun _ => true) i (fun j hj hw => ?_), walk_H W h i (by omega)]
          obtain ⟨oj, hoj⟩ : ∃ oj, ops[j]? = some oj := ⟨_, Array.getElem?_eq_getElem (by omega)⟩
          obtain ⟨rj, wj, hFj, _⟩ := W.rows j oj hoj
          have hw' : h ∈ wj := by simpa [wsAt, hFj] using hw
          rcases footOk_pair W.foot hj (by simpa using ho) hFj hF with ⟨e, he, hb, hon⟩ | ⟨f, hf⟩ | ⟨g1, g2, _⟩
          · have := hall e he hb
            rw [hon] at this
            exact this
          · exact reach_step (L := fun j => listed.getD j false = true) (fun j o h1 h2 => D.closed j o h1 (by simpa using h2)) (by simpa using ho) hall f hf
          · rcases hh with hh | hh
            · exact absurd hh (g1 h hw')
            · exact absurd hh (g2 h hw')
        · by_cases hji : j = i
          · subst hji; rw [hLi] at h3; cases h3
          · obtain ⟨oj, hoj⟩ : ∃ oj, ops[j]? = some oj := ⟨_, Array.getElem?_eq_getElem (by omega)⟩
            obtain ⟨rj, wj, hFj, _⟩ := W.rows j oj hoj
            have hw' : h ∈ wj := by simpa [wsAt, hFj] using hw
            obtain ⟨g1, g2⟩ := footL j oj rj wj (by omega) hoj hFj h3
            rcases hh with hh | hh
            · exact g2 h hw' hh
            · exact g1 h hh hw'
      -- what holds behind it
      have hset := fun j => set_listed (listed := listed) (i := i) (j := j) (by rw [D.lsize]; exact hil)
      have after : ∀ (v : Value) (w' : World) (ρ' : Nat → Value) (hp' : Heap), Step MX w ρ hpD w' ρ' hp' → R (Mut MX hp' ρ') w' ρ' hp' (xs i) v → (∀ h, h ∈ ws → cellAt hp' h = cellAt (hs (i + 1)) h) → (∀ h, h ∉ ws → cellAt hp' h = cellAt hpD h) →
          wpAny P .any ops Q fuel (listed.setIfInBounds i true) (a.put o.dst v) w' := by
        intro v w' ρ' hp' hstep hv hh1 hh2
        refine ih (un := un.erase i) (hnd.erase i) (fun j => ?_) (by rw [List.length_erase_of_mem ((hun i).2 ⟨hil, hLi⟩), hlen]; rfl) (ρ := ρ') (hpD := hp') ?_
        · rw [List.Nodup.mem_erase_iff hnd, hun j, hset j]
          by_cases hji : j = i
          · simp [hji]
          · simp [hji]
        · refine ⟨hstep.rel, D.since.step hstep, ?_, by cases h : o.dst <;> simp [Act.put, D.defers], by simp [D.lsize], fun j oj hL hoj e he hb => ?_, fun t => ?_, fun h => ?_⟩
          · cases h : o.dst <;> simp [Act.put, D.size]
          · rw [hset] at hL ⊢
            by_cases hon : e.on = i
            · rw [if_pos hon]
            · rw [if_neg hon]
              by_cases hji : j = i
              · subst hji
                rw [ho] at hoj
                injection hoj with hoj
                subst hoj
                exact hall e he hb
              · rw [if_neg hji] at hL
                exact D.closed j oj hL hoj e he hb
          · by_cases hd : o.dst = some t
            · have e1 : lastT (T 0) (dstAt ops) xs (fun j => (listed.setIfInBounds i true).getD j false) ops.size t = xs i := by
                rw [lastT_skip (i := i + 1) ops.size (by omega) (fun j h1 h2 h3 hdj => ?_)]
                · unfold lastT
                  rw [if_pos ⟨by rw [hset, if_pos rfl], by rw [hdi]; exact hd⟩]
                · obtain ⟨oj, hoj⟩ : ∃ oj, ops[j]? = some oj := ⟨_, Array.getElem?_eq_getElem (by omega)⟩
                  have hd' : oj.dst = some t := by rw [← hdj]; simp [dstAt, hoj]
                  rw [hset, if_neg (by omega)] at h3
                  rcases (W.lex i o ho).2 j oj (by omega) hoj with hw | hap
                  · exact later j oj (by omega) hoj h3 hw
                  · exact (apart_of hap).2.1 t hd hd'
              rw [e1]
              have hn : t < n := r.dst t hd
              have hsz := D.size
              have : (a.put o.dst v).tmps.getD t undef = v := by
                rw [hd]
                simp only [Act.put]
                rw [Array.getD_eq_getD_getElem?, Array.getElem?_setIfInBounds_self_of_lt (by omega)]
                rfl
              rw [this]
              exact hv
            · have e1 : lastT (T 0) (dstAt ops) xs (fun j => (listed.setIfInBounds i true).getD j false) ops.size t = lastT (T 0) (dstAt ops) xs (fun j => listed.getD j false) ops.size t := by
                refine lastT_congr _ (fun j hj hdj => ?_)
                rw [hset]
                by_cases hji : j = i
                · subst hji; rw [hdi] at hdj; exact absurd hdj hd
                · rw [if_neg hji]
              rw [e1]
              have : (a.put o.dst v).tmps.getD t undef = a.tmps.getD t undef := by
                cases hd2 : o.dst with
                | none => rfl
                | some d =>
                  simp only [Act.put]
                  rw [Array.getD_eq_getD_getElem?, Array.getD_eq_getD_getElem?, Array.getElem?_setIfInBounds_ne (fun e => hd (by rw [hd2, e]))]
              rw [this]
              exact hstep.R (D.tm t)
          · by_cases hw : h ∈ ws
            · rw [hh1 h hw, lastH_skip (i := i + 1) ops.size (by omega) (fun j h1 h2 h3 hwj => ?_)]
              · unfold lastH
                rw [if_pos ⟨by rw [hset, if_pos rfl], by rw [hws]; exact hw⟩]
              · obtain ⟨oj, hoj⟩ : ∃ oj, ops[j]? = some oj := ⟨_, Array.getElem?_eq_getElem (by omega)⟩
                obtain ⟨rj, wj, hFj, _⟩ := W.rows j oj hoj
                have hw' : h ∈ wj := by simpa [wsAt, hFj] using hwj
                rw [hset, if_neg (by omega)] at h3
                exact (footL j oj rj wj (by omega) hoj hFj h3).1 h hw hw'
            · rw [hh2 h hw, D.hp h]
              refine (lastH_congr _ (fun j hj hwj => ?_)).symm
              rw [hset]
              by_cases hji : j = i
              · subst hji; rw [hws] at hwj; exact absurd hwj hw
              · rw [if_neg hji]
      have hwant := r.guard.wanted (M := Mut MX hpD ρ) (w := w) (ρ := ρ) (hp := hpD) (a := a) (fun g w' oj d hg hj hd => tmOk d (looks_guard hg (by simpa using hj) hd))
      unfold wpOp
      simp only [ho]
      rw [show Region.wanted o (yielded ops a.tmps) = bs i from by simpa using hwant]
      rcases r.run with ⟨hb, b', hrun⟩ | ⟨hb, hx, hh, hr0, hw0⟩
      · rw [if_pos hb]
        left
        obtain ⟨dr, dw, e1, e2, e3, e4⟩ := go_local _ hrun
        rw [List.append_nil] at e1 e2
        subst e1 e2
        obtain ⟨hp2, f1, f2, f3⟩ := e4 hpD [] [] touched
        let tmU : Nat → AV := fun t => if t ∈ o.looksAt ops then tms i t else lastT (T 0) (dstAt ops) xs (fun i => listed.getD i false) ops.size t
        have htm : ∀ t, R (Mut MX hpD ρ) w ρ hpD (tmU t) (a.tmps.getD t undef) := by
          intro t
          by_cases ht : t ∈ o.looksAt ops
          · simp only [tmU, if_pos ht]; exact tmOk t ht
          · simp only [tmU, if_neg ht]; exact D.tm t
        have hcong : effOf P E k o tmU = effOf P E k o (tms i) := effOf_congr fun t ht => by simp only [tmU, if_pos (looks_operand (ops := ops) ht)]
        rw [← hcong] at f1
        refine effOf_sound hE D.rel htm f1 _ Q ?_
        intro x b2 hp' rs' ws' v w' ρ' h1 h2 h3
        simp only [Option.some.injEq, Prod.mk.injEq] at h1
        obtain ⟨rfl, rfl, rfl, _, _⟩ := h1
        exact after v w' ρ' _ h2 h3 f2 f3
      · rw [if_neg (by rw [hb]; simp)]
        subst hw0
        exact after undef w ρ hpD (Step.refl D.rel) (by rw [hx]; exact rfl) (fun h hh => by cases hh) (fun _ _ => rfl)

theorem region_draw_sound (hm : P.follows .mixedOrders = true) (hE : EnvOk P E) {id : Nat} {ops : Array Oper} (hB : Region.lexB .any ops = true) {Q : Exit → Act → World → Prop} {K : St → Option Rt} {r : Rt}
    (hQ : ∀ st a w ρ, K st = some r → Sim n MX w0 ρ0 H0 st a w ρ → Q .normal a w) {st : St} {a : Act} {w : World} {ρ : Nat → Value} (hs : Sim n MX w0 ρ0 H0 st a w ρ)
    (hk : runD P E k n ops.toList ops.toList 0 st [] (fun st' F => match footOk ops.toList F with | true => K { st' with nx := st.nx + 16 * ops.toList.length } | false => none) = some r) : (Code.region id ops true).wp P Q a w := by
  refine wp_region_any hm ?_
  obtain ⟨tm0, hp0, nx⟩ := st
  obtain ⟨T, hss, bs, tms, xs, F, e1, e2, _, _, e5, e6⟩ := runD_inv ops.toList (i := 0) (fun j => by rw [Nat.zero_add]) rfl hk
  simp only at e6
  split at e6
  case h_2 => cases e6
  rename_i hfoot
  rw [Nat.zero_add] at e6
  have hlen : ops.toList.length = ops.size := by simp
  rw [hlen] at e6
  have W : Walk P E k n nx ops T hss bs tms xs F := ⟨fun j o ho => e5 j o (Nat.zero_le _) (by simpa using ho), lex_pairs hB, hfoot⟩
  have hd := Step.drew hs.rel
  refine draw_any hE W (nx' := nx + 16 * ops.size) (fun a w ρ hsim => hQ _ a w ρ e6 hsim) ops.size (un := List.range ops.size) List.nodup_range (fun i => ?_) (by simp) (ρ := ρ) (hpD := hp0) ?_
  · rw [List.mem_range]
    by_cases hi : i < ops.size
    · simp [hi, Array.getD_eq_getD_getElem?]
    · simp [hi]
  · have hfalse : ∀ i, (Array.replicate ops.size false).getD i false = false := by
      intro i
      rw [Array.getD_eq_getD_getElem?]
      by_cases hi : i < ops.size
      · simp [hi]
      · simp [hi]
    refine ⟨hd.rel, hs.since.step hd, hs.size, hs.defers, by simp, fun j o hL => (by rw [hfalse] at hL; cases hL), fun t => ?_, fun h => ?_⟩
    · rw [lastT_skip (i := 0) ops.size (Nat.zero_le _) (fun j _ _ h => by rw [hfalse] at h; cases h)]
      unfold lastT
      rw [e1]
      exact hd.R (hs.tm t)
    · rw [lastH_skip (i := 0) ops.size (Nat.zero_le _) (fun j _ _ h => by rw [hfalse] at h; cases h)]
      unfold lastH
      rw [e2]
end
end Go.Proofs.YtbpeiilildchlaaGreatDoor.Abs
namespace Go.Proofs.YtbpeiilildchlaaGreatDoor.Abs
open Go Go.RowKit
set_option linter.unusedVariables false
set_option linter.unusedSectionVars false
set_option linter.unusedSimpArgs false

def er : TI → Item
  | .code c _ => .code c
  | .inBlock id => .inBlock id
  | .inLoop c _ => .inLoop c

theorem csz_pos : (c : Code) → 0 < csz c
  | .seq _ _ => Nat.succ_pos _
  | .cond _ _ _ => Nat.succ_pos _
  | .block _ _ => Nat.succ_pos _
  | .loop _ => Nat.succ_pos _
  | .skip => Nat.one_pos
  | .region _ _ _ => Nat.one_pos
  | .rangeFunc _ _ _ _ => Nat.one_pos
  | .exit _ => Nat.one_pos
  | .scope _ => Nat.one_pos
  | .label _ => Nat.one_pos
  | .goto _ => Nat.one_pos
  | .ret => Nat.one_pos
  | .refuse _ => Nat.one_pos

theorem beq_self (q : Nat) : Nat.beq q q = true := Nat.beq_refl q
theorem beq_ne {q p : Nat} (h : q ≠ p) : Nat.beq q p = false := by
  cases hb : Nat.beq q p with
  | true => exact absurd (Nat.eq_of_beq_eq_true hb) h
  | false => rfl
theorem ble_no {q p : Nat} (h : ¬ p ≤ q) : Nat.ble p q = false := by
  cases hb : Nat.ble p q with
  | true => exact absurd (Nat.le_of_ble_eq_true hb) h
  | false => rfl
theorem ble_yes {q p : Nat} (h : p ≤ q) : Nat.ble p q = true := Nat.ble_eq_true_of_le h

theorem tk_self (c : Code) (p : Nat) (t : List TI) : tk c p t p = some (.code c p :: t) := by
  unfold tk
  rw [beq_self]

theorem tk_seq {a b : Code} {p q : Nat} {t : List TI} (h : q ≠ p) : tk (.seq a b) p t q = if p + 1 + csz a ≤ q then tk b (p + 1 + csz a) t q else tk a (p + 1) (.code b (p + 1 + csz a) :: t) q := by
  rw [tk, beq_ne h]
  by_cases hl : p + 1 + csz a ≤ q
  · rw [if_pos hl, ble_yes hl]
  · rw [if_neg hl, ble_no hl]
theorem tk_cond {o : Operand} {a b : Code} {p q : Nat} {t : List TI} (h : q ≠ p) : tk (.cond o a b) p t q = if p + 1 + csz a ≤ q then tk b (p + 1 + csz a) t q else tk a (p + 1) t q := by
  rw [tk, beq_ne h]
  by_cases hl : p + 1 + csz a ≤ q
  · rw [if_pos hl, ble_yes hl]
  · rw [if_neg hl, ble_no hl]
theorem tk_block {id : Nat} {a : Code} {p q : Nat} {t : List TI} (h : q ≠ p) : tk (.block id a) p t q = tk a (p + 1) (.inBlock id :: t) q := by
  rw [tk, beq_ne h]
theorem tk_loop {a : Code} {p q : Nat} {t : List TI} (h : q ≠ p) : tk (.loop a) p t q = tk a (p + 1) (.inLoop a p :: t) q := by
  rw [tk, beq_ne h]

theorem tk_trans : (c0 : Code) → {p0 : Nat} → {t0 : List TI} → {p : Nat} → {c : Code} → {p' : Nat} → {t : List TI} → tk c0 p0 t0 p = some (.code c p' :: t) →
    p' = p ∧ p0 ≤ p ∧ p + csz c ≤ p0 + csz c0 ∧ ∀ q, p ≤ q → q < p + csz c → tk c0 p0 t0 q = tk c p t q := by
  intro c0
  have base : ∀ (c0 : Code) {p0 : Nat} {t0 : List TI} {p : Nat} {c : Code} {p' : Nat} {t : List TI}, p = p0 → tk c0 p0 t0 p = some (.code c p' :: t) → p' = p ∧ p0 ≤ p ∧ p + csz c ≤ p0 + csz c0 ∧ ∀ q, p ≤ q → q < p + csz c → tk c0 p0 t0 q = tk c p t q := by
    intro c0 p0 t0 p c p' t e h
    subst e
    rw [tk_self] at h
    injection h with h
    injection h with h1 h2
    injection h1 with h1 h3
    subst h1 h2 h3
    exact ⟨rfl, Nat.le_refl _, Nat.le_refl _, fun _ _ _ => rfl⟩
  induction c0 with
  | seq a b iha ihb =>
    intro p0 t0 p c p' t h
    by_cases e : p = p0
    · exact base _ e h
    · rw [tk_seq e] at h
      split at h
      · rename_i hl
        obtain ⟨h1, h2, h3, h4⟩ := ihb h
        refine ⟨h1, by omega, by simp only [csz]; omega, fun q hq1 hq2 => ?_⟩
        rw [tk_seq (by omega), if_pos (by omega)]
        exact h4 q hq1 hq2
      · rename_i hl
        obtain ⟨h1, h2, h3, h4⟩ := iha h
        refine ⟨h1, by omega, by simp only [csz]; omega, fun q hq1 hq2 => ?_⟩
        rw [tk_seq (by omega), if_neg (by omega)]
        exact h4 q hq1 hq2
  | cond o a b iha ihb =>
    intro p0 t0 p c p' t h
    by_cases e : p = p0
    · exact base _ e h
    · rw [tk_cond e] at h
      split at h
      · rename_i hl
        obtain ⟨h1, h2, h3, h4⟩ := ihb h
        refine ⟨h1, by omega, by simp only [csz]; omega, fun q hq1 hq2 => ?_⟩
        rw [tk_cond (by omega), if_pos (by omega)]
        exact h4 q hq1 hq2
      · rename_i hl
        obtain ⟨h1, h2, h3, h4⟩ := iha h
        refine ⟨h1, by omega, by simp only [csz]; omega, fun q hq1 hq2 => ?_⟩
        rw [tk_cond (by omega), if_neg (by omega)]
        exact h4 q hq1 hq2
  | block id a iha =>
    intro p0 t0 p c p' t h
    by_cases e : p = p0
    · exact base _ e h
    · rw [tk_block e] at h
      obtain ⟨h1, h2, h3, h4⟩ := iha h
      refine ⟨h1, by omega, by simp only [csz]; omega, fun q hq1 hq2 => ?_⟩
      rw [tk_block (by omega)]
      exact h4 q hq1 hq2
  | loop a iha =>
    intro p0 t0 p c p' t h
    by_cases e : p = p0
    · exact base _ e h
    · rw [tk_loop e] at h
      obtain ⟨h1, h2, h3, h4⟩ := iha h
      refine ⟨h1, by omega, by simp only [csz]; omega, fun q hq1 hq2 => ?_⟩
      rw [tk_loop (by omega)]
      exact h4 q hq1 hq2
  | _ =>
    intro p0 t0 p c p' t h
    by_cases e : p = p0
    · exact base _ e h
    · unfold tk at h
      rw [beq_ne e] at h
      cases h

/-- What is still to be done is what the numbers say. -/
def Fits (body : Code) : List TI → Prop
  | [] => True
  | .code c p :: t => tk body 0 [] p = some (.code c p :: t) ∧ Fits body t
  | .inLoop c p :: t => tk body 0 [] p = some (.code (.loop c) p :: t) ∧ Fits body t
  | .inBlock _ :: t => Fits body t

theorem fits_sub {body c : Code} {p : Nat} {t : List TI} (h : tk body 0 [] p = some (.code c p :: t)) {q : Nat} {x : TI} {t' : List TI} (h1 : p ≤ q) (h2 : q < p + csz c) (h3 : tk c p t q = some (x :: t')) : tk body 0 [] q = some (x :: t') := by
  rw [(tk_trans body h).2.2.2 q h1 h2, h3]

theorem fits_seq {body a b : Code} {p : Nat} {t : List TI} (h : Fits body (.code (.seq a b) p :: t)) : Fits body (.code a (p + 1) :: .code b (p + 1 + csz a) :: t) := by
  have ha := csz_pos a
  have hb := csz_pos b
  refine ⟨fits_sub h.1 (by omega) (by simp only [csz]; omega) ?_, fits_sub h.1 (by omega) (by simp only [csz]; omega) ?_, h.2⟩
  · rw [tk_seq (by omega), if_neg (by omega), tk_self]
  · rw [tk_seq (by omega), if_pos (by omega), tk_self]
theorem fits_cond {body a b : Code} {o : Operand} {p : Nat} {t : List TI} (h : Fits body (.code (.cond o a b) p :: t)) : Fits body (.code a (p + 1) :: t) ∧ Fits body (.code b (p + 1 + csz a) :: t) := by
  have ha := csz_pos a
  have hb := csz_pos b
  refine ⟨⟨fits_sub h.1 (by omega) (by simp only [csz]; omega) ?_, h.2⟩, fits_sub h.1 (by omega) (by simp only [csz]; omega) ?_, h.2⟩
  · rw [tk_cond (by omega), if_neg (by omega), tk_self]
  · rw [tk_cond (by omega), if_pos (by omega), tk_self]
theorem fits_block {body a : Code} {id p : Nat} {t : List TI} (h : Fits body (.code (.block id a) p :: t)) : Fits body (.code a (p + 1) :: .inBlock id :: t) := by
  have ha := csz_pos a
  refine ⟨fits_sub h.1 (by omega) (by simp only [csz]; omega) ?_, h.2⟩
  rw [tk_block (by omega), tk_self]
theorem fits_loop {body a : Code} {p : Nat} {t : List TI} (h : Fits body (.code (.loop a) p :: t)) : Fits body (.code a (p + 1) :: .inLoop a p :: t) := by
  have ha := csz_pos a
  refine ⟨fits_sub h.1 (by omega) (by simp only [csz]; omega) ?_, h.1, h.2⟩
  rw [tk_loop (by omega), tk_self]
theorem fits_exit {body : Code} {id : Nat} : {t t' : List TI} → Fits body t → exitA id t = some t' → Fits body t' ∧ exitTo id (t.map er) = some (t'.map er)
  | [], _, _, h => by cases h
  | .inBlock i :: t, t', hf, h => by
    unfold exitA at h
    simp only [List.map_cons, er, exitTo]
    split at h
    · rename_i hb
      have := Nat.eq_of_beq_eq_true hb
      subst this
      injection h with h
      subst h
      exact ⟨hf, by simp⟩
    · rename_i hb
      obtain ⟨h1, h2⟩ := fits_exit (t := t) hf h
      refine ⟨h1, ?_⟩
      have : (i == id) = false := by
        cases hq : i == id with
        | false => rfl
        | true => rw [beq_iff_eq] at hq; subst hq; rw [beq_self] at hb; cases hb
      rw [this]
      exact h2
  | .code c p :: t, t', hf, h => by
    obtain ⟨h1, h2⟩ := fits_exit (t := t) hf.2 h
    exact ⟨h1, h2⟩
  | .inLoop c p :: t, t', hf, h => by
    obtain ⟨h1, h2⟩ := fits_exit (t := t) hf.2 h
    exact ⟨h1, h2⟩

/-- From here the function ends as it should. -/
def Fine (P : Program) (b : Frame) (todo : List Item) (a : Act) (w : World) (Rr : Ending → World → Prop) : Prop :=
  ∀ cs, ∃ e w' fr, Rr e w' ∧ Comes P (lone (b.at a todo) cs w) (lone fr cs w') e ∧ fr.fn = b.fn ∧ fr.leaving P w' e

theorem Fine.step {P : Program} {b : Frame} {todo todo' : List Item} {a a' : Act} {w w' : World} {Rr : Ending → World → Prop} (h : ∀ cs, Steps P (lone (b.at a todo) cs w) (lone (b.at a' todo') cs w')) (g : Fine P b todo' a' w' Rr) : Fine P b todo a w Rr := by
  intro cs
  obtain ⟨e, w2, fr, h1, h2, h3⟩ := g cs
  exact ⟨e, w2, fr, h1, Comes.of_steps (h cs) h2, h3⟩

theorem Fine.wp {P : Program} {b : Frame} {c : Code} {todo : List Item} {a : Act} {w : World} {Rr : Ending → World → Prop} (h : c.wp P (fun e a' w' => e = .normal ∧ Fine P b todo a' w' Rr) a w) : Fine P b (.code c :: todo) a w Rr := by
  intro cs
  obtain ⟨e, a', w', ⟨rfl, hq⟩, harr⟩ := h b todo cs
  obtain ⟨e, w2, fr, h1, h2, h3⟩ := hq cs
  exact ⟨e, w2, fr, h1, Comes.of_steps harr h2, h3⟩

/-! ### Entries that came in, results, points -/
section
variable {MX : Nat → Prop} {w w0 : World} {ρ ρ0 : Nat → Value} {hp : Heap} {H0 : List HE} {n0 : Nat}

/-- Places that are kept for what came in. -/
def dK (ρ : Nat → Value) (n0 : Nat) : Nat → Value := fun k => if k < n0 then ρ k else .slice none 0 0

def IC.held : IC → Bool
  | .drop => false
  | _ => true

/-- What may be kept: a row or a map. -/
def Kp (h : HE) : Prop := (∃ e t l, h = .row e t l) ∨ (∃ t f, h = .mp t f) ∨ ∃ o fr e be t l, h = .tre o fr e be t l none
/-- .. or what may be forgotten. -/
def Kq (h : HE) : Prop := Kp h ∨ ∃ o fr e be t l cur, h = .tre o fr e be t l cur
theorem Kp.live {h : HE} (k : Kp h) : Abs.live h := by
  rcases k with ⟨e, t, l, rfl⟩ | ⟨t, f, rfl⟩ | ⟨o, fr, e, be, t, l, rfl⟩ <;> trivial
theorem Kp.ne {h : HE} (k : Kp h) : h ≠ .unused ∧ ∀ cs, h ≠ .box cs := by
  rcases k with ⟨e, t, l, rfl⟩ | ⟨t, f, rfl⟩ | ⟨o, fr, e, be, t, l, rfl⟩ <;> simp
theorem Kq.ne {h : HE} (k : Kq h) : h ≠ .unused ∧ ∀ cs, h ≠ .box cs := by
  rcases k with k | ⟨o, fr, e, be, t, l, cur, rfl⟩
  · exact k.ne
  · simp
/-- Where it stands bears no offset. -/
theorem Kp.shift {M : Nat → Prop} {w : World} {ρ : Nat → Value} {hp : Heap} {i : Nat} {h : HE} (k : Kp h) (ok : HEok M w ρ hp i h) : Abs.shift (ρ i) 0 = ρ i := by
  rcases k with ⟨e, t, l, rfl⟩ | ⟨t, f, rfl⟩ | ⟨o, fr, e, be, t, l, rfl⟩
  rotate_left
  rotate_left
  · obtain ⟨v0, ss, us, xs, ht⟩ := ok
    rcases ht.pl with e | ⟨_, _, _, e⟩ <;> rw [e] <;> rfl
  · obtain ⟨xs, g1, _⟩ := ok
    rcases g1.2 with h | ⟨g, cap, cur, h, _⟩
    · rw [h.1]; rfl
    · rw [h]; rfl
  · obtain ⟨b, g1, _⟩ := ok
    rw [g1]; rfl
theorem Kp.ms {MX : Nat → Prop} {w : World} {ρ ρ' : Nat → Value} {hp hp' : Heap} {lent : List Nat} {i : Nat} {h : HE} (k : Kp h) (e : ρ' i = ρ i) (ok : HEok (Mut MX hp ρ) w ρ hp i h) : HEok (Ms MX ρ hp lent) w ρ' hp' i h := by
  rcases k with ⟨e', t, l, rfl⟩ | ⟨t, f, rfl⟩ | ⟨o, fr, e', be, t, l, rfl⟩
  rotate_left
  rotate_left
  · obtain ⟨v0, ss, us, xs, ht⟩ := ok
    exact ⟨v0, ss, us, xs, ht.none_ (fun _ _ h => h.1) e⟩
  · obtain ⟨xs, g1, g2⟩ := ok
    exact ⟨xs, by rw [e]; exact g1, Els.imp (fun _ _ h => KR_step (D := fun _ => False) (Off.refl _ _) (fun _ _ h => h.elim) (fun _ _ h => h.1) t h) g2⟩
  · obtain ⟨b, g1, g2⟩ := ok
    exact ⟨b, by rw [e]; exact g1, g2⟩

theorem startM_get : (rc0 : List IC) → (i j : Nat) → (startM rc0 i)[j]? = (rc0[j]?).map fun o => match o.held with | true => some (i + j, 0) | false => none
  | [], i, j => by simp [startM]
  | .drop :: r, i, 0 => by simp [startM, IC.held]
  | .keep :: r, i, 0 => by simp [startM, IC.held]
  | .box _ :: r, i, 0 => by simp [startM, IC.held]
  | .drop :: r, i, j + 1 => by
    simp only [startM, List.getElem?_cons_succ]
    rw [startM_get r (i + 1) j, show i + 1 + j = i + (j + 1) by omega]
  | .keep :: r, i, j + 1 => by
    simp only [startM, List.getElem?_cons_succ]
    rw [startM_get r (i + 1) j, show i + 1 + j = i + (j + 1) by omega]
  | .box _ :: r, i, j + 1 => by
    simp only [startM, List.getElem?_cons_succ]
    rw [startM_get r (i + 1) j, show i + 1 + j = i + (j + 1) by omega]
theorem startM_len : (rc0 : List IC) → (i : Nat) → (startM rc0 i).length = rc0.length
  | [], _ => rfl
  | .drop :: r, i => by simp [startM, startM_len r]
  | .keep :: r, i => by simp [startM, startM_len r]
  | .box _ :: r, i => by simp [startM, startM_len r]

theorem needRows_some {Rt α : Type} {b : Nat} {ws : List Nat} {K : α → Nat → Heap → List Nat → List Nat → Option Rt} {r : Rt} {k : Eff α} : (l : List IC) → {i : Nat} → {rs : List Nat} → (needRows l i k).go b hp rs ws K = some r →
    ∃ rs', k.go b hp rs' ws K = some r ∧ ∀ (j : Nat), l[j]? = some .keep → Kp (hp (i + j))
  | [], i, rs, hk => ⟨rs, hk, fun j h => by simp at h⟩
  | .drop :: l, i, rs, hk => by
    obtain ⟨rs', h1, h2⟩ := needRows_some (k := k) l hk
    refine ⟨rs', h1, fun j hj => ?_⟩
    cases j with
    | zero => simp at hj
    | succ j => rw [show i + (j + 1) = i + 1 + j by omega]; exact h2 j (by simpa using hj)
  | .box _ :: l, i, rs, hk => by
    obtain ⟨rs', h1, h2⟩ := needRows_some (k := k) l hk
    refine ⟨rs', h1, fun j hj => ?_⟩
    cases j with
    | zero => simp at hj
    | succ j => rw [show i + (j + 1) = i + 1 + j by omega]; exact h2 j (by simpa using hj)
  | .keep :: l, i, rs, hk => by
    simp only [needRows, Eff.go] at hk
    have key : Kp (hp i) → (needRows l (i + 1) k).go b hp (2 * i :: (2 * i + 1) :: rs) ws K = some r → ∃ rs', k.go b hp rs' ws K = some r ∧ ∀ (j : Nat), (IC.keep :: l)[j]? = some .keep → Kp (hp (i + j)) := by
      intro hkp hk
      obtain ⟨rs', h1, h2⟩ := needRows_some (k := k) l hk
      refine ⟨rs', h1, fun j hj => ?_⟩
      cases j with
      | zero => exact hkp
      | succ j => rw [show i + (j + 1) = i + 1 + j by omega]; exact h2 j (by simpa using hj)
    split at hk
    case h_4 => cases hk
    · rename_i e t m hrow
      exact key (.inl ⟨e, t, m, hrow⟩) hk
    · rename_i t f hrow
      exact key (.inr (.inl ⟨t, f, hrow⟩)) hk
    · rename_i o fr e be t l hrow
      exact key (.inr (.inr ⟨o, fr, e, be, t, l, hrow⟩)) hk

theorem PI_start {d : Nat → Value} (rc0 : List IC) (hb : ∀ i o, rc0[i]? = some o → o.held = true → live (hp i)) : PI MX w ρ d hp (start0 rc0) := by
  have hH : ∀ (k : Nat) (h : HE), (start0 rc0).H[k]? = some h → h = .gone := by
    intro k h hk
    simp only [start0, List.getElem?_map] at hk
    cases hr : rc0[k]? with
    | none => rw [hr] at hk; cases hk
    | some o => rw [hr] at hk; simp at hk; exact hk.symm
  have hm : ∀ (k i off : Nat), (start0 rc0).m[k]? = some (some (i, off)) → i = k ∧ off = 0 ∧ ∃ o, rc0[k]? = some o ∧ o.held = true := by
    intro k i off h
    simp only [start0] at h
    rw [startM_get] at h
    cases hr : rc0[k]? with
    | none => rw [hr] at h; cases h
    | some o =>
      rw [hr] at h
      simp only [Option.map_some] at h
      split at h
      · rename_i hh
        injection h with h
        injection h with h
        injection h with h1 h2
        exact ⟨by omega, by omega, o, rfl, hh⟩
      · cases h
  refine ⟨by simp [start0, startM_len], fun k h hk => by rw [hH k h hk]; exact ⟨by simp, trivial⟩, fun k h hk hl => by rw [hH k h hk] at hl; exact hl.elim, fun k k' i off off' h1 h2 => ?_, fun k i off h hmem => (by cases hmem), fun i hi => (by cases hi), fun k i off h => ?_, fun k i off h h1 h2 => .inl (hH k h h2)⟩
  · have := (hm k i off h1).1
    have := (hm k' i off' h2).1
    omega
  · obtain ⟨rfl, _, o, hr, ho⟩ := hm k i off h
    exact hb _ o hr ho

theorem packIn_sound {Rt α : Type} (H : HRel MX w ρ hp) {d : Nat → Value} (hd : ∀ k, n0 ≤ k → d k = .slice none 0 0) {b : Nat} {ws : List Nat} {K : α → Nat → Heap → List Nat → List Nat → Option Rt} {r : Rt} : (l : List IC) → {i : Nat} → {s : PS} → {rs : List Nat} → {k : PS → Eff α} → PI MX w ρ d hp s → n0 ≤ s.m.length → i + l.length ≤ s.H.length →
    (∀ (j : Nat) (o : IC), l[j]? = some o → o.held = true → s.m[i + j]? = some (some (i + j, 0)) ∧ s.H[i + j]? = some .gone) → (packIn l i s k).go b hp rs ws K = some r →
    ∃ s' rs', (k s').go b hp rs' ws K = some r ∧ PI MX w ρ d hp s' ∧ n0 ≤ s'.m.length ∧ (∃ q, s'.m = s.m ++ q) ∧ s.H.length ≤ s'.H.length ∧ (∀ (j : Nat), j < i → s'.H[j]? = s.H[j]?) ∧
      (∀ (j : Nat) (rcs : List RC), l[j]? = some (.box rcs) → ∃ cs cs', hp (i + j) = .box cs ∧ cs.length = rcs.length ∧ s'.H[i + j]? = some (.box cs') ∧ cs'.length = rcs.length) ∧
      (∀ (j : Nat), l[j]? = some .drop → s'.H[i + j]? = s.H[i + j]?) ∧
      (∀ (j : Nat), l[j]? = some .keep → Kp (hp (i + j)) ∧ s'.H[i + j]? = some (hp (i + j)))
  | [], i, s, rs, k, hi, hn, hl, hm, hk => ⟨s, rs, hk, hi, hn, ⟨[], by simp⟩, Nat.le_refl _, fun _ _ => rfl, fun j rcs h => by simp at h, fun j h => by simp at h, fun j h => by simp at h⟩
  | .drop :: l, i, s, rs, k, hi, hn, hl, hm, hk => by
    unfold packIn at hk
    obtain ⟨s', rs', h1, h2, h3, h4, h5, h6, h7, h8, h9⟩ := packIn_sound H hd l hi hn (by simp at hl; omega) (fun j o hj ho => by
      have := hm (j + 1) o (by simpa using hj) ho
      rwa [show i + (j + 1) = i + 1 + j by omega] at this) hk
    refine ⟨s', rs', h1, h2, h3, h4, h5, fun j hj => h6 j (by omega), fun j rcs hj => ?_, fun j hj => ?_, fun j hj => ?_⟩
    · cases j with
      | zero => simp at hj
      | succ j => rw [show i + (j + 1) = i + 1 + j by omega]; exact h7 j rcs (by simpa using hj)
    · cases j with
      | zero => exact h6 i (by omega)
      | succ j => rw [show i + (j + 1) = i + 1 + j by omega]; exact h8 j (by simpa using hj)
    · cases j with
      | zero => simp at hj
      | succ j => rw [show i + (j + 1) = i + 1 + j by omega]; exact h9 j (by simpa using hj)
  | .keep :: l, i, s, rs, k, hi, hn, hl, hm, hk => by
    simp only [packIn, Eff.go] at hk
    have hkp : Kp (hp i) ∧ (packIn l (i + 1) { s with H := s.H.set i (hp i) } k).go b hp (2 * i :: (2 * i + 1) :: rs) ws K = some r := by
      split at hk
      case h_4 => cases hk
      · rename_i e t m hrow
        rw [hrow]
        exact ⟨.inl ⟨e, t, m, rfl⟩, hk⟩
      · rename_i t f hrow
        rw [hrow]
        exact ⟨.inr (.inl ⟨t, f, rfl⟩), hk⟩
      · rename_i o fr e be t l hrow
        rw [hrow]
        exact ⟨.inr (.inr ⟨o, fr, e, be, t, l, rfl⟩), hk⟩
    clear hk
    obtain ⟨hkp, hk⟩ := hkp
    obtain ⟨hmi, hgi⟩ := hm 0 .keep rfl rfl
    rw [Nat.add_zero] at hmi hgi
    have hok := H.ok i
    have hrho : rhoS ρ d s.m i = ρ i := by
      unfold rhoS
      rw [hmi]
      exact hkp.shift hok
    obtain ⟨p1, p2⟩ := PI_set (h := hp i) hi hgi hkp.ne.1 (fun _ => .inl ⟨i, 0, hmi, hkp.live⟩) (fun i' off' hm' => by
      rw [hmi] at hm'
      injection hm' with hm'
      injection hm' with hm'
      injection hm' with e1 e2
      subst e1 e2
      exact .inr (.inr (.inl ⟨rfl, rfl, hkp.ne.2⟩))) (hkp.ms hrho hok)
    obtain ⟨s', rs', h1, h2, h3, h4, h5, h6, h7, h8, h9⟩ := packIn_sound H hd l (i := i + 1) p1 hn (by simp at hl ⊢; omega) (fun j o hj ho => by
      have h' := hm (j + 1) o (by simpa using hj) ho
      rw [show i + (j + 1) = i + 1 + j by omega] at h'
      exact ⟨h'.1, by simp only []; rw [List.getElem?_set_ne (by omega)]; exact h'.2⟩) hk
    refine ⟨s', rs', h1, h2, h3, h4, by simpa using h5, fun j hj => ?_, fun j rcs' hj => ?_, fun j hj => ?_, fun j hj => ?_⟩
    · rw [h6 j (by omega)]
      simp only []
      rw [List.getElem?_set_ne (by omega)]
    · cases j with
      | zero => simp at hj
      | succ j => rw [show i + (j + 1) = i + 1 + j by omega]; exact h7 j rcs' (by simpa using hj)
    · cases j with
      | zero => simp at hj
      | succ j =>
        rw [show i + (j + 1) = i + 1 + j by omega, h8 j (by simpa using hj)]
        simp only []
        rw [List.getElem?_set_ne (by omega)]
    · cases j with
      | zero =>
        rw [Nat.add_zero]
        refine ⟨hkp, ?_⟩
        rw [h6 i (by omega)]
        simp only []
        rw [List.getElem?_set_self (lt_of_get hgi)]
      | succ j => rw [show i + (j + 1) = i + 1 + j by omega]; exact h9 j (by simpa using hj)
  | .box rcs :: l, i, s, rs, k, hi, hn, hl, hm, hk => by
    unfold packIn at hk
    simp only [Eff.go] at hk
    split at hk
    case h_2 => cases hk
    rename_i cs hbox
    split at hk
    case h_2 => cases hk
    rename_i hlen
    have hlen := Nat.eq_of_beq_eq_true hlen
    have hok := H.ok i
    rw [hbox] at hok
    obtain ⟨g, o, C, e, vs, g1, g2, g3, g4⟩ := hok
    obtain ⟨cs', s1, rs1, hK1, f1, f2, f3⟩ := pks_sound H hd rcs hi hn g3 hk
    obtain ⟨hmi, hgi⟩ := hm 0 (.box rcs) rfl rfl
    rw [Nat.add_zero] at hmi hgi
    obtain ⟨q, hq⟩ := f2.m
    have hil : i < s.H.length := by simp at hl; omega
    have hmi1 : s1.m[i]? = some (some (i, 0)) := by rw [hq, List.getElem?_append_left (by rw [hi.len]; exact hil)]; exact hmi
    have hgi1 : s1.H[i]? = some .gone := by rw [f2.H i hil]; exact hgi
    have hrho : rhoS ρ d s1.m i = .pointer (some ⟨g, o, none⟩) := by
      unfold rhoS
      rw [hmi1]
      simp only [g1, shift, Nat.add_zero]
    have hl3 := Rs_len f3
    have hlv := Rs_len g3
    obtain ⟨p1, p2⟩ := PI_set (h := .box cs') f1 hgi1 (by simp) (fun _ => .inl ⟨i, 0, hmi1, by rw [hbox]; trivial⟩) (fun i' off' hm' => by
      rw [hmi1] at hm'
      injection hm' with hm'
      injection hm' with hm'
      injection hm' with e1 e2
      subst e1 e2
      exact .inr (.inl ⟨cs', cs, rfl, hbox, by omega⟩)) ⟨g, o, C, e, vs, hrho, g2, f3, g4⟩
    have hs1 : n0 ≤ s1.m.length := by rw [hq]; simp; omega
    have hle1 := f2.le
    obtain ⟨s', rs', h1, h2, h3, h4, h5, h6, h7, h8, h9⟩ := packIn_sound H hd l (i := i + 1) p1 hs1 (by simp at hl ⊢; omega) (fun j o hj ho => by
      have h' := hm (j + 1) o (by simpa using hj) ho
      rw [show i + (j + 1) = i + 1 + j by omega] at h'
      have hlt : i + 1 + j < s.H.length := lt_of_get h'.2
      refine ⟨?_, ?_⟩
      · simp only []
        rw [hq, List.getElem?_append_left (by rw [hi.len]; exact hlt)]; exact h'.1
      · simp only []
        rw [List.getElem?_set_ne (by omega), f2.H _ hlt]; exact h'.2) hK1
    refine ⟨s', rs', h1, h2, h3, ?_, ?_, fun j hj => ?_, fun j rcs' hj => ?_, fun j hj => ?_, fun j hj => ?_⟩
    · obtain ⟨q2, hq2⟩ := h4
      exact ⟨q ++ q2, by rw [hq2]; simp only []; rw [hq, List.append_assoc]⟩
    · simp at h5; omega
    · rw [h6 j (by omega)]
      simp only []
      rw [List.getElem?_set_ne (by omega), f2.H j (by omega)]
    · cases j with
      | zero =>
        simp at hj
        subst hj
        refine ⟨cs, cs', by rw [Nat.add_zero]; exact hbox, hlen.symm, ?_, ?_⟩
        · rw [Nat.add_zero, h6 i (by omega)]
          simp only []
          rw [List.getElem?_set_self (lt_of_get hgi1)]
        · omega
      | succ j => rw [show i + (j + 1) = i + 1 + j by omega]; exact h7 j rcs' (by simpa using hj)
    · cases j with
      | zero => simp at hj
      | succ j =>
        have hj' : l[j]? = some .drop := by simpa using hj
        have hlt : i + 1 + j < s.H.length := by have := lt_of_get hj'; simp at hl; omega
        rw [show i + (j + 1) = i + 1 + j by omega, h8 j hj']
        simp only []
        rw [List.getElem?_set_ne (by omega), f2.H _ hlt]
    · cases j with
      | zero => simp at hj
      | succ j => rw [show i + (j + 1) = i + 1 + j by omega]; exact h9 j (by simpa using hj)

/-- The packed state is one that the function may go on from. -/
theorem packed {d : Nat → Value} (H : HRel MX w ρ hp) {s : PS} (hi : PI MX w ρ d hp s) : HRel MX w (rhoS ρ d s.m) (hpOf s.H) ∧ (∀ b, b < w.heap.size → Mut MX (hpOf s.H) (rhoS ρ d s.m) b → Ms MX ρ hp s.lent b) ∧ ∀ b, Lv (hpOf s.H) (rhoS ρ d s.m) b → Lv hp ρ b := by
  have src : ∀ k b, live (hpOf s.H k) → At (rhoS ρ d s.m k) b → ∃ i off, s.m[k]? = some (some (i, off)) ∧ live (hp i) ∧ At (ρ i) b := by
    intro k b hl hb
    have hne : hpOf s.H k ≠ .unused := fun e => by rw [e] at hl; exact hl
    rcases hi.src k _ (hpOf_get hne) hl with ⟨i, off, h1, h2⟩ | h1
    · refine ⟨i, off, h1, h2, ?_⟩
      exact at_src h1 hb
    · exact (h1 _ hb).elim
  have hlv : ∀ b, Lv (hpOf s.H) (rhoS ρ d s.m) b → Lv hp ρ b := fun b ⟨k, hl, hb⟩ => by
    obtain ⟨i, off, _, h2, h3⟩ := src k b hl hb
    exact ⟨i, h2, h3⟩
  have hM : ∀ b, b < w.heap.size → Mut MX (hpOf s.H) (rhoS ρ d s.m) b → Ms MX ρ hp s.lent b := by
    rintro b hb (hm | ⟨k, hl, hbk⟩)
    · refine ⟨.inl hm, fun ⟨j, hj, hbj⟩ => ?_⟩
      exact H.ext j b (hi.rows j hj) hbj hm
    · obtain ⟨i, off, h1, h2, h3⟩ := src k b hl hbk
      refine ⟨.inr ⟨i, h2, h3⟩, fun ⟨j, hj, hbj⟩ => ?_⟩
      have := H.sep i j b h2 (hi.rows j hj) h3 hbj
      subst this
      exact hi.apart k i off h1 hj
  refine ⟨⟨fun k => ?_, fun k k' b hl hl' hb hb' => ?_, fun k b hl hb hm => ?_, H.mx, H.tb.next (D := fun _ => False) (Off.refl _ _) (fun _ _ h => h.elim) (fun b _ hl => hlv b hl)⟩, hM, hlv⟩
  · by_cases hne : hpOf s.H k = .unused
    · rw [hne]; trivial
    · exact HEok_step (D := fun _ => False) (Off.refl _ _) (fun _ _ h => h.elim) hM (fun i hi => ⟨Old.refl _, hi⟩) rfl (fun _ _ _ h => h) (hi.ok k _ (hpOf_get hne)).2
  · obtain ⟨i, off, h1, h2, h3⟩ := src k b hl hb
    obtain ⟨i', off', h1', h2', h3'⟩ := src k' b hl' hb'
    have := H.sep i i' b h2 h2' h3 h3'
    subst this
    exact hi.inj k k' i off off' h1 h1'
  · obtain ⟨i, off, h1, h2, h3⟩ := src k b hl hb
    exact H.ext i b h2 h3 hm

theorem shape_get : {rc0 : List IC} → {H : List HE} → shapeOk rc0 H = true → rc0.length = H.length ∧ (∀ (i : Nat) (rcs : List RC), rc0[i]? = some (.box rcs) → ∃ cs, H[i]? = some (.box cs) ∧ cs.length = rcs.length) ∧ (∀ (i : Nat) o, rc0[i]? = some o → o.kind ≠ 2 → ∃ h, Kq h ∧ H[i]? = some h)
  | [], [], _ => ⟨rfl, fun i rcs h => by simp at h, fun i o h => by simp at h⟩
  | .box rcs :: r, .box cs :: H, h => by
    simp only [shapeOk, Bool.and_eq_true] at h
    obtain ⟨h1, h2, h3⟩ := shape_get h.2
    refine ⟨by simp [h1], fun i rcs' hi => ?_, fun i o hi ho => ?_⟩
    · cases i with
      | zero => simp at hi; subst hi; exact ⟨cs, rfl, (Nat.eq_of_beq_eq_true h.1).symm⟩
      | succ i => simpa using h2 i rcs' (by simpa using hi)
    · cases i with
      | zero => simp at hi; subst hi; exact (ho rfl).elim
      | succ i => simpa using h3 i o (by simpa using hi) ho
  | .drop :: r, .row e t l :: H, h => by
    obtain ⟨h1, h2, h3⟩ := shape_get (rc0 := r) (H := H) h
    refine ⟨by simp [h1], fun i rcs' hi => ?_, fun i o hi ho => ?_⟩
    · cases i with
      | zero => simp at hi
      | succ i => simpa using h2 i rcs' (by simpa using hi)
    · cases i with
      | zero => exact ⟨_, .inl (.inl ⟨e, t, l, rfl⟩), rfl⟩
      | succ i => simpa using h3 i o (by simpa using hi) ho
  | .keep :: r, .row e t l :: H, h => by
    obtain ⟨h1, h2, h3⟩ := shape_get (rc0 := r) (H := H) h
    refine ⟨by simp [h1], fun i rcs' hi => ?_, fun i o hi ho => ?_⟩
    · cases i with
      | zero => simp at hi
      | succ i => simpa using h2 i rcs' (by simpa using hi)
    · cases i with
      | zero => exact ⟨_, .inl (.inl ⟨e, t, l, rfl⟩), rfl⟩
      | succ i => simpa using h3 i o (by simpa using hi) ho
  | .keep :: r, .mp t f :: H, h => by
    obtain ⟨h1, h2, h3⟩ := shape_get (rc0 := r) (H := H) h
    refine ⟨by simp [h1], fun i rcs' hi => ?_, fun i o hi ho => ?_⟩
    · cases i with
      | zero => simp at hi
      | succ i => simpa using h2 i rcs' (by simpa using hi)
    · cases i with
      | zero => exact ⟨_, .inl (.inr (.inl ⟨t, f, rfl⟩)), rfl⟩
      | succ i => simpa using h3 i o (by simpa using hi) ho
  | .drop :: r, .tre o1 fr e be t l cur :: H, h => by
    obtain ⟨h1, h2, h3⟩ := shape_get (rc0 := r) (H := H) h
    refine ⟨by simp [h1], fun i rcs' hi => ?_, fun i o hi ho => ?_⟩
    · cases i with
      | zero => simp at hi
      | succ i => simpa using h2 i rcs' (by simpa using hi)
    · cases i with
      | zero => exact ⟨_, .inr ⟨o1, fr, e, be, t, l, cur, rfl⟩, rfl⟩
      | succ i => simpa using h3 i o (by simpa using hi) ho
  | .keep :: r, .tre o1 fr e be t l none :: H, h => by
    obtain ⟨h1, h2, h3⟩ := shape_get (rc0 := r) (H := H) h
    refine ⟨by simp [h1], fun i rcs' hi => ?_, fun i o hi ho => ?_⟩
    · cases i with
      | zero => simp at hi
      | succ i => simpa using h2 i rcs' (by simpa using hi)
    · cases i with
      | zero => exact ⟨_, .inl (.inr (.inr ⟨o1, fr, e, be, t, l, rfl⟩)), rfl⟩
      | succ i => simpa using h3 i o (by simpa using hi) ho
  | .keep :: _, .tre _ _ _ _ _ _ (some _) :: _, h => by cases h
  | .box _ :: _, .tre _ _ _ _ _ _ _ :: _, h => by cases h
  | .box _ :: _, .mp _ _ :: _, h => by cases h
  | .box _ :: _, .bts _ :: _, h => by cases h
  | .box _ :: _, .bld _ _ :: _, h => by cases h
  | .drop :: _, .bld _ _ :: _, h => by cases h
  | .keep :: _, .bld _ _ :: _, h => by cases h
  | .drop :: _, .mp _ _ :: _, h => by cases h
  | .drop :: _, .bts _ :: _, h => by cases h
  | .keep :: _, .bts _ :: _, h => by cases h
  | [], _ :: _, h => by cases h
  | .drop :: _, [], h => by cases h
  | .keep :: _, [], h => by cases h
  | .box _ :: _, [], h => by cases h
  | .box _ :: _, .unused :: _, h => by cases h
  | .box _ :: _, .gone :: _, h => by cases h
  | .box _ :: _, .row _ _ _ :: _, h => by cases h
  | .box _ :: _, .frz _ _ :: _, h => by cases h
  | .drop :: _, .unused :: _, h => by cases h
  | .drop :: _, .gone :: _, h => by cases h
  | .drop :: _, .box _ :: _, h => by cases h
  | .drop :: _, .frz _ _ :: _, h => by cases h
  | .keep :: _, .unused :: _, h => by cases h
  | .keep :: _, .gone :: _, h => by cases h
  | .keep :: _, .box _ :: _, h => by cases h
  | .keep :: _, .frz _ _ :: _, h => by cases h

/-- What came in is still there behind the packing. -/
theorem since_packed {d : Nat → Value} (H : HRel MX w ρ hp) (hs : Since w0 ρ0 H0 w ρ hp) {rcF rc0 : List IC} (hF : shapeOk rcF H0 = true) (hsame : rc0.map IC.kind = rcF.map IC.kind) (hdk : ∀ k, k < H0.length → d k = ρ k) {s : PS} (hi : PI MX w ρ d hp s) (hm : ∃ q, s.m = startM rc0 0 ++ q)
    (hbox : ∀ (j : Nat) (rcs : List RC), rc0[j]? = some (.box rcs) → ∃ cs cs', hp j = .box cs ∧ cs.length = rcs.length ∧ s.H[j]? = some (.box cs') ∧ cs'.length = rcs.length)
    (hnone : ∀ (j : Nat), rc0[j]? = some .drop → s.H[j]? = some .gone) (hkeep : ∀ (j : Nat), rc0[j]? = some .keep → Kp (hp j) ∧ s.H[j]? = some (hp j)) : Since w0 ρ0 H0 w (rhoS ρ d s.m) (hpOf s.H) := by
  obtain ⟨hl0, hb0, hr0⟩ := shape_get hF
  have hlen : rc0.length = H0.length := by
    have : (rc0.map IC.kind).length = (rcF.map IC.kind).length := by rw [hsame]
    simpa [hl0] using this
  obtain ⟨hp', hM, hlv⟩ := packed H hi
  have hrho : ∀ i, i < H0.length → rhoS ρ d s.m i = ρ i := by
    intro i hi'
    obtain ⟨q, hq⟩ := hm
    have hget : s.m[i]? = (startM rc0 0)[i]? := by rw [hq, List.getElem?_append_left (by rw [startM_len]; omega)]
    rw [startM_get] at hget
    have hlt : i < rc0.length := by omega
    rw [List.getElem?_eq_getElem hlt] at hget
    cases ho : rc0[i] with
    | drop =>
      rw [ho] at hget
      unfold rhoS
      rw [hget]
      exact hdk i hi'
    | keep =>
      rw [ho] at hget
      obtain ⟨h1, _⟩ := hkeep i (by rw [List.getElem?_eq_getElem hlt, ho])
      unfold rhoS
      rw [hget]
      simp only [Option.map_some, IC.held, Nat.zero_add]
      exact h1.shift (H.ok i)
    | box rcs =>
      rw [ho] at hget
      obtain ⟨cs, cs', h1, _⟩ := hbox i rcs (by rw [List.getElem?_eq_getElem hlt, ho])
      have hok := H.ok i
      rw [h1] at hok
      obtain ⟨g, o, C, e, vs, h2, _⟩ := hok
      unfold rhoS
      rw [hget]
      simp only [Option.map_some, IC.held, Nat.zero_add]
      rw [h2]
      rfl
  refine ⟨fun i hi' => (hs.keep i hi').trans (.inl (hrho i hi')), fun i hi' => ?_, hs.off, fun b hb hl => hs.nwl b hb (hlv b hl), fun i cs hi' => ?_⟩
  · have hlt : i < rc0.length := by omega
    cases ho : rc0[i] with
    | drop => rw [hpOf_some (hnone i (by rw [List.getElem?_eq_getElem hlt, ho]))]; simp
    | keep =>
      obtain ⟨h1, h3⟩ := hkeep i (by rw [List.getElem?_eq_getElem hlt, ho])
      rw [hpOf_some h3]; exact h1.ne.1
    | box rcs =>
      obtain ⟨cs, cs', _, _, h3, _⟩ := hbox i rcs (by rw [List.getElem?_eq_getElem hlt, ho])
      rw [hpOf_some h3]; simp
  · obtain ⟨c1, h1, h2, h3⟩ := hs.bx i cs hi'
    have hne : hpOf H0 i ≠ .unused := by rw [hi']; simp
    have hlt0 := lt_of_get (hpOf_get hne)
    have hlt : i < rc0.length := by omega
    have hltF : i < rcF.length := by omega
    have hk2 : (rc0[i]).kind = (rcF[i]).kind := by
      have h5 : (rc0.map IC.kind)[i]? = (rcF.map IC.kind)[i]? := by rw [hsame]
      simpa [List.getElem?_eq_getElem hlt, List.getElem?_eq_getElem hltF] using h5
    have hbx : (rc0[i]).kind = 2 := by
      apply Classical.byContradiction
      intro hne2
      obtain ⟨h5, h6, h7⟩ := hr0 i _ (List.getElem?_eq_getElem hltF) (by rw [← hk2]; exact hne2)
      rw [hpOf_some h7] at hi'
      exact h6.ne.2 _ hi'
    cases ho : rc0[i] with
    | drop => rw [ho] at hbx; cases hbx
    | keep => rw [ho] at hbx; cases hbx
    | box rcs =>
      obtain ⟨cs2, cs', g1, g2, g3, g4⟩ := hbox i rcs (by rw [List.getElem?_eq_getElem hlt, ho])
      rw [h1] at g1
      injection g1 with g1
      subst g1
      exact ⟨cs', hpOf_some g3, by omega, h3⟩
end
end Go.Proofs.YtbpeiilildchlaaGreatDoor.Abs
namespace Go.Proofs.YtbpeiilildchlaaGreatDoor.Abs
open Go Go.RowKit
set_option linter.unusedVariables false
set_option linter.unusedSectionVars false
set_option linter.unusedSimpArgs false

section
variable {X : Type} {P : Program} {E : Env} {k : Nat} {f : FnA X} {G : Nat → List AV → List HE → Option X} {body : Code} {fn : Func} {b : Frame}
  {MX : Nat → Prop} {w0 : World} {ρ0 : Nat → Value} {H0 : List HE}

/-- What the function leaves. -/
def Post (f : FnA X) (MX : Nat → Prop) (w0 : World) (ρ0 : Nat → Value) (H0 : List HE) (x : X) (e : Ending) (w' : World) : Prop :=
  ∃ v r H' ρ', e = .returned v ∧ f.fin r H' = some x ∧ Left MX w0 ρ0 H0 r H' v w' ρ'

/-- The kinds of the entries at a point fit. -/
def ptsOk (f : FnA X) : Prop := ∀ q pt, ptAt q f.pts = some pt → pt.rc0.map IC.kind = f.rc0.map IC.kind

theorem ptsOk_of (h : (f.pts.all fun pt => (pt.rc0.map IC.kind) == (f.rc0.map IC.kind)) = true) : ptsOk f := by
  intro q pt hq
  rw [List.all_eq_true] at h
  have : ∀ l : List Pt, ptAt q l = some pt → pt ∈ l := by
    intro l
    induction l with
    | nil => intro h; cases h
    | cons a r ih =>
      intro h
      unfold ptAt at h
      split at h
      · injection h with h; subst h; exact List.mem_cons_self
      · exact List.mem_cons_of_mem _ (ih h)
  exact eq_of_beq (h _ (this _ hq))

theorem held_of {hp : Heap} {w : World} {ρ : Nat → Value} (hs : Since w0 ρ0 H0 w ρ hp) {rcF rc0 : List IC} (hF : shapeOk rcF H0 = true) (hsame : rc0.map IC.kind = rcF.map IC.kind) (hkeep : ∀ (j : Nat), rc0[j]? = some .keep → Kp (hp j)) : ∀ (i : Nat) (o : IC), rc0[i]? = some o → o.held = true → live (hp i) := by
  intro i o hi ho
  cases o with
  | drop => cases ho
  | keep => exact (hkeep i hi).live
  | box rcs =>
    obtain ⟨hl0, hb0, _⟩ := shape_get hF
    have h5 : (rcF.map IC.kind)[i]? = some 2 := by rw [← hsame]; simp [hi, IC.kind]
    simp only [List.getElem?_map] at h5
    cases hq : rcF[i]? with
    | none => rw [hq] at h5; cases h5
    | some o =>
      rw [hq] at h5
      cases o with
      | drop => simp [IC.kind] at h5
      | keep => simp [IC.kind] at h5
      | box rcs' =>
        obtain ⟨cs, h6, _⟩ := hb0 i rcs' hq
        obtain ⟨cs', h7, _⟩ := hs.bx i cs (hpOf_some h6)
        rw [h7]; trivial

theorem start0_H (rc0 : List IC) : (start0 rc0).H.length = rc0.length := by simp [start0]
theorem start0_m (rc0 : List IC) : (start0 rc0).m.length = rc0.length := by simp [start0, startM_len]
theorem start0_at (rc0 : List IC) (j : Nat) (o : IC) (h : rc0[j]? = some o) (ho : o.held = true) : (start0 rc0).m[0 + j]? = some (some (0 + j, 0)) ∧ (start0 rc0).H[0 + j]? = some .gone := by
  constructor
  · simp only [start0, Nat.zero_add]
    rw [startM_get, h]
    simp [ho]
  · simp only [start0, Nat.zero_add, List.getElem?_map, h, Option.map_some]
theorem start0_none (rc0 : List IC) (j : Nat) (h : rc0[j]? = some .drop) : (start0 rc0).H[j]? = some .gone := by
  simp only [start0, List.getElem?_map, h, Option.map_some]

/-- The entries that came in, packed. -/
theorem inE_sound {Rt α : Type} (hF : shapeOk f.rc0 H0 = true) {rc0 : List IC} (hsame : rc0.map IC.kind = f.rc0.map IC.kind) {w : World} {ρ : Nat → Value} {hp : Heap} (H : HRel MX w ρ hp) (hs : Since w0 ρ0 H0 w ρ hp) {bb : Nat} {rs ws : List Nat} {K : α → Nat → Heap → List Nat → List Nat → Option Rt} {r : Rt} {k : PS → Eff α} (hk : (inE rc0 k).go bb hp rs ws K = some r) :
    ∃ s1 rs1, (k s1).go bb hp rs1 ws K = some r ∧ PI MX w ρ (dK ρ H0.length) hp s1 ∧ H0.length ≤ s1.m.length ∧
      ∀ s2, PI MX w ρ (dK ρ H0.length) hp s2 → Ext s1 s2 → Since w0 ρ0 H0 w (rhoS ρ (dK ρ H0.length) s2.m) (hpOf s2.H) := by
  unfold inE at hk
  obtain ⟨rs0, hk, hrows⟩ := needRows_some rc0 hk
  have hl0 := (shape_get hF).1
  have hlen : rc0.length = f.rc0.length := by
    have : (rc0.map IC.kind).length = (f.rc0.map IC.kind).length := by rw [hsame]
    simpa using this
  have hd : ∀ j, H0.length ≤ j → dK ρ H0.length j = .slice none 0 0 := fun j hj => if_neg (by omega)
  obtain ⟨s1, rs1, hk1, p1, p2, p3, p4, p5, p6, p7, p8⟩ := packIn_sound (n0 := H0.length) H hd rc0 (PI_start rc0 (held_of hs hF hsame (fun j hj => by have := hrows j hj; rwa [Nat.zero_add] at this))) (by rw [start0_m]; omega) (by rw [start0_H]; omega) (start0_at rc0) hk
  refine ⟨s1, rs1, hk1, p1, p2, fun s2 i1 i2 => ?_⟩
  exact since_packed (rc0 := rc0) (d := dK ρ H0.length) H hs hF hsame (fun k hk => if_pos hk) i1 (by
    obtain ⟨q1, e1⟩ := p3
    obtain ⟨q2, e2⟩ := i2.m
    exact ⟨q1 ++ q2, by rw [e2, e1, List.append_assoc]; rfl⟩) (fun j rcs hj => by
      obtain ⟨cs, cs', a1, a2, a3, a4⟩ := p6 j rcs hj
      rw [Nat.zero_add] at a1 a3
      exact ⟨cs, cs', a1, a2, by rw [i2.H j (lt_of_get a3)]; exact a3, a4⟩) (fun j hj => by
      have a3 := p7 j hj
      rw [Nat.zero_add, start0_none _ _ hj] at a3
      rw [i2.H j (lt_of_get a3)]; exact a3) (fun j hj => by
      obtain ⟨a1, a3⟩ := p8 j hj
      rw [Nat.zero_add] at a1 a3
      exact ⟨a1, by rw [i2.H j (lt_of_get a3)]; exact a3⟩)

/-- A result as it is read. -/
def rvOf (tmps : Array Value) : ResultVar → Sem Value
  | .tmp t => pure (tmps.getD t undef)
  | .cell a t => do loadVar t (← asAddr (tmps.getD a undef))
/-- One value, or a tuple. -/
def oneV : List Value → Value
  | [v] => v
  | vs => .tuple vs.toArray

theorem resVals_sound {Rt α : Type} {w : World} {ρ : Nat → Value} {hp : Heap} (H : HRel MX w ρ hp) {tm : Nat → AV} {tmps : Array Value} (ht : ∀ t, R (Mut MX hp ρ) w ρ hp (tm t) (tmps.getD t undef)) {b : Nat} {ws : List Nat} {K : α → Nat → Heap → List Nat → List Nat → Option Rt} {r : Rt} :
    (l : List ResultVar) → {rs : List Nat} → {k : List AV → Eff α} → (resVals P tm l k).go b hp rs ws K = some r →
    ∃ xs vs rs', (k xs).go b hp rs' ws K = some r ∧ Rs (Mut MX hp ρ) w ρ hp xs vs ∧ (l.mapM (rvOf tmps)).run P w = .ok vs w
  | [], rs, k, hk => ⟨[], [], rs, hk, rfl, by simp⟩
  | .tmp t :: l, rs, k, hk => by
    unfold resVals at hk
    obtain ⟨xs, vs, rs', h1, h2, h3⟩ := resVals_sound H ht l hk
    refine ⟨tm t :: xs, tmps.getD t undef :: vs, rs', h1, ⟨_, _, rfl, ht t, h2⟩, ?_⟩
    rw [List.mapM_cons]
    simp only [rvOf, Sem.run_bind, Sem.run_pure, Result.andThen_ok, h3]
  | .cell a T :: l, rs, k, hk => by
    unfold resVals bind2 at hk
    have hbind : ∀ {β γ : Type} (e : Eff β) (g : β → Eff γ) {b : Nat} {hp : Heap} {rs ws : List Nat} {K : γ → Nat → Heap → List Nat → List Nat → Option Rt}, (e.bind g).go b hp rs ws K = e.go b hp rs ws (fun x b hp rs ws => (g x).go b hp rs ws K) := by
      intro β γ e g
      induction e with
      | ret a => intros; rfl
      | fail => intros; rfl
      | rd i k ih => intros; exact ih _
      | wr i h k ih => intros; exact ih
      | rdS i k ih => intros; exact ih _
      | wrS i c k ih => intros; exact ih
      | nw h k ih =>
        intro b hp rs ws K
        simp only [Eff.bind, Eff.go]
        split
        · exact ih _
        · rfl
      | br c d t e iht ihe => intros; simp only [Eff.bind, Eff.go]; rw [iht, ihe]
      | gd c d e ih => intros; simp only [Eff.bind, Eff.go]; split <;> first | exact ih | rfl
      | opt X o k ih => intros; simp only [Eff.bind, Eff.go]; congr 1; funext x; exact ih x
    rw [hbind] at hk
    obtain ⟨x, v, rs1, h1, h2, h3⟩ := loadB_sound (P := P) H (ht a) hk
    obtain ⟨xs, vs, rs', g1, g2, g3⟩ := resVals_sound H ht l h1
    refine ⟨x :: xs, v :: vs, rs', g1, ⟨_, _, rfl, h3, g2⟩, ?_⟩
    rw [List.mapM_cons]
    have hload : (do loadVar T (← asAddr (tmps.getD a undef)) : Sem Value).run P w = .ok v w := by
      cases hv : tmps.getD a undef with
      | pointer p =>
        cases p with
        | none => rw [hv] at h2; simp [Instr.loadAt, Instr.sureAddr] at h2
        | some ad => rw [hv] at h2; simpa [Instr.loadAt, Instr.sureAddr, asAddr] using h2
      | _ => rw [hv] at h2; simp [Instr.loadAt, Instr.sureAddr] at h2
    rw [Sem.run_bind, show (rvOf tmps (.cell a T)).run P w = .ok v w from hload]
    simp only [Result.andThen_ok, Sem.run_bind, g3, Sem.run_pure]

theorem run_results {fn : Func} {tmps : Array Value} {vs : List Value} {w : World} (h : (fn.results.toList.mapM (rvOf tmps)).run P w = .ok vs w) :
    (results fn tmps).run P w = .ok (oneV vs) w := by
  have e : results fn tmps = (do
      let vs ← fn.results.mapM (rvOf tmps)
      pure (if h : vs.size = 1 then vs[0] else .tuple vs)) := by
    unfold results
    congr 1
  rw [e, Sem.run_bind, Array.mapM_eq_mapM_toList, Sem.run_map, h]
  simp only [Result.andThen_ok]
  match vs with
  | [] => rfl
  | [v] => rfl
  | _ :: _ :: _ => rfl

/-- The end. -/
theorem finish_sound (hfn : fn.results.toList = f.res) (hF : shapeOk f.rc0 H0 = true) {st : St} {a : Act} {w : World} {ρ : Nat → Value} (hs : Sim f.n MX w0 ρ0 H0 st a w ρ) {x : X}
    (hk : (finishE P f st.tm).go st.nx st.hp [] [] (fun x _ _ _ _ => f.fin x.1 x.2) = some x) : ∃ v, (results fn a.tmps).run P w = .ok v w ∧ Post f MX w0 ρ0 H0 x (.returned v) w := by
  unfold finishE at hk
  obtain ⟨hp1, ρ1, rs0, ws0, hk, hst0⟩ := closeIf_sound hs.rel hk
  have hs1 : Sim f.n MX w0 ρ0 H0 ⟨st.tm, hp1, st.nx⟩ a w ρ1 := ⟨hst0.rel, fun t => hst0.R (hs.tm t), hs.size, hs.defers, hs.since.step hst0⟩
  have hd : ∀ j, H0.length ≤ j → dK ρ1 H0.length j = .slice none 0 0 := fun j hj => if_neg (by omega)
  obtain ⟨s1, rs1, hk1, p1, p2, p3⟩ := inE_sound hF rfl hs1.rel hs1.since hk
  obtain ⟨xs, vs, rs2, hk2, hxs, hrun⟩ := resVals_sound (P := P) hs1.rel hs1.tm f.res hk1
  have hone : R (Mut MX hp1 ρ1) w ρ1 hp1 (one1 xs) (oneV vs) := by
    match xs, hxs with
    | [], h => cases h; exact ⟨[], rfl, rfl⟩
    | [x], h => obtain ⟨v, q, e1, h, hq⟩ := h; cases hq; subst e1; exact h
    | x :: y :: xs, h =>
      obtain ⟨v, q, e1, h, u, q', e2, h', hq⟩ := h
      subst e1 e2
      exact ⟨_, rfl, v, _, rfl, h, u, _, rfl, h', hq⟩
  obtain ⟨x', s2, rs3, hk3, i1, i2, i3⟩ := pk_sound hs1.rel hd f.rc p1 p2 hone hk2
  simp only [Eff.go] at hk3
  refine ⟨_, run_results (by rw [hfn]; exact hrun), _, x', s2.H, rhoS ρ1 (dK ρ1 H0.length) s2.m, rfl, hk3, ?_⟩
  obtain ⟨g1, g2, g3⟩ := packed hs1.rel i1
  have hsince := p3 s2 i1 i2
  exact ⟨g1, R_step (D := fun _ => False) (Off.refl _ _) (fun _ _ h => h.elim) g2 (fun i hi => ⟨Old.refl _, hi⟩) _ i3, hsince.keep, hsince.off, hsince.nwl, hsince.bx⟩

theorem tmOf_rel {M : Nat → Prop} {w : World} {ρ : Nat → Value} {hp : Heap} {tmps : Array Value} : {live : List Nat} → {avs : List AV} → Rs M w ρ hp avs (live.map fun t => tmps.getD t undef) → ∀ t, R M w ρ hp (tmOf live avs t) (tmps.getD t undef)
  | [], [], _, t => trivial
  | [], _ :: _, h, t => by obtain ⟨v, q, e, _⟩ := h; cases e
  | _ :: _, [], h, t => by cases h
  | l :: live, x :: avs, h, t => by
    obtain ⟨v, q, e, h0, h1⟩ := h
    rw [List.map_cons] at e
    injection e with e1 e2
    subst e1 e2
    show R M w ρ hp (upd (tmOf live avs) l x t) _
    by_cases htl : t = l
    · subst htl; rw [upd_same]; exact h0
    · rw [upd_ne _ _ htl]; exact tmOf_rel h1 t

theorem Rs_live {M : Nat → Prop} {w : World} {ρ : Nat → Value} {hp : Heap} {tm : Nat → AV} {tmps : Array Value} (ht : ∀ t, R M w ρ hp (tm t) (tmps.getD t undef)) : (l : List Nat) → Rs M w ρ hp (l.map tm) (l.map fun t => tmps.getD t undef)
  | [] => rfl
  | t :: l => ⟨_, _, rfl, ht t, Rs_live ht l⟩

/-- To a point. -/
theorem jump_sound (hF : shapeOk f.rc0 H0 = true) {pt : Pt} (hsame : pt.rc0.map IC.kind = f.rc0.map IC.kind) {st : St} {a : Act} {w : World} {ρ : Nat → Value} (hs : Sim f.n MX w0 ρ0 H0 st a w ρ) {Rt : Type} {K : List AV → List HE → Option Rt} {r : Rt}
    (hk : (jumpE pt st.tm).go st.nx st.hp [] [] (fun x _ _ _ _ => K x.1 x.2) = some r) : ∃ avs H ρ', K avs H = some r ∧ Sim f.n MX w0 ρ0 H0 (stOf pt avs H) a w ρ' := by
  unfold jumpE at hk
  obtain ⟨hp1, ρ1, rs0, ws0, hk, hst0⟩ := closeIf_sound hs.rel hk
  have hs1 : Sim f.n MX w0 ρ0 H0 ⟨st.tm, hp1, st.nx⟩ a w ρ1 := ⟨hst0.rel, fun t => hst0.R (hs.tm t), hs.size, hs.defers, hs.since.step hst0⟩
  have hd : ∀ j, H0.length ≤ j → dK ρ1 H0.length j = .slice none 0 0 := fun j hj => if_neg (by omega)
  obtain ⟨s1, rs1, hk1, p1, p2, p3⟩ := inE_sound hF hsame hs1.rel hs1.since hk
  obtain ⟨avs, s2, rs2, hk2, i1, i2, i3⟩ := pks_sound hs1.rel hd pt.rcs p1 p2 (Rs_live hs1.tm pt.live) hk1
  simp only [Eff.go] at hk2
  obtain ⟨g1, g2, g3⟩ := packed hs1.rel i1
  have hsince := p3 s2 i1 i2
  refine ⟨avs, s2.H, _, hk2, g1, ?_, hs.size, hs.defers, hsince⟩
  have h5 : Rs (Mut MX (hpOf s2.H) (rhoS ρ1 (dK ρ1 H0.length) s2.m)) w (rhoS ρ1 (dK ρ1 H0.length) s2.m) (hpOf s2.H) avs (pt.live.map fun t => a.tmps.getD t undef) :=
    Rs_step (D := fun _ => False) (Off.refl _ _) (fun _ _ h => h.elim) g2 (fun i hi => ⟨Old.refl _, hi⟩) _ i3
  exact tmOf_rel h5

/-- A point's code as it is entered. -/
def entry : List TI → List TI
  | .code (.loop c) p :: t => .code c (p + 1) :: .inLoop c p :: t
  | t => t

/-- What is told from the points on holds. -/
def GOk (P : Program) (f : FnA X) (G : Nat → List AV → List HE → Option X) (body : Code) (b : Frame) (MX : Nat → Prop) (w0 : World) (ρ0 : Nat → Value) (H0 : List HE) : Prop :=
  ∀ q pt avs H x, ptAt q f.pts = some pt → G q avs H = some x → ∀ todo, tk body 0 [] q = some todo → Fits body todo → ∀ a w ρ, Sim f.n MX w0 ρ0 H0 (stOf pt avs H) a w ρ → Fine P b ((entry todo).map er) a w (Post f MX w0 ρ0 H0 x)

theorem setOp_rel {M : Nat → Prop} {w : World} {ρ : Nat → Value} {hp : Heap} {tm : Nat → AV} {a : Act} {c : Operand} {x : AV} (ht : ∀ t, R M w ρ hp (tm t) (a.tmps.getD t undef)) (hx : R M w ρ hp x (a.eval c)) : ∀ t, R M w ρ hp (setOp c x tm t) (a.tmps.getD t undef) := by
  cases c with
  | tmp d => exact upd_rel ht hx
  | _ => exact ht

theorem brA_sound {M : Nat → Prop} {w : World} {ρ : Nat → Value} {hp : Heap} {x : AV} {y : Value} {K : Bool → AV → Option X} {r : X} (hx : R M w ρ hp x y) (hk : brA x K = some r) : ∃ t z, K t z = some r ∧ y = .bool t ∧ R M w ρ hp z y := by
  unfold brA at hk
  split at hk
  · rename_i t
    split at hk
    · exact ⟨true, _, hk, hx, hx⟩
    · exact ⟨false, _, hk, hx, hx⟩
  · rename_i t
    split at hk
    · rename_i h; subst h; exact ⟨true, _, hk, hx, hx⟩
    · rename_i h
      have : t = false := by simpa using h
      subst this
      exact ⟨false, _, hk, hx, hx⟩
  · rename_i t
    split at hk
    · rename_i h; subst h; exact ⟨false, _, hk, hx, hx⟩
    · rename_i h
      have : t = false := by simpa using h
      subst this
      exact ⟨true, _, hk, hx, hx⟩
  · rename_i p d
    split at hk
    · rename_i h
      have : y = .bool true := by rw [show y = _ from hx]; simp [xorB, h]
      exact ⟨true, _, hk, this, this⟩
    · rename_i h
      have : y = .bool false := by rw [show y = _ from hx]; simp [xorB, h]
      exact ⟨false, _, hk, this, this⟩
  · rename_i p d
    split at hk
    · rename_i h
      have : y = .bool false := by rw [show y = _ from hx]; simp [xorB, h]
      exact ⟨false, _, hk, this, this⟩
    · rename_i h
      have : y = .bool true := by rw [show y = _ from hx]; simp [xorB, h]
      exact ⟨true, _, hk, this, this⟩
  · cases hk

theorem ends (hfn : fn.results.toList = f.res) (hF : shapeOk f.rc0 H0 = true) (hb : P.funcs[b.fn]? = some fn) (hkind : b.kind = .normal) {st : St} {a : Act} {w : World} {ρ : Nat → Value} (hs : Sim f.n MX w0 ρ0 H0 st a w ρ) {x : X}
    (hk : (finishE P f st.tm).go st.nx st.hp [] [] (fun x _ _ _ _ => f.fin x.1 x.2) = some x) {todo : List Item} (hst : ∀ cs, Steps P (lone (b.at a todo) cs w) (lone { b.at a todo with mode := .returning } cs w)) : Fine P b todo a w (Post f MX w0 ρ0 H0 x) := by
  obtain ⟨v, h1, h2⟩ := finish_sound hfn hF hs hk
  intro cs
  exact ⟨.returned v, w, { b.at a todo with mode := .returning }, h2, hst cs, rfl, rfl, hs.defers, hkind, fn, hb, h1⟩

theorem stepC_sound (hm : P.follows .mixedOrders = true) (hE : EnvOk P E) (hfn : fn.results.toList = f.res) (hF : shapeOk f.rc0 H0 = true) (hb : P.funcs[b.fn]? = some fn) (hkind : b.kind = .normal) {x : X} {rec : List TI → St → Option X}
    (hrec : ∀ todo st a w ρ, rec todo st = some x → Fits body todo → Sim f.n MX w0 ρ0 H0 st a w ρ → Fine P b (todo.map er) a w (Post f MX w0 ρ0 H0 x))
    {c : Code} {p : Nat} {t : List TI} (hfit : Fits body (.code c p :: t)) {st : St} {a : Act} {w : World} {ρ : Nat → Value} (hs : Sim f.n MX w0 ρ0 H0 st a w ρ) (hk : stepC P E k f rec c p t st = some x) :
    Fine P b ((entry (.code c p :: t)).map er) a w (Post f MX w0 ρ0 H0 x) := by
  unfold stepC at hk
  split at hk
  · exact Fine.step (fun cs => .one step_skip) (hrec _ _ _ _ _ hk hfit.2 hs)
  · rename_i x y
    exact Fine.step (fun cs => .one step_seq) (hrec _ _ _ _ _ hk (fits_seq hfit) hs)
  · rename_i c x y
    obtain ⟨t', z, hK, hy, hz⟩ := brA_sound (ev_sound hs.tm c) hk
    have hs' : Sim f.n MX w0 ρ0 H0 { st with tm := setOp c z st.tm } a w ρ := ⟨hs.rel, setOp_rel hs.tm hz, hs.size, hs.defers, hs.since⟩
    cases t' with
    | true => exact Fine.step (fun cs => .one (step_cond hy)) (hrec _ _ _ _ _ hK (fits_cond hfit).1 hs')
    | false => exact Fine.step (fun cs => .one (step_cond hy)) (hrec _ _ _ _ _ hK (fits_cond hfit).2 hs')
  · rename_i id y
    exact Fine.step (fun cs => .one step_block) (hrec _ _ _ _ _ hk (fits_block hfit) hs)
  · rename_i y
    exact hrec _ _ _ _ _ hk (fits_loop hfit) hs
  · rename_i id
    split at hk
    case h_2 => cases hk
    rename_i t' ht'
    obtain ⟨h1, h2⟩ := fits_exit hfit.2 ht'
    exact Fine.step (fun cs => .one (step_exit h2)) (hrec _ _ _ _ _ hk h1 hs)
  · rename_i id ops draw
    split at hk
    · refine Fine.wp ?_
      exact region_sound hE (fun st' a' w' ρ' h1 h2 => ⟨rfl, hrec _ _ _ _ _ h1 hfit.2 h2⟩) hs hk
    · split at hk
      case h_2 => cases hk
      rename_i hB
      refine Fine.wp ?_
      exact region_draw_sound hm hE hB (fun st' a' w' ρ' h1 h2 => ⟨rfl, hrec _ _ _ _ _ h1 hfit.2 h2⟩) hs hk
  · exact ends hfn hF hb hkind hs hk (fun cs => .one step_ret)
  · cases hk

theorem arun_sound (hm : P.follows .mixedOrders = true) (hE : EnvOk P E) (hfn : fn.results.toList = f.res) (hF : shapeOk f.rc0 H0 = true) (hb : P.funcs[b.fn]? = some fn) (hkind : b.kind = .normal) (hpts : ptsOk f) (hG : GOk P f G body b MX w0 ρ0 H0) {x : X} :
    (s : Nat) → {todo : List TI} → {st : St} → {a : Act} → {w : World} → {ρ : Nat → Value} → arun P E k f G s todo st = some x → Fits body todo → Sim f.n MX w0 ρ0 H0 st a w ρ → Fine P b (todo.map er) a w (Post f MX w0 ρ0 H0 x)
  | 0, todo, st, a, w, ρ, hk, hfit, hs => by cases hk
  | s + 1, [], st, a, w, ρ, hk, hfit, hs => ends hfn hF hb hkind hs hk (fun cs => .one step_end)
  | s + 1, .inBlock _ :: t, st, a, w, ρ, hk, hfit, hs => Fine.step (fun cs => .one step_inBlock) (arun_sound hm hE hfn hF hb hkind hpts hG s hk hfit hs)
  | s + 1, .inLoop c p :: t, st, a, w, ρ, hk, hfit, hs => by
    simp only [arun] at hk
    split at hk
    case h_2 => cases hk
    rename_i pt hpt
    obtain ⟨avs, H, ρ', h1, h2⟩ := jump_sound hF (hpts _ _ hpt) hs hk
    have := hG p pt avs H x hpt h1 _ hfit.1 hfit a w ρ' h2
    exact Fine.step (fun cs => .one step_inLoop) this
  | s + 1, .code c p :: t, st, a, w, ρ, hk, hfit, hs => by
    simp only [arun] at hk
    have hent : Fine P b ((entry (.code c p :: t)).map er) a w (Post f MX w0 ρ0 H0 x) := by
      split at hk
      · rename_i pt hpt
        obtain ⟨avs, H, ρ', h1, h2⟩ := jump_sound hF (hpts _ _ hpt) hs hk
        exact hG p pt avs H x hpt h1 _ hfit.1 hfit a w ρ' h2
      · exact stepC_sound hm hE hfn hF hb hkind (fun todo st a w ρ h1 h2 h3 => arun_sound hm hE hfn hF hb hkind hpts hG s h1 h2 h3) hfit hs hk
    cases c with
    | loop c => exact Fine.step (fun cs => .one step_loop) hent
    | _ => exact hent

theorem tk_fits {body : Code} : (c : Code) → {p0 q : Nat} → {t0 todo : List TI} → tk c p0 t0 q = some todo → Fits body (.code c p0 :: t0) → Fits body todo := by
  intro c
  have base : ∀ (c : Code) {p0 q : Nat} {t0 todo : List TI}, q = p0 → tk c p0 t0 q = some todo → Fits body (.code c p0 :: t0) → Fits body todo := by
    intro c p0 q t0 todo e h hf
    subst e
    rw [tk_self] at h
    injection h with h
    subst h
    exact hf
  induction c with
  | seq a b iha ihb =>
    intro p0 q t0 todo h hf
    by_cases e : q = p0
    · exact base _ e h hf
    · rw [tk_seq e] at h
      have := fits_seq hf
      split at h
      · exact ihb h this.2
      · exact iha h this
  | cond o a b iha ihb =>
    intro p0 q t0 todo h hf
    by_cases e : q = p0
    · exact base _ e h hf
    · rw [tk_cond e] at h
      have := fits_cond hf
      split at h
      · exact ihb h this.2
      · exact iha h this.1
  | block id a iha =>
    intro p0 q t0 todo h hf
    by_cases e : q = p0
    · exact base _ e h hf
    · rw [tk_block e] at h
      exact iha h (fits_block hf)
  | loop a iha =>
    intro p0 q t0 todo h hf
    by_cases e : q = p0
    · exact base _ e h hf
    · rw [tk_loop e] at h
      exact iha h (fits_loop hf)
  | _ =>
    intro p0 q t0 todo h hf
    by_cases e : q = p0
    · exact base _ e h hf
    · unfold tk at h
      rw [beq_ne e] at h
      cases h
end

theorem argsTm_rel {M : Nat → Prop} {w : World} {ρ : Nat → Value} {hp : Heap} : {avs : List AV} → {vals : List Value} → (i m : Nat) → Rs M w ρ hp avs vals → ∀ t, i ≤ t → R M w ρ hp (argsTm i avs t) ((vals.toArray ++ Array.replicate m undef).getD (t - i) undef)
  | [], _, i, m, h, t, _ => by
    cases h
    show (#[] ++ Array.replicate m undef).getD (t - i) undef = undef
    rw [Array.empty_append, Array.getD_eq_getD_getElem?]
    by_cases hl : t - i < m
    · simp [hl]
    · simp [hl]
  | x :: avs, _, i, m, ⟨v, q, e, h0, h1⟩, t, ht => by
    subst e
    show R M w ρ hp (upd (argsTm (i + 1) avs) i x t) _
    by_cases hti : t = i
    · subst hti
      rw [upd_same, Nat.sub_self]
      have : ((v :: q).toArray ++ Array.replicate m undef).getD 0 undef = v := by
        rw [Array.getD_eq_getD_getElem?, ← Array.getElem?_toList]
        simp
      rw [this]
      exact h0
    · rw [upd_ne _ _ hti]
      have ih := argsTm_rel (i + 1) m h1 t (by omega)
      have : ((v :: q).toArray ++ Array.replicate m undef).getD (t - i) undef = (q.toArray ++ Array.replicate m undef).getD (t - (i + 1)) undef := by
        rw [Array.getD_eq_getD_getElem?, Array.getD_eq_getD_getElem?, show t - i = (t - (i + 1)) + 1 by omega]
        rw [← Array.getElem?_toList, ← Array.getElem?_toList]
        simp
      rw [this]
      exact ih

/-- **A function is sound**: what the machine of this text tells of it, Go does. -/
theorem func_sound {X : Type} {P : Program} {E : Env} {f : FnA X} {G : Nat → Nat → List AV → List HE → Option X} {fid : FuncId} {fn : Func} {body : Code} {args : List RC} {pat : Nat → List AV → List HE → Option (Option X)} {emb : X → AV × List HE} (steps : Nat)
    (hm : P.follows .mixedOrders = true) (hE : EnvOk P E) (hf : P.funcs[fid]? = some fn) (hbody : fn.body = some body) (hn : fn.ntmps = f.n) (hres : fn.results.toList = f.res) (hpts : ptsOk f)
    (hfin : ∀ r H x, f.fin r H = some x → emb x = (r, H)) (hG0 : ∀ q avs H, G 0 q avs H = none)
    (hGs : ∀ k q pt avs H x, ptAt q f.pts = some pt → G (k + 1) q avs H = some x → fromPt P E k f (G k) steps body q avs H = some x)
    (htop : ∀ k avs H o, pat k avs H = some o → fromTop P E k f (G k) steps body avs H = o) : Sound P fid (mkS args pat emb) := by
  intro k avs H c x hc hx MX w ρ vals hst
  unfold mkS at hc
  simp only at hc
  split at hc
  case h_2 => cases hc
  rename_i o ho
  injection hc with hc
  subst hc
  simp only at hx
  have hrun := htop k avs H o ho
  rw [hx] at hrun
  unfold fromTop at hrun
  split at hrun
  case h_2 => cases hrun
  rename_i hF
  let b : Frame := { (default : Frame) with fn := fid, kind := .normal }
  have hfit : Fits body [.code body 0] := ⟨tk_self _ _ _, trivial⟩
  have hGok : ∀ k, GOk P f (G k) body b MX w ρ H := by
    intro k
    induction k with
    | zero => intro q pt avs H' y _ h; rw [hG0] at h; cases h
    | succ k ih =>
      intro q pt avs H' y hpt h todo htodo hft a w' ρ' hs
      have hp := hGs k q pt avs H' y hpt h
      unfold fromPt at hp
      rw [htodo, hpt] at hp
      split at hp
      · rename_i c p' t q' e1 e2
        injection e1 with e1
        injection e2 with e2
        subst e1 e2
        exact stepC_sound hm hE hres hF (b := b) hf rfl (fun todo st a w ρ h1 h2 h3 => arun_sound hm hE hres hF (b := b) hf rfl hpts ih steps h1 h2 h3) hft hs hp
      · cases hp
  have hs : Sim f.n MX w ρ H ⟨argsTm 0 avs, hpOf H, H.length⟩ { tmps := vals.toArray ++ Array.replicate (fn.ntmps - vals.toArray.size) undef, defers := [] } w ρ := by
    refine ⟨hst.rel, fun t => ?_, by simp [hn]; omega, rfl, ⟨fun _ _ => Old.refl _, fun i hi => ?_, Off.refl _ _, fun _ _ h => h, fun i cs hi => ⟨cs, hi, rfl, HEok.inside (hi ▸ hst.rel.ok i) (fun _ _ _ => rfl) _⟩⟩⟩
    · have := argsTm_rel 0 (fn.ntmps - vals.toArray.size) hst.args t (Nat.zero_le _)
      simpa using this
    · obtain ⟨h1, h2, h3⟩ := shape_get hF
      have hlt : i < f.rc0.length := by omega
      by_cases hr : (f.rc0[i]).kind = 2
      · cases hr' : f.rc0[i] with
        | drop => rw [hr'] at hr; cases hr
        | keep => rw [hr'] at hr; cases hr
        | box rcs =>
          obtain ⟨cs, h4, _⟩ := h2 i rcs (by rw [List.getElem?_eq_getElem hlt, hr'])
          show hpOf H i ≠ _
          rw [hpOf_some h4]; simp
      · obtain ⟨h', h4, h5⟩ := h3 i _ (List.getElem?_eq_getElem hlt) hr
        show hpOf H i ≠ _
        rw [hpOf_some h5]; exact h4.ne.1
  have hfine := arun_sound hm hE hres hF (b := b) hf rfl hpts (hGok k) steps hrun hfit hs
  intro cs
  obtain ⟨e, w', fr, h1, h2, h3, h4⟩ := hfine cs
  obtain ⟨v, r, H', ρ', rfl, hfx, hleft⟩ := h1
  have henter : Frame.enter P fid vals.toArray .normal = b.at { tmps := vals.toArray ++ Array.replicate (fn.ntmps - vals.toArray.size) undef, defers := [] } [.code body] := by
    simp [Frame.enter, Frame.at, hf, hbody, b]
  rw [henter]
  have he := hfin r H' x hfx
  exact ⟨.returned v, w', fr, ⟨v, ρ', rfl, by show Left MX w ρ H (emb x).1 (emb x).2 v w' ρ'; rw [he]; exact hleft⟩, h2, h3, h4⟩

/-! ### Words of the printed functions -/
def rd (xs : List Int) (i : Int) : Int := xs.getD i.toNat 0
/-- Bytes. -/
def okB (l : List Int) : Bool := l.all fun n => decide (0 ≤ n) && decide (n < 256)
def rdOf {α : Type} (d : α) (xs : List α) (i : Int) : α := xs.getD i.toNat d
theorem callable_of {P : Program} {f : FuncId} (h : (match P.funcs[f]? with
  | some fn => !(fn.name == "runtime.NumGoroutine") && fn.body.isSome
  | none => false) = true) : Callable P f := h
/-- What is told from point n on, or from others. -/
def pick1 {X : Type} (n : Nat) (g rest : Option X) (p : Nat) : Option X := match Nat.beq p n with
  | true => g
  | false => rest
theorem pick1_none {X : Type} {n : Nat} {g rest : Option X} {p : Nat} (hg : g = none) (hr : rest = none) : pick1 n g rest p = none := by
  unfold pick1
  split
  · exact hg
  · exact hr
theorem pick1_some {X : Type} {n : Nat} {g rest : Option X} {p : Nat} {x : X} (h : pick1 n g rest p = some x) : (p = n ∧ g = some x) ∨ rest = some x := by
  unfold pick1 at h
  split at h
  · rename_i hb; exact .inl ⟨Nat.eq_of_beq_eq_true hb, h⟩
  · exact .inr h
end Go.Proofs.YtbpeiilildchlaaGreatDoor.Abs
namespace Go.Proofs.YtbpeiilildchlaaGreatDoor.Abs
open Go Go.RowKit
set_option linter.unusedVariables false
set_option linter.unusedSectionVars false
set_option linter.unusedSimpArgs false

section
variable {P : Program} {f : FuncId} {X : Type} {args : List RC} {pat : Nat → List AV → List HE → Option (Option X)}

theorem hrel_nil {MX D : Nat → Prop} {w w' : World} {ρ ρ' : Nat → Value} {hp : Heap} (H : HRel MX w ρ hp) (off : Off D w w') (hD : ∀ b, b < w.heap.size → D b → Lv hp ρ b) : HRel MX w' ρ' (hpOf []) :=
  ⟨fun i => by simp [hpOf, HEok], fun i j b h => by simp [hpOf, live] at h, fun i b h => by simp [hpOf, live] at h, fun b hb => Nat.lt_of_lt_of_le (H.mx b hb) off.size, H.tb.next off hD (fun b _ ⟨i, hl, _⟩ => by simp [hpOf, live] at hl)⟩

/-- A function that tells a plain value. -/
theorem sound_plain {emb : X → AV} (h : ∀ k avs H o x, pat k avs H = some o → o = some x → H = [] ∧ ∀ M w ρ hp vals, Rs M w ρ hp avs vals →
      Calls P f vals.toArray w fun e w' => ∃ v, e = .returned v ∧ Below w.heap.size w w' ∧ ∀ M w ρ hp, R M w ρ hp (emb x) v) : Sound P f (mkS args pat fun x => (emb x, [])) := by
  intro k avs H c x hc hx MX w ρ vals hst
  unfold mkS at hc
  simp only at hc
  split at hc
  case h_2 => cases hc
  rename_i o ho
  injection hc with hc
  subst hc
  obtain ⟨rfl, hcall⟩ := h k avs H o x ho hx
  refine (hcall _ w ρ _ vals hst.args).mono ?_
  rintro e w' ⟨v, rfl, hb, hr⟩
  exact ⟨v, ρ, rfl, hrel_nil (D := fun _ => False) hst.rel (Off.below hb _) (fun _ _ h => h.elim), hr _ _ _ _, fun i hi => Old.refl _, Off.below hb _, fun b _ ⟨i, hl, _⟩ => by simp [hpOf, live] at hl, fun i cs hi => by simp [hpOf] at hi⟩

/-- A function that tells a plain value out of the tables. -/
theorem sound_tab {emb : X → AV} (h : ∀ k avs H o x, pat k avs H = some o → o = some x → H = [] ∧ ∀ M L w ρ hp vals, Tb w L → Rs M w ρ hp avs vals →
      Calls P f vals.toArray w fun e w' => ∃ v, e = .returned v ∧ Below w.heap.size w w' ∧ ∀ M w ρ hp, R M w ρ hp (emb x) v) : Sound P f (mkS args pat fun x => (emb x, [])) := by
  intro k avs H c x hc hx MX w ρ vals hst
  unfold mkS at hc
  simp only at hc
  split at hc
  case h_2 => cases hc
  rename_i o ho
  injection hc with hc
  subst hc
  obtain ⟨rfl, hcall⟩ := h k avs H o x ho hx
  refine (hcall _ _ w ρ _ vals hst.rel.tb hst.args).mono ?_
  rintro e w' ⟨v, rfl, hb, hr⟩
  exact ⟨v, ρ, rfl, hrel_nil (D := fun _ => False) hst.rel (Off.below hb _) (fun _ _ h => h.elim), hr _ _ _ _, fun i hi => Old.refl _, Off.below hb _, fun b _ ⟨i, hl, _⟩ => by simp [hpOf, live] at hl, fun i cs hi => by simp [hpOf] at hi⟩

/-- A function that tells a row of its own, out of the tables. -/
theorem sound_rowtab {e : TypeId} {t : Ty} {emb : X → List t.den} (h : ∀ k avs H o x, pat k avs H = some o → o = some x → H = [] ∧ ∀ M L w ρ hp vals, Tb w L → Rs M w ρ hp avs vals →
      Calls P f vals.toArray w fun en w' => ∃ v xs, en = .returned v ∧ Below w.heap.size w w' ∧ w'.ownsRow w.heap.size e t.sz v (emb x).length xs ∧ Els (t.KR M w) (emb x) xs) : Sound P f (mkS args pat fun x => (.own 0, [.row e t (emb x)])) := by
  intro k avs H c x hc hx MX w ρ vals hst
  unfold mkS at hc
  simp only at hc
  split at hc
  case h_2 => cases hc
  rename_i o ho
  injection hc with hc
  subst hc
  obtain ⟨rfl, hcall⟩ := h k avs H o x ho hx
  refine (hcall _ _ w ρ _ vals hst.rel.tb hst.args).mono ?_
  rintro en w' ⟨v, xs, rfl, hb, hown, hels⟩
  have hv : ∃ a n c, v = .slice a n c := by
    rcases hown.2 with h | ⟨g, cap, cur, h, _⟩
    · exact ⟨_, _, _, h.1⟩
    · exact ⟨_, _, _, h⟩
  have hfar : ∀ b, At v b → w.heap.size ≤ b := by
    intro b hbv
    rcases hown.2 with h | ⟨g, cap, cur, h, hg, _⟩
    · rw [h.1] at hbv; cases hbv
    · have : g = b := by simpa [At, blk, h] using hbv
      omega
  have hlv : ∀ b, Lv (hpOf [.row e t (emb x)]) (upd ρ 0 v) b → w.heap.size ≤ b := by
    rintro b ⟨i, hl, hbi⟩
    cases i with
    | zero => rw [upd_same] at hbi; exact hfar b hbi
    | succ i => simp [hpOf, live] at hl
  have hM : ∀ b, b < w.heap.size → Mut MX (hpOf [.row e t (emb x)]) (upd ρ 0 v) b → Mut MX (hpOf []) ρ b := by
    rintro b hb (h | h)
    · exact .inl h
    · have := hlv b h; omega
  refine ⟨v, upd ρ 0 v, rfl, Left.of hst (fun i => ?_) (fun i j b hl hl' _ _ => ?_) (fun i b hl hbi hmx => ?_) ⟨by simp [hpOf], by rw [upd_same]; exact (hd_v hv).symm, hv⟩ (fun i hi => (by simp at hi)) (Off.below hb _) (fun b hlt hl => (by have := hlv b hl; omega)) (fun i cs hi => by simp [hpOf] at hi)⟩
  · cases i with
    | zero => exact ⟨xs, by rw [upd_same]; exact ⟨hown.1, hown.2.imp id fun ⟨g, cap, cur, h1, _, h3⟩ => ⟨g, cap, cur, h1, Nat.zero_le _, h3⟩⟩, Els.imp (fun y cs h => KR_step (D := fun _ => False) (Off.below hb _) (fun _ _ h => h.elim) hM t h) hels⟩
    | succ i => simp [hpOf, HEok]
  · cases i with
    | zero => cases j with
      | zero => rfl
      | succ j => simp [hpOf, live] at hl'
    | succ i => simp [hpOf, live] at hl
  · have := hst.rel.mx b hmx
    have := hlv b ⟨i, hl, hbi⟩
    omega

/-- A function that tells a row of its own. -/
theorem sound_row {e : TypeId} {t : Ty} {emb : X → List t.den} (h : ∀ k avs H o x, pat k avs H = some o → o = some x → H = [] ∧ ∀ M w ρ hp vals, Rs M w ρ hp avs vals →
      Calls P f vals.toArray w fun en w' => ∃ v xs, en = .returned v ∧ Below w.heap.size w w' ∧ w'.ownsRow w.heap.size e t.sz v (emb x).length xs ∧ Els (t.KR M w) (emb x) xs) : Sound P f (mkS args pat fun x => (.own 0, [.row e t (emb x)])) :=
  sound_rowtab fun k avs H o x ho hx => ⟨(h k avs H o x ho hx).1, fun M L w ρ hp vals _ hr => (h k avs H o x ho hx).2 M w ρ hp vals hr⟩
end

theorem strs_els {M : Nat → Prop} {w : World} : (l : List ByteArray) → Els (Ty.KR M w .str) l (l.map Value.string)
  | [] => rfl
  | s :: l => ⟨[.string s], _, rfl, rfl, strs_els l⟩

/-! ### slices.Clone at whole numbers -/
theorem ints_els {M : Nat → Prop} {w : World} : (l : List Int) → Els (Ty.KR M w (.int .i64)) l (l.map (Value.int .i64))
  | [] => rfl
  | x :: l => ⟨[.int .i64 x], l.map (Value.int .i64), rfl, rfl, ints_els l⟩

theorem clone_int_calls {P : Program} {f : FuncId} {e : TypeId} {M : Nat → Prop} {w : World} (l : List Int) (A : Option Addr) (c : Nat) (_hle : l.length ≤ c) (hr : RowR M w (Ty.KR M w (.int .i64)) 1 A l) (hl : l.length ≤ 1099511627776)
    (hnil : ∀ n c w, Calls P f #[.slice none n c] w fun e w' => e = .returned (.slice none 0 0) ∧ w' = w)
    (hzero : ∀ a c w, Calls P f #[.slice (some a) 0 c] w fun en w' => ∃ v', en = .returned v' ∧ w'.ownsRow w.heap.size e 1 v' 0 [] ∧ v' ≠ .slice none 0 0 ∧ Below w.heap.size w w')
    (hsome : ∀ b off n c (zs : List Int) w, n ≤ zs.length → n * 8 ≤ 140737488355328 → (∀ j, j < zs.length → w.cell? ⟨b, off + j, none⟩ = some (.int .i64 (zs.getD j 0))) → Calls P f #[.slice (some ⟨b, off, none⟩) n c] w fun en w' => ∃ v', en = .returned v' ∧ w'.ownsRow w.heap.size e 1 v' n ((zs.take n).map (Value.int .i64)) ∧ v' ≠ .slice none 0 0 ∧ Below w.heap.size w w') :
    Calls P f (List.toArray [.slice A l.length c]) w fun en w' => ∃ v xs, en = .returned v ∧ Below w.heap.size w w' ∧ w'.ownsRow w.heap.size e 1 v l.length xs ∧ Els (Ty.KR M w (.int .i64)) l xs := by
  cases l with
  | nil =>
    cases A with
    | none =>
      refine (hnil 0 c w).mono ?_
      rintro en w' ⟨rfl, rfl⟩
      exact ⟨_, [], rfl, Below.refl _ _, World.ownsRow_nil _ _ _ _, rfl⟩
    | some a =>
      refine (hzero a c w).mono ?_
      rintro en w' ⟨v', rfl, h1, _, h2⟩
      exact ⟨_, [], rfl, h2, h1, rfl⟩
  | cons x l =>
    obtain ⟨b, o, cs, rfl, _⟩ := hr 0 x rfl
    refine (hsome b o (x :: l).length c (x :: l) w (Nat.le_refl _) (by omega) (fun j hj => ?_)).mono ?_
    · obtain ⟨b', o', cs', e1, _, _, e2, e3⟩ := hr j _ (List.getElem?_eq_getElem hj)
      injection e1 with e1
      injection e1 with e4 e5
      subst e4 e5
      have e2 : cs' = [.int .i64 (x :: l)[j]] := e2
      subst e2
      have := e3 0 _ rfl
      rw [Nat.mul_one, Nat.add_zero] at this
      rw [this, List.getD_eq_getElem?_getD, List.getElem?_eq_getElem hj]
      rfl
    · rintro en w' ⟨v', rfl, h1, _, h2⟩
      rw [List.take_length] at h1
      exact ⟨_, _, rfl, h2, h1, ints_els _⟩
end Go.Proofs.YtbpeiilildchlaaGreatDoor.Abs
namespace Go.Proofs.YtbpeiilildchlaaGreatDoor.Abs
open Go Go.RowKit
set_option linter.unusedVariables false
set_option linter.unusedSectionVars false
set_option linter.unusedSimpArgs false

theorem hrel_start {w : World} (ρ : Nat → Value) (htb : Tb w fun _ => False) : HRel (fun _ => False) w ρ (hpOf []) :=
  ⟨fun i => by simp [hpOf, HEok], fun i j b h => by simp [hpOf, live] at h, fun i b h => by simp [hpOf, live] at h, fun b hb => hb.elim, htb.next (D := fun _ => False) (Off.refl _ _) (fun _ _ h => h) (fun b _ ⟨i, h, _⟩ => by simp [hpOf, live] at h)⟩

theorem not_mut (ρ : Nat → Value) (b : Nat) : ¬ Mut (fun _ => False) (hpOf []) ρ b := by
  rintro (h | ⟨i, h, _⟩)
  · exact h
  · simp [hpOf, live] at h

theorem tb_of {w : World} (h : ∀ p ∈ tabs, ∃ C T f, w.heap[p.1]? = some (.cells C T f) ∧ p.2 C) : Tb w fun _ => False := fun p hp => ⟨h p hp, fun h => h⟩

/-- A contract at arguments that come from outside. -/
theorem law_calls {P : Program} {f : FuncId} {s : Spec} (h : Sound P f s) {k : Nat} {avs : List AV} {c : Call} {x : c.X} (hc : s.pat k avs [] = some c) (hx : c.o = some x) (he : c.emb x = (.bs false true, [])) {w : World} {vals : List Value} (htb : Tb w fun _ => False)
    (hr : Rs (Mut (fun _ => False) (hpOf []) (fun _ => undef)) w (fun _ => undef) (hpOf []) avs vals) : Calls P f vals.toArray w fun e w' => e = .returned (.bool true) ∧ Below w.heap.size w w' := by
  refine (h k avs [] c x hc hx _ w _ vals ⟨hr, hrel_start _ htb⟩).mono ?_
  rintro e w' ⟨v, ρ', rfl, hl⟩
  have hv := hl.r
  rw [he] at hv
  have hv : v = .bool true := hv
  subst hv
  exact ⟨rfl, hl.off.toBelow fun b _ ⟨i, h, _⟩ => by simp [hpOf, live] at h⟩

theorem plain_addr {w : World} {a : Addr} {v : Value} (h : w.cell? a = some v) : a = ⟨a.block, a.off, none⟩ := by
  unfold World.cell? at h
  split at h
  · split at h
    · cases h
    · rename_i hs
      cases a with
      | mk b o s => cases s with
        | none => rfl
        | some s => simp at hs
  · cases h

theorem add_at (b o i : Nat) : (⟨b, o, none⟩ : Addr).add i = ⟨b, o + i, none⟩ := by
  unfold Addr.add
  split
  · rename_i h; subst h; rfl
  · rfl

/-- A row of whole numbers as it comes in. -/
theorem row_of {k : IntKind} {w : World} {M : Nat → Prop} (hM : ∀ b, ¬ M b) {a0 : Option Addr} {len0 cap0 : Nat} {z0 : List Int}
    (w0 : (a0 = none ∧ len0 = 0 ∧ cap0 = 0 ∧ z0 = []) ∨ ∃ x, a0 = some x ∧ len0 ≤ cap0 ∧ cap0 ≤ maxLen ∧ z0.length = cap0 ∧ (∀ i, i < z0.length → w.cell? (x.add i) = some (.int k (z0.getD i 0))) ∧ ∀ n ∈ z0, (Lit.int k n).wf = true) :
    ∃ l : List Int, l.length = len0 ∧ len0 ≤ cap0 ∧ len0 ≤ maxLen ∧ (∀ n ∈ l, (Lit.int k n).wf = true) ∧ RowR M w (Ty.KR M w (.int k)) 1 a0 l := by
  rcases w0 with ⟨rfl, rfl, rfl, rfl⟩ | ⟨x, rfl, h1, h2, h3, h4, h5⟩
  · exact ⟨[], rfl, Nat.le_refl _, Nat.zero_le _, by simp, fun i y hy => by
      have hy : ([] : List Int)[i]? = some y := hy
      simp at hy⟩
  · refine ⟨z0.take len0, by rw [List.length_take]; omega, h1, Nat.le_trans h1 h2, fun n hn => h5 n (List.mem_of_mem_take hn), fun i y hy => ?_⟩
    have hy : (List.take len0 z0)[i]? = some (show Int from y) := hy
    rw [List.getElem?_take] at hy
    split at hy
    case isFalse => cases hy
    obtain ⟨hlt, rfl⟩ := List.getElem?_eq_some_iff.1 hy
    have hc0 := h4 0 (by omega)
    have hx : x = ⟨x.block, x.off, none⟩ := plain_addr (a := x) (by rw [show x.add 0 = x from rfl] at hc0; exact hc0)
    refine ⟨x.block, x.off, [.int k z0[i]], by rw [← hx], hM _, rfl, rfl, fun j u hu => ?_⟩
    cases j with
    | succ j => simp at hu
    | zero =>
      simp at hu
      subst hu
      have hc := h4 i hlt
      rw [hx, add_at, List.getD_eq_getElem?_getD, hy] at hc
      rw [Nat.mul_one, Nat.add_zero]
      exact hc

theorem mkS_pat {X : Type} {args : List RC} {pat : Nat → List AV → List HE → Option (Option X)} {emb : X → AV × List HE} {k : Nat} {avs : List AV} {H : List HE} {o : Option X} (h : pat k avs H = some o) : (mkS args pat emb).pat k avs H = some ⟨X, o, emb⟩ := by
  unfold mkS
  simp only [h]

/-- A law of drawn bytes. -/
theorem law_bytes {P : Program} {f : FuncId} {args : List RC} {pat : Nat → List AV → List HE → Option (Option Bool)} {F : Nat → List Int → Option Bool} (h : Sound P f (mkS args pat fun r => (.bs false r, []))) (hp : ∀ k l, pat k [.con (.int .u8) l] [] = some (F k l))
    (pure : ∀ (l0 : List Int), l0.length ≤ maxLen → l0.length * 1 ≤ 140737488351232 → (∀ x ∈ l0, (Lit.int .u8 x).wf = true) → ∃ k, F k l0 = some true) (a0 : Option Addr) (len0 cap0 : Nat) (z0 : List Int) (w : World)
    (w0 : (a0 = none ∧ len0 = 0 ∧ cap0 = 0 ∧ z0 = []) ∨ ∃ x, a0 = some x ∧ len0 ≤ cap0 ∧ cap0 ≤ maxLen ∧ z0.length = cap0 ∧ (∀ i, i < z0.length → w.cell? (x.add i) = some (.int .u8 (z0.getD i 0))) ∧ ∀ n ∈ z0, (Lit.int .u8 n).wf = true) (y0 : len0 * 1 ≤ 140737488351232) (htb : Tb w fun _ => False) :
    Calls P f #[.slice a0 len0 cap0] w fun e w' => e = .returned (.bool true) ∧ Below w.heap.size w w' := by
  obtain ⟨l, rfl, h1, h2, h3, h4⟩ := row_of (not_mut (fun _ => undef)) w0
  obtain ⟨k, hk⟩ := pure l h2 y0 h3
  exact law_calls h (k := k) (htb := htb) (avs := [.con (.int .u8) l]) (c := ⟨Bool, F k l, fun r => (.bs false r, [])⟩) (x := true) (mkS_pat (hp k l)) hk rfl (vals := [.slice a0 l.length cap0]) ⟨_, _, rfl, ⟨a0, cap0, rfl, h1, h4⟩, rfl⟩
end Go.Proofs.YtbpeiilildchlaaGreatDoor.Abs
namespace Go.Proofs.YtbpeiilildchlaaGreatDoor.Abs
open Go Go.RowKit
set_option linter.unusedVariables false
set_option linter.unusedSectionVars false
set_option linter.unusedSimpArgs false

theorem w64 {x : Int} (h0 : -9223372036854775808 ≤ x) (h1 : x ≤ 9223372036854775807) : wrap64 x = x := by
  unfold wrap64
  omega
theorem wrap64_range (x : Int) : -9223372036854775808 ≤ wrap64 x ∧ wrap64 x ≤ 9223372036854775807 := by
  unfold wrap64
  omega

/-- From some number of rounds on. -/
def Ev {α : Type} (g : Nat → Option α) (r : α) : Prop := ∃ K, ∀ k, K ≤ k → g k = some r
section
variable {α β : Type}
theorem Ev.now (r : α) : Ev (fun _ => some r) r := ⟨0, fun _ _ => rfl⟩
theorem Ev.rounds {g : Nat → Option α} {r : α} (h : Ev g r) : ∃ k, g k = some r := by
  obtain ⟨K, h⟩ := h
  exact ⟨K, h K (Nat.le_refl _)⟩
theorem Ev.bind {g : Nat → Option α} {f : Nat → α → Option β} {a : α} {r : β} (h : Ev g a) (k : Ev (fun n => f n a) r) : Ev (fun n => (g n).bind (f n)) r := by
  obtain ⟨K, h⟩ := h
  obtain ⟨K', k⟩ := k
  refine ⟨max K K', fun n hn => ?_⟩
  have h1 := h n (by omega)
  have h2 := k n (by omega)
  simp only [h1, Option.bind_some]
  exact h2
/-- One round of a loop. -/
theorem Ev.step {g f : Nat → Option α} {r : α} (h : ∀ k, g (k + 1) = f k) (k : Ev f r) : Ev g r := by
  obtain ⟨K, k⟩ := k
  refine ⟨K + 1, fun n hn => ?_⟩
  obtain ⟨m, rfl⟩ : ∃ m, n = m + 1 := ⟨n - 1, by omega⟩
  rw [h]
  exact k m (by omega)
theorem Ev.congr {g f : Nat → Option α} {r : α} (h : ∀ k, g k = f k) (k : Ev f r) : Ev g r := by
  obtain ⟨K, k⟩ := k
  exact ⟨K, fun n hn => (h n).trans (k n hn)⟩
theorem Ev.pos {c : Prop} [Decidable c] {A B : Nat → Option α} {r : α} (h : c) (k : Ev A r) : Ev (fun n => if c then A n else B n) r := by
  obtain ⟨K, k⟩ := k
  exact ⟨K, fun n hn => by simp only [if_pos h]; exact k n hn⟩
theorem Ev.neg {c : Prop} [Decidable c] {A B : Nat → Option α} {r : α} (h : ¬ c) (k : Ev B r) : Ev (fun n => if c then A n else B n) r := by
  obtain ⟨K, k⟩ := k
  exact ⟨K, fun n hn => by simp only [if_neg h]; exact k n hn⟩
theorem Ev.cases {c : Prop} [Decidable c] {A B : Nat → Option α} {r : α} (h : c → Ev A r) (k : ¬ c → Ev B r) : Ev (fun n => if c then A n else B n) r := by
  by_cases hc : c
  · exact Ev.pos hc (h hc)
  · exact Ev.neg hc (k hc)
/-- Two tests of a place. -/
theorem Ev.at_ {c d : Prop} [Decidable c] [Decidable d] {A B C : Nat → Option α} {r : α} (h : c) (h' : d) (k : Ev A r) : Ev (fun n => if c then (if d then A n else B n) else C n) r := Ev.pos h (Ev.pos h' k)
theorem Ev.eq {r r' : α} (h : r = r') : Ev (fun _ => some r) r' := ⟨0, fun _ _ => by rw [h]⟩
theorem Ev.val {g : Nat → Option α} {r r' : α} (h : Ev g r) (e : r = r') : Ev g r' := e ▸ h
theorem Ev.bindo {g : Option α} {f : Nat → α → Option β} {a : α} {r : β} (h : g = some a) (k : Ev (fun n => f n a) r) : Ev (fun n => g.bind (f n)) r := by
  obtain ⟨K, k⟩ := k
  exact ⟨K, fun n hn => by simp only [h, Option.bind_some]; exact k n hn⟩
theorem Ev.det {g : Nat → Option α} {r r' : α} (h : Ev g r) (k : Ev g r') : r = r' := by
  obtain ⟨K, h⟩ := h
  obtain ⟨K', k⟩ := k
  have h1 := h (max K K') (by omega)
  have h2 := k (max K K') (by omega)
  rw [h1] at h2
  exact Option.some.inj h2
end

/-! ### lists by place -/
theorem rd_get {l : List Int} {i : Nat} (h : i < l.length) : rd l (i : Int) = l[i] := by
  unfold rd
  simp [List.getD_eq_getElem?_getD, List.getElem?_eq_getElem h]
theorem rd_eq {l : List Int} {i : Nat} : rd l (i : Int) = l.getD i 0 := by
  unfold rd
  simp
theorem take_snoc2 {α : Type} (l : List α) (i : Nat) (h : i < l.length) : l.take (i + 1) = l.take i ++ [l[i]] := by
  rw [List.take_succ_eq_append_getElem h]
/-- k, k + 1, .., n numbers. -/
def marks (k : Int) (n : Nat) : List Int := (List.range n).map fun i : Nat => k + (i : Int)
theorem marks_length (k : Int) (n : Nat) : (marks k n).length = n := by simp [marks]
theorem marks_get (k : Int) (n i : Nat) (h : i < n) : rd (marks k n) (i : Int) = k + i := by
  have h' : i < (marks k n).length := by rw [marks_length]; exact h
  rw [rd_get h']
  simp [marks]

/-! ### bytes -/
def bt (s : ByteArray) (i : Int) : Int := if h : i.toNat < s.size then ((s[i.toNat]'h).toNat : Int) else 0
theorem byteAt_eq (s : ByteArray) (i : Int) : byteAt s i = bt s i := rfl
theorem bt_at (s : ByteArray) (i : Int) : ∀ h : i.toNat < s.size, ((s[i.toNat]'h).toNat : Int) = bt s i := fun h => by simp [bt, h]
theorem bt_range (s : ByteArray) (i : Int) : 0 ≤ bt s i ∧ bt s i ≤ 255 := by
  unfold bt
  split
  · rename_i h
    have := (s[i.toNat]'h).toNat_lt
    omega
  · omega
def bytesOf (s : ByteArray) : List Int := s.data.toList.map fun b => (b.toNat : Int)
theorem numsOf_eq (s : ByteArray) : numsOf s = bytesOf s := rfl
def strOfNums (l : List Int) : ByteArray := ⟨(l.map fun n => UInt8.ofNat n.toNat).toArray⟩
theorem strOf_eq (l : List Int) : strOf l = strOfNums l := rfl
theorem data_length (s : ByteArray) : s.data.toList.length = s.size := by rw [Array.length_toList]; rfl
theorem bytesOf_length (s : ByteArray) : (bytesOf s).length = s.size := by rw [bytesOf, List.length_map, data_length]
theorem rd_bytesOf (s : ByteArray) (i : Int) : rd (bytesOf s) i = bt s i := by
  unfold rd bt bytesOf
  by_cases h : i.toNat < s.size
  · have h' : i.toNat < s.data.toList.length := by rw [data_length]; exact h
    rw [dif_pos h, List.getD_eq_getElem?_getD, List.getElem?_map, List.getElem?_eq_getElem h']
    rfl
  · have h' : s.data.toList[i.toNat]? = none := List.getElem?_eq_none (by rw [data_length]; omega)
    rw [dif_neg h, List.getD_eq_getElem?_getD, List.getElem?_map, h']
    rfl
theorem orA_eq (k : IntKind) (x y : Int) : orA k x y = Go.bits .or k x y := rfl
theorem andA_eq (k : IntKind) (x y : Int) : andA k x y = Go.bits .and k x y := rfl
theorem xorA_eq (k : IntKind) (x y : Int) : xorA k x y = Go.bits .xor k x y := rfl
theorem andNotA_eq (k : IntKind) (x y : Int) : andNotA k x y = Go.bits .andNot k x y := rfl

theorem shl8_u64 (x : Int) : shlA .u64 x 8 = IntKind.u64.wrap (x * 256) := rfl
theorem shl8_i64 (x : Int) : shlA .i64 x 8 = wrap64 (x * 256) := (wrp_eq .i64 _).symm
theorem shr1_u64 (x : Int) : shrA .u64 x 1 = x / 2 := rfl

/-! ### tests asked of a list -/
/-- Does p say yes to an element (asked in order, up to the first yes). -/
def anyO {α : Type} (p : α → Option Bool) : List α → Option Bool
  | [] => some false
  | x :: l => (p x).bind fun b => if b = true then some true else anyO p l
theorem anyO_some {α : Type} {p : α → Option Bool} {f : α → Bool} : ∀ {l : List α}, (∀ x ∈ l, p x = some (f x)) → anyO p l = some (l.any f)
  | [], _ => rfl
  | x :: l, h => by
    have ih := anyO_some (p := p) (f := f) (l := l) (fun y hy => h y (by simp [hy]))
    rw [anyO, h x (by simp), Option.bind_some, ih, List.any_cons]
    cases f x <;> rfl
end Go.Proofs.YtbpeiilildchlaaGreatDoor.Abs
namespace Go.Proofs.YtbpeiilildchlaaGreatDoor.Abs
open Go Go.RowKit Go.ChangeShapes Go.WideShapes
set_option linter.unusedVariables false
set_option linter.unusedSectionVars false
set_option linter.unusedSimpArgs false

def okL {α : Type} (p : α → Prop) (l : List α) : Prop := l.length ≤ maxLen ∧ ∀ a ∈ l, p a

/-- What is known of a value from outside. -/
def Ty.ok : (t : Ty) → t.den → Prop
  | .int k, x => (Lit.int k x).wf = true
  | .bool, _ => True
  | .str, s => ByteArray.size s ≤ maxLen
  | .sl t, l => okL t.ok l
  | .pair a b, x => a.ok x.1 ∧ b.ok x.2

def opFs (P : Program) (r : TypeId → Option Ty) : Nat → List Field → Option Ty
  | _, [] => none
  | o, f :: fs => match r f.type with
    | none => none
    | some t => match Nat.beq f.offset o, Nat.beq (P.cellsOf f.type) t.sz with
      | true, true => match fs with
        | [] => some t
        | _ :: _ => match opFs P r (o + t.sz) fs with
          | some u => some (.pair t u)
          | none => none
      | _, _ => none

/-- A type with its cells in order. -/
def opTy (P : Program) : Nat → TypeId → Option Ty
  | 0, _ => none
  | n + 1, T => match P.underlying T with
    | some (.int k) => some (.int k)
    | some .bool => some .bool
    | some .string => some .str
    | some (.slice e) => match opTy P n e with
      | some t => match Nat.beq (P.cellsOf e) t.sz with
        | true => some (.sl t)
        | false => none
      | none => none
    | some (.struct fs) => match opFs P (opTy P n) 0 fs.toList with
      | some t => match Nat.beq (P.cellsOf T) t.sz with
        | true => some t
        | false => none
      | none => none
    | _ => none

section
variable {H : Type} {enc : TypeId × Value → H} {P : Program} {w : World} {base : Nat} {spare : Nat → Bool} {held : Bool} {M : Nat → Prop} (hM : ∀ b, ¬ M b)

def Opens (enc : TypeId × Value → H) (P : Program) (w : World) (base : Nat) (spare : Nat → Bool) (held : Bool) (M : Nat → Prop) (T : TypeId) (t : Ty) : Prop :=
  ∀ (fuel : Nat) (cs : List Value) (x : DataW H × List MemPlace), DataW.trod enc P w base spare held fuel T cs = some x → ∃ a : t.den, t.KR M w a cs ∧ t.ok a

theorem opFs_open {r : TypeId → Option Ty} (ih : ∀ T t, r T = some t → Opens enc P w base spare held M T t) {n : Nat} {cs : List Value} : (fs : List Field) → (o : Nat) → (t : Ty) → opFs P r o fs = some t →
    (∀ (i : Nat) (f : Field), fs[i]? = some f → ∃ x, DataW.trod enc P w base spare held n f.type ((cs.drop f.offset).take (P.cellsOf f.type)) = some x) → cs.length = o + t.sz → ∃ a : t.den, t.KR M w a (cs.drop o) ∧ t.ok a
  | [], o, t, h, _, _ => by cases h
  | f :: fs, o, t, h, hf, hl => by
    unfold opFs at h
    split at h
    · cases h
    rename_i t0 ht0
    split at h
    case h_2 => cases h
    rename_i h1 h2
    have h1 := Nat.eq_of_beq_eq_true h1
    have h2 := Nat.eq_of_beq_eq_true h2
    obtain ⟨x, hx⟩ := hf 0 f rfl
    rw [h1, h2] at hx
    obtain ⟨a, ka, oa⟩ := ih _ _ ht0 _ _ _ hx
    split at h
    · injection h with h
      subst h
      rw [List.take_of_length_le (by rw [List.length_drop]; omega)] at ka
      exact ⟨a, ka, oa⟩
    · split at h
      case h_2 => cases h
      rename_i u hu
      injection h with h
      subst h
      obtain ⟨b, kb, ob⟩ := opFs_open ih _ (o + t0.sz) u hu (fun i f' hi => hf (i + 1) f' (by simpa using hi)) (by rw [hl]; show o + (t0.sz + u.sz) = _; omega)
      refine ⟨(a, b), ⟨_, _, ?_, ka, kb⟩, oa, ob⟩
      rw [← List.drop_drop, List.take_append_drop]

theorem add_spot {w : World} {a : Addr} {v : Value} (h : w.cell? (a.add 0) = some v) : a = ⟨a.block, a.off, none⟩ := plain_addr (by rw [show a.add 0 = a from rfl] at h; exact h)

include hM
theorem opens : (n : Nat) → (T : TypeId) → (t : Ty) → opTy P n T = some t → Opens enc P w base spare held M T t
  | 0, _, _, h => by cases h
  | n + 1, T, t, h => by
    intro fuel cs x hx
    unfold opTy at h
    split at h
    · rename_i k hu
      injection h with h
      subst h
      obtain ⟨m, rfl, _, hw⟩ := DataW.trod_int hu hx
      exact ⟨m, rfl, hw⟩
    · rename_i hu
      injection h with h
      subst h
      obtain ⟨b, rfl, _⟩ := DataW.trod_bool hu hx
      exact ⟨b, rfl, trivial⟩
    · rename_i hu
      injection h with h
      subst h
      obtain ⟨s, rfl, _, hs⟩ := DataW.trod_string hu hx
      exact ⟨s, rfl, hs⟩
    · rename_i e hu
      split at h
      case h_2 => cases h
      rename_i t0 ht0
      split at h
      case h_2 => cases h
      rename_i hc
      have hc := Nat.eq_of_beq_eq_true hc
      injection h with h
      subst h
      have ih := opens n e t0 ht0
      rcases DataW.trod_slice hu hx with ⟨rfl, _⟩ | ⟨a, len, cap, elems, rest, m, _, rfl, _, hb, hl, hm, hlen, hel, _⟩
      · exact ⟨[], ⟨none, 0, rfl, Nat.le_refl _, fun i x hx => by simp at hx⟩, Nat.zero_le _, fun a ha => by cases ha⟩
      · have each : ∀ i, i < len → ∃ y : t0.den, ∃ c : List Value, w.cells? base (a.add (i * P.cellsOf e)) (P.cellsOf e) = some c ∧ t0.KR M w y c ∧ t0.ok y := by
          intro i hi
          have h1 := hel i hi
          rw [List.getElem?_eq_getElem (by omega)] at h1
          obtain ⟨c, hc1, hc2⟩ := Option.bind_eq_some_iff.1 h1
          obtain ⟨y, hy, ho⟩ := ih m c _ hc2
          exact ⟨y, c, hc1, hy, ho⟩
        obtain ⟨ys, hyl, hys⟩ : ∃ ys : List t0.den, ys.length = len ∧ ∀ i (h : i < ys.length), ∃ c : List Value, w.cells? base (a.add (i * P.cellsOf e)) (P.cellsOf e) = some c ∧ t0.KR M w ys[i] c ∧ t0.ok ys[i] := by
          refine ⟨List.ofFn fun i : Fin len => Classical.choose (each i i.2), by simp, fun i h => ?_⟩
          have hi : i < len := by simpa using h
          rw [List.getElem_ofFn]
          exact Classical.choose_spec (each i hi)
        refine ⟨ys, ⟨some a, cap, by rw [hyl], by omega, fun i y hy => ?_⟩, by omega, fun y hy => ?_⟩
        · have hi : i < ys.length := (List.getElem?_eq_some_iff.1 hy).1
          obtain ⟨c0, hc0, hk0, _⟩ := hys 0 (by omega)
          have hsz := t0.sz_pos
          have hcell0 := (World.cells?_some hc0).2.2 0 (by omega)
          have hl0 := (World.cells?_some hc0).2.1
          rw [List.getElem?_eq_getElem (by omega), Nat.zero_mul] at hcell0
          have hpl : a = ⟨a.block, a.off, none⟩ := plain_addr (a := a) (by rw [show (a.add 0).add 0 = a from rfl] at hcell0; exact hcell0)
          obtain ⟨c, hc1, hk, _⟩ := hys i hi
          have hye : ys[i] = y := by
            have := List.getElem?_eq_getElem hi
            rw [this] at hy
            injection hy
          rw [hye] at hk
          refine ⟨a.block, a.off, c, by rw [← hpl], hM _, KR_len t0 hk, hk, fun j u hu => ?_⟩
          have hj := (List.getElem?_eq_some_iff.1 hu).1
          have hcl := (World.cells?_some hc1).2.1
          have hcell := (World.cells?_some hc1).2.2 j (by omega)
          rw [hu, hpl, add_at, add_at, hc, Nat.add_assoc] at hcell
          exact hcell
        · obtain ⟨i, hi, rfl⟩ := List.getElem_of_mem hy
          obtain ⟨_, _, _, ho⟩ := hys i hi
          exact ho
    · rename_i fs hu
      split at h
      case h_2 => cases h
      rename_i t0 ht0
      split at h
      case h_2 => cases h
      rename_i hc
      have hc := Nat.eq_of_beq_eq_true hc
      injection h with h
      subst h
      obtain ⟨xs, m, _, _, hlen, hxl, hf⟩ := DataW.trod_struct hu hx
      have := opFs_open (n := m) (cs := cs) (fun T t hT => opens n T t hT) fs.toList 0 t0 ht0 (fun i f hi => by
        have hi' : fs[i]? = some f := by simpa using hi
        have hlt : i < xs.length := by
          rw [hxl]
          exact (Array.getElem?_eq_some_iff.1 hi').1
        exact ⟨_, (hf i f hi').trans (List.getElem?_eq_getElem hlt)⟩) (by rw [hlen, hc, Nat.zero_add])
      simpa using this
    · cases h
omit hM

/-- An argument out of its cells. -/
def argAV (agg : Bool) (cs : List AV) : AV := match agg, cs with
  | true, cs => .agg cs
  | false, [c] => c
  | false, _ => .dead

theorem arg_struct {M : Nat → Prop} {w : World} {ρ : Nat → Value} {hp : Heap} {t : Ty} {a : t.den} {cs : Array Value} (h : t.KR M w a (Value.agg cs).cells.toList) : R M w ρ hp (argAV true (t.cells a)) (.agg cs) :=
  ⟨cs.toList, by simp, R_cells' (by simpa [Value.cells] using h)⟩
theorem arg_cell {M : Nat → Prop} {w : World} {ρ : Nat → Value} {hp : Heap} {t : Ty} {a : t.den} {v : Value} {c : AV} (hv : v.cells = #[v]) (h : t.KR M w a v.cells.toList) (hc : t.cells a = [c]) : R M w ρ hp (argAV false (t.cells a)) v := by
  have := R_cells' (ρ := ρ) (hp := hp) h
  rw [hc, hv] at this
  rw [hc]
  obtain ⟨u, q, e, h1, h2⟩ := this
  injection e with e1 e2
  rw [e1]
  exact h1

/-- A value that is no struct is one cell. -/
theorem okWide_cell {w : World} {r : Reach} {base : Nat} {T : TypeId} {v : Value} (hu : (match P.underlying T with | some (.int _) => true | some .bool => true | some .string => true | some (.slice _) => true | _ => false) = true) (h : Value.okWide P w r base T v) : v.cells = #[v] := by
  split at hu
  · rename_i k hT
    obtain ⟨n, rfl⟩ := okWide_int hT h
    rfl
  · rename_i hT
    obtain ⟨n, rfl⟩ := okWide_bool hT h
    rfl
  · rename_i hT
    obtain ⟨n, rfl⟩ := okWide_string hT h
    rfl
  · rename_i e hT
    obtain ⟨a, len, cap, rfl⟩ := okWide_slice hT h
    rfl
  · cases hu
end
end Go.Proofs.YtbpeiilildchlaaGreatDoor.Abs
