/- Calls: what stands behind them. -/
import Derived.Test.YtommgpkeicpokaaGreatDoorAbsPack
namespace Go.Proofs.YtommgpkeicpokaaGreatDoor.Abs
open Go Go.RowKit
set_option linter.unusedVariables false
set_option linter.unusedSectionVars false
set_option linter.unusedSimpArgs false

/-- What a callee finds. -/
structure Start (MX : Nat → Prop) (w : World) (ρ : Nat → Value) (avs : List AV) (H : List HE) (vals : List Value) : Prop where
  args : Rs (Mut MX (hpOf H) ρ) w ρ (hpOf H) avs vals
  rel : HRel MX w ρ (hpOf H)

/-- What a callee leaves. -/
structure Left (MX : Nat → Prop) (w : World) (ρ : Nat → Value) (H : List HE) (res : AV) (H' : List HE) (v : Value) (w' : World) (ρ' : Nat → Value) : Prop where
  rel : HRel MX w' ρ' (hpOf H')
  r : R (Mut MX (hpOf H') ρ') w' ρ' (hpOf H') res v
  keep : ∀ i, i < H.length → Old (ρ i) (ρ' i)
  off : Off (Lv (hpOf H) ρ) w w'
  nwl : ∀ b, b < w.heap.size → Lv (hpOf H') ρ' b → Lv (hpOf H) ρ b
  bx : ∀ i cs, hpOf H i = .box cs → ∃ cs', hpOf H' i = .box cs' ∧ cs'.length = cs.length ∧ Inside w w' (ρ i) cs.length

theorem Left.of {MX : Nat → Prop} {w : World} {ρ : Nat → Value} {avs : List AV} {vals : List Value} {H : List HE} {res : AV} {H' : List HE} {v : Value} {w' : World} {ρ' : Nat → Value} (hst : Start MX w ρ avs H vals)
    (ok : ∀ i, HEok (Mut MX (hpOf H') ρ') w' ρ' (hpOf H') i (hpOf H' i)) (sep : ∀ i j b, live (hpOf H' i) → live (hpOf H' j) → At (ρ' i) b → At (ρ' j) b → i = j)
    (ext : ∀ i b, live (hpOf H' i) → At (ρ' i) b → ¬ MX b) (r : R (Mut MX (hpOf H') ρ') w' ρ' (hpOf H') res v) (keep : ∀ i, i < H.length → Old (ρ i) (ρ' i)) (off : Off (Lv (hpOf H) ρ) w w')
    (nwl : ∀ b, b < w.heap.size → Lv (hpOf H') ρ' b → Lv (hpOf H) ρ b) (bx : ∀ i cs, hpOf H i = .box cs → ∃ cs', hpOf H' i = .box cs' ∧ cs'.length = cs.length ∧ Inside w w' (ρ i) cs.length) : Left MX w ρ H res H' v w' ρ' :=
  ⟨⟨ok, sep, ext, fun b hb => Nat.lt_of_lt_of_le (hst.rel.mx b hb) off.size, hst.rel.tb.next off (fun _ _ h => h) nwl⟩, r, keep, off, nwl, bx⟩

/-- A contract: if the Lean function answers, so does Go. -/
def Sound (P : Program) (f : FuncId) (s : Spec) : Prop :=
  ∀ k avs H c x, s.pat k avs H = some c → c.o = some x → ∀ MX w ρ vals, Start MX w ρ avs H vals →
    Calls P f vals.toArray w fun e w' => ∃ v ρ', e = .returned v ∧ Left MX w ρ H (c.emb x).1 (c.emb x).2 v w' ρ'

section
variable {Rt : Type} {b : Nat} {rs ws : List Nat} {K : AV → Nat → Heap → List Nat → List Nat → Option Rt} {r : Rt}

/-- Places for the entries. -/
structure Pl (m : List (Option (Nat × Nat))) (n : Nat) (hp : Heap) (ids : List (Nat × Nat)) (hp' : Heap) : Prop where
  len : ids.length = n
  src : ∀ (k : Nat) (p : Nat × Nat), ids[k]? = some p → m[k]? = some (some p) ∨ (hp p.1 = .unused ∧ hp' p.1 = .gone ∧ p.2 = 0 ∧ (m[k]? = none ∨ m[k]? = some none))
  inj : ∀ (k k' : Nat) (p p' : Nat × Nat), ids[k]? = some p → ids[k']? = some p' → p.1 = p'.1 → hp p.1 = .unused → (m[k]? = none ∨ m[k]? = some none) → (m[k']? = none ∨ m[k']? = some none) → k = k'
  ch : ∀ j, hp' j = hp j ∨ (hp j = .unused ∧ hp' j = .gone)
  old : ∀ j, hp j ≠ .unused → hp' j = hp j

theorem places_sound : {hs : List HE} → {m : List (Option (Nat × Nat))} → {k : List (Nat × Nat) → Eff AV} → {hp : Heap} → {b : Nat} → {ws : List Nat} → (places hs m k).go b hp rs ws K = some r →
    ∃ ids b' hp' ws', (k ids).go b' hp' rs ws' K = some r ∧ Pl m hs.length hp ids hp'
  | [], m, k, hp, b, ws, hk => ⟨[], b, hp, ws, hk, rfl, fun k p h => by simp at h, fun k k' p p' h => by simp at h, fun _ => .inl rfl, fun _ _ => rfl⟩
  | h :: hs, some p :: m, k, hp, b, ws, hk => by
    unfold places at hk
    obtain ⟨ids, b', hp', ws', hK, g⟩ := places_sound hk
    refine ⟨p :: ids, b', hp', ws', hK, by simp [g.len], fun k q hq => ?_, fun k k' q q' hq hq' => ?_, g.ch, g.old⟩
    · cases k with
      | zero => left; simpa using hq
      | succ k => simpa using g.src k q (by simpa using hq)
    · cases k with
      | zero => intro _ _ hm; simp at hm
      | succ k =>
        cases k' with
        | zero => intro _ _ _ hm; simp at hm
        | succ k' =>
          intro h1 h2 h3 h4
          have := g.inj k k' q q' (by simpa using hq) (by simpa using hq') h1 h2 (by simpa using h3) (by simpa using h4)
          omega
  | h :: hs, none :: m, k, hp, b, ws, hk => by
    unfold places at hk
    simp only [Eff.go] at hk
    split at hk
    case h_2 => cases hk
    rename_i hu
    obtain ⟨ids, b', hp', ws', hK, g⟩ := places_sound hk
    have hb : hp' b = .gone := by rw [g.old b (by rw [upd_same]; simp), upd_same]
    refine ⟨(b, 0) :: ids, b', hp', ws', hK, by simp [g.len], fun k q hq => ?_, fun k k' q q' hq hq' => ?_, fun j => ?_, fun j hj => ?_⟩
    · cases k with
      | zero =>
        right
        simp at hq
        subst hq
        exact ⟨hu, hb, rfl, .inr rfl⟩
      | succ k =>
        rcases g.src k q (by simpa using hq) with h1 | ⟨h1, h2, h3, h4⟩
        · left; simpa using h1
        · right
          have hne : q.1 ≠ b := fun e => by rw [e, upd_same] at h1; cases h1
          rw [upd_ne _ _ hne] at h1
          exact ⟨h1, h2, h3, by simpa using h4⟩
    · cases k with
      | zero =>
        cases k' with
        | zero => intro _ _ _ _; rfl
        | succ k' =>
          intro h1 h2 h3 h4
          simp at hq
          subst hq
          rcases g.src k' q' (by simpa using hq') with g1 | ⟨g1, _⟩
          · rcases h4 with h4 | h4
            · simp at h4; rw [List.getElem?_eq_none h4] at g1; cases g1
            · simp at h4; rw [h4] at g1; cases g1
          · rw [← h1, upd_same] at g1; cases g1
      | succ k =>
        cases k' with
        | zero =>
          intro h1 h2 h3 h4
          simp at hq'
          subst hq'
          rcases g.src k q (by simpa using hq) with g1 | ⟨g1, _⟩
          · rcases h3 with h3 | h3
            · simp at h3; rw [List.getElem?_eq_none h3] at g1; cases g1
            · simp at h3; rw [h3] at g1; cases g1
          · rw [h1, upd_same] at g1; cases g1
        | succ k' =>
          intro h1 h2 h3 h4
          by_cases hqb : q.1 = b
          · rcases g.src k q (by simpa using hq) with g1 | ⟨g1, _⟩
            · rcases h3 with h3 | h3
              · simp at h3; rw [List.getElem?_eq_none h3] at g1; cases g1
              · simp at h3; rw [h3] at g1; cases g1
            · rw [hqb, upd_same] at g1; cases g1
          · have := g.inj k k' q q' (by simpa using hq) (by simpa using hq') h1 (by rw [upd_ne _ _ hqb]; exact h2) (by simpa using h3) (by simpa using h4)
            omega
    · by_cases hj : j = b
      · subst hj; exact .inr ⟨hu, hb⟩
      · rcases g.ch j with h1 | ⟨h1, h2⟩
        · rw [upd_ne _ _ hj] at h1; exact .inl h1
        · rw [upd_ne _ _ hj] at h1; exact .inr ⟨h1, h2⟩
    · have hjb : j ≠ b := fun e => hj (e ▸ hu)
      rw [g.old j (by rw [upd_ne _ _ hjb]; exact hj), upd_ne _ _ hjb]
  | h :: hs, [], k, hp, b, ws, hk => by
    unfold places at hk
    simp only [Eff.go] at hk
    split at hk
    case h_2 => cases hk
    rename_i hu
    obtain ⟨ids, b', hp', ws', hK, g⟩ := places_sound hk
    have hb : hp' b = .gone := by rw [g.old b (by rw [upd_same]; simp), upd_same]
    refine ⟨(b, 0) :: ids, b', hp', ws', hK, by simp [g.len], fun k q hq => ?_, fun k k' q q' hq hq' => ?_, fun j => ?_, fun j hj => ?_⟩
    · cases k with
      | zero =>
        right
        simp at hq
        subst hq
        exact ⟨hu, hb, rfl, .inl rfl⟩
      | succ k =>
        rcases g.src k q (by simpa using hq) with h1 | ⟨h1, h2, h3, h4⟩
        · simp at h1
        · right
          have hne : q.1 ≠ b := fun e => by rw [e, upd_same] at h1; cases h1
          rw [upd_ne _ _ hne] at h1
          exact ⟨h1, h2, h3, .inl rfl⟩
    · cases k with
      | zero =>
        cases k' with
        | zero => intro _ _ _ _; rfl
        | succ k' =>
          intro h1 h2 h3 h4
          simp at hq
          subst hq
          rcases g.src k' q' (by simpa using hq') with g1 | ⟨g1, _⟩
          · simp at g1
          · rw [← h1, upd_same] at g1; cases g1
      | succ k =>
        cases k' with
        | zero =>
          intro h1 h2 h3 h4
          simp at hq'
          subst hq'
          rcases g.src k q (by simpa using hq) with g1 | ⟨g1, _⟩
          · simp at g1
          · rw [h1, upd_same] at g1; cases g1
        | succ k' =>
          intro h1 h2 h3 h4
          by_cases hqb : q.1 = b
          · rcases g.src k q (by simpa using hq) with g1 | ⟨g1, _⟩
            · simp at g1
            · rw [hqb, upd_same] at g1; cases g1
          · have := g.inj k k' q q' (by simpa using hq) (by simpa using hq') h1 (by rw [upd_ne _ _ hqb]; exact h2) (.inl rfl) (.inl rfl)
            omega
    · by_cases hj : j = b
      · subst hj; exact .inr ⟨hu, hb⟩
      · rcases g.ch j with h1 | ⟨h1, h2⟩
        · rw [upd_ne _ _ hj] at h1; exact .inl h1
        · rw [upd_ne _ _ hj] at h1; exact .inr ⟨h1, h2⟩
    · have hjb : j ≠ b := fun e => hj (e ▸ hu)
      rw [g.old j (by rw [upd_ne _ _ hjb]; exact hj), upd_ne _ _ hjb]

/-- What is written back for one entry. -/
def Back (ids : List (Nat × Nat)) (hp : Heap) (p : Nat × Nat) (h h' : HE) : Prop :=
  match h with
  | .box cs => (∃ old, hp p.1 = .box old ∧ p.2 + cs.length ≤ old.length ∧ h' = .box (splice old p.2 (rns ids cs))) ∨ (hp p.1 = .gone ∧ p.2 = 0 ∧ h' = .box (rns ids cs))
  | .row e t l => h' = .row e t l
  | .frz t l => h' = .frz t l
  | .mp t f => h' = .mp t f
  | .bts l => h' = .bts l
  | .bld T c => p.2 = 0 ∧ h' = .bld T (rn ids c)
  | .gone => h' = .gone
  | .tre o fr e be t l cur => cur = none ∧ h' = .tre o fr e be t l none
  | .unused => False

theorem back1_sound {ids : List (Nat × Nat)} {p : Nat × Nat} {h : HE} {k : Eff AV} {hp : Heap} {rs ws : List Nat} (hk : (back1 ids p h k).go b hp rs ws K = some r) :
    ∃ h' rs' ws', k.go b (upd hp p.1 h') rs' ws' K = some r ∧ Back ids hp p h h' := by
  unfold back1 at hk
  split at hk
  · rename_i cs
    simp only [Eff.go] at hk
    split at hk
    · rename_i old ho
      split at hk
      case h_2 => cases hk
      rename_i hle
      exact ⟨_, _, _, hk, .inl ⟨old, ho, Nat.le_of_ble_eq_true hle, rfl⟩⟩
    · rename_i ho
      split at hk
      case h_2 => cases hk
      rename_i h0
      exact ⟨_, _, _, hk, .inr ⟨ho, Nat.eq_of_beq_eq_true h0, rfl⟩⟩
    · cases hk
  · exact ⟨_, _, _, hk, rfl⟩
  · exact ⟨_, _, _, hk, rfl⟩
  · exact ⟨_, _, _, hk, rfl⟩
  · exact ⟨_, _, _, hk, rfl⟩
  · split at hk
    case h_2 => cases hk
    rename_i h0
    exact ⟨_, _, _, hk, Nat.eq_of_beq_eq_true h0, rfl⟩
  · exact ⟨_, _, _, hk, rfl⟩
  · split at hk
    case h_2 => cases hk
    exact ⟨_, _, _, hk, rfl, rfl⟩
  · cases hk

theorem backAll_sound {ids : List (Nat × Nat)} : {hs : List HE} → {ps : List (Nat × Nat)} → {k : Eff AV} → {hp : Heap} → {rs ws : List Nat} → hs.length = ps.length → (∀ (i j : Nat) (p q : Nat × Nat), ps[i]? = some p → ps[j]? = some q → p.1 = q.1 → i = j) →
    (backAll ids hs ps k).go b hp rs ws K = some r → ∃ hp' rs' ws', k.go b hp' rs' ws' K = some r ∧ (∀ j, (∀ (i : Nat) (p : Nat × Nat), ps[i]? = some p → p.1 ≠ j) → hp' j = hp j) ∧
      ∀ (i : Nat) (h : HE) (p : Nat × Nat), hs[i]? = some h → ps[i]? = some p → Back ids hp p h (hp' p.1)
  | [], [], k, hp, rs, ws, _, _, hk => ⟨hp, rs, ws, hk, fun _ _ => rfl, fun i h p hi => by simp at hi⟩
  | h :: hs, p :: ps, k, hp, rs, ws, hl, hd, hk => by
    unfold backAll at hk
    obtain ⟨h', rs1, ws1, hK, hb⟩ := back1_sound hk
    have hne : ∀ (i : Nat) (q : Nat × Nat), ps[i]? = some q → q.1 ≠ p.1 := fun i q hq e => by
      have := hd (i + 1) 0 q p (by simpa using hq) rfl e
      omega
    obtain ⟨hp', rs', ws', hK', h1, h2⟩ := backAll_sound (by simpa using hl) (fun i j q q' hq hq' e => by have := hd (i + 1) (j + 1) q q' (by simpa using hq) (by simpa using hq') e; omega) hK
    have hkeep : hp' p.1 = h' := by rw [h1 p.1 hne, upd_same]
    refine ⟨hp', rs', ws', hK', fun j hj => ?_, fun i g q hg hq => ?_⟩
    · rw [h1 j (fun i q hq => hj (i + 1) q (by simpa using hq)), upd_ne _ _ (fun e => hj 0 p rfl e.symm)]
    · cases i with
      | zero =>
        simp at hg hq
        subst hg hq
        rw [hkeep]; exact hb
      | succ i =>
        have hq' : ps[i]? = some q := by simpa using hq
        have := h2 i g q (by simpa using hg) hq'
        unfold Back at this ⊢
        rw [upd_ne _ _ (hne i q hq')] at this
        exact this
  | [], _ :: _, _, _, _, _, hl, _, _ => by simp at hl
  | _ :: _, [], _, _, _, _, hl, _, _ => by simp at hl

theorem freezeL_sound : {L : List Nat} → {k : Eff AV} → {hp : Heap} → {rs ws : List Nat} → (freezeL L k).go b hp rs ws K = some r →
    ∃ hp' rs' ws', k.go b hp' rs' ws' K = some r ∧ (∀ j, hp' j = hp j ∨ (j ∈ L ∧ ∃ e t l, hp j = .row e t l ∧ hp' j = .frz t l)) ∧ ∀ j, j ∈ L → ¬ live (hp' j)
  | [], k, hp, rs, ws, hk => ⟨hp, rs, ws, hk, fun _ => .inl rfl, fun j hj => by cases hj⟩
  | i :: L, k, hp, rs, ws, hk => by
    simp only [freezeL, Eff.go] at hk
    split at hk
    · rename_i e t l hi
      simp only [Eff.go] at hk
      obtain ⟨hp', rs', ws', hK, h1, h2⟩ := freezeL_sound hk
      have hi' : hp' i = .frz t l := by
        rcases h1 i with h | ⟨_, e', t', l', h, _⟩
        · rw [h, upd_same]
        · rw [upd_same] at h; cases h
      refine ⟨hp', rs', ws', hK, fun j => ?_, fun j hj hr => ?_⟩
      · by_cases hj : j = i
        · subst hj; exact .inr ⟨List.mem_cons_self, e, t, l, hi, hi'⟩
        · rcases h1 j with h | ⟨h0, e', t', l', h, h'⟩
          · rw [upd_ne _ _ hj] at h; exact .inl h
          · rw [upd_ne _ _ hj] at h; exact .inr ⟨List.mem_cons_of_mem _ h0, e', t', l', h, h'⟩
      · rcases List.mem_cons.1 hj with h | h
        · subst h; rw [hi'] at hr; exact hr
        · exact h2 j h hr
    · cases hk
    · cases hk
    · cases hk
    · cases hk
    · cases hk
    · rename_i hno1 hno2 hno3 hno4 hno5 hno6
      obtain ⟨hp', rs', ws', hK, h1, h2⟩ := freezeL_sound hk
      refine ⟨hp', rs', ws', hK, fun j => (h1 j).imp id (fun ⟨h0, h⟩ => ⟨List.mem_cons_of_mem _ h0, h⟩), fun j hj hr => ?_⟩
      rcases List.mem_cons.1 hj with h | h
      · subst h
        rcases h1 j with g | ⟨_, e, t, l, g, _⟩
        · rw [g] at hr
          cases hh : hp j with
          | row e t l => exact hno1 _ _ _ hh
          | box cs => exact hno2 _ hh
          | mp t f => exact hno3 _ _ hh
          | bts l => exact hno4 _ hh
          | bld T c => exact hno5 _ _ hh
          | tre o fr e be t l cur => exact hno6 _ _ _ _ _ _ _ hh
          | _ => rw [hh] at hr; exact hr
        · exact hno1 _ _ _ g
      · exact h2 j h hr
end

/-! ### Values that hold nothing that is only read -/
theorem KR_free {M M' : Nat → Prop} {w : World} : (t : Ty) → t.hasSl = false → {x : t.den} → {cs : List Value} → t.KR M w x cs → t.KR M' w x cs
  | .int _, _, _, _, h => h
  | .bool, _, _, _, h => h
  | .str, _, _, _, h => h
  | .sl _, hs, _, _, _ => by cases hs
  | .pair a b, hs, _, _, h => by
    simp only [Ty.hasSl, Bool.or_eq_false_iff] at hs
    obtain ⟨c0, c1, e, h0, h1⟩ := h
    exact ⟨c0, c1, e, KR_free a hs.1 h0, KR_free b hs.2 h1⟩

section
variable {M MN : Nat → Prop} {w : World} {ρ ρN : Nat → Value} {hp hpN : Heap} {ids : List (Nat × Nat)}

/-- How the callee's numbers stand to the caller's. -/
structure Ren (ρ ρN : Nat → Value) (hp hpN : Heap) (ids : List (Nat × Nat)) : Prop where
  lt : ∀ k, hp k ≠ .unused → ∃ p, ids[k]? = some p
  at_ : ∀ (k : Nat) (p : Nat × Nat), ids[k]? = some p → hp k ≠ .unused → hpN p.1 ≠ .unused ∧ ((ρ k = shift (ρN p.1) p.2 ∧ (∀ a, ρN p.1 = .pointer (some a) → a.spot = none)) ∨ (p.2 = 0 ∧ ρ k = ρN p.1))

theorem shift_map {v : Value} {off : Nat} {b : Nat} (h : shift v off = .map (some b)) : v = .map (some b) := by
  cases v with
  | pointer a => cases a <;> simp [shift] at h
  | _ => exact h

theorem hd_shift_slice {v : Value} {off : Nat} {A : Option Addr} {n c : Nat} (h : hd (shift v off) = .slice A n c) : hd v = .slice A n c := by
  cases v with
  | pointer a => cases a <;> simp [shift, hd] at h
  | _ => exact h

theorem shift_slice {v : Value} {off : Nat} {A : Option Addr} {n c : Nat} (h : shift v off = .slice A n c) : v = .slice A n c := by
  cases v with
  | pointer a => cases a <;> simp [shift] at h
  | _ => exact h

theorem shift_tup {v : Value} {off : Nat} {a : Array Value} (h : shift v off = .tuple a) : v = .tuple a := by
  cases v with
  | pointer a => cases a <;> simp [shift] at h
  | _ => exact h

theorem KT_free {M M' : Nat → Prop} {w : World} : (t : Ty) → t.deep = false → {x : t.den} → {s : Value} → {cs : List Value} → KT M w t x s cs → KT M' w t x s cs
  | .sl _, _, _, _, _, h => h
  | .pair a b, hs, _, _, _, ⟨c0, c1, e, h0, h1⟩ => by
    simp only [Ty.deep, Bool.or_eq_false_iff] at hs
    exact ⟨c0, c1, e, KR_free a hs.1 h0, KT_free b hs.2 h1⟩
  | .int _, _, _, _, _, h => h.elim
  | .bool, _, _, _, _, h => h.elim
  | .str, _, _, _, _, h => h.elim

theorem deep_inn : (t : Ty) → t.nest = true → t.deep = false → t.inn.hasSl = false
  | .sl _, _, h => h
  | .pair a b, hn, h => by
    simp only [Ty.deep, Bool.or_eq_false_iff] at h
    exact deep_inn b hn h.2

theorem TreOk.free {M M' : Nat → Prop} {w : World} {ρ ρ' : Nat → Value} {hp hp' : Heap} {i k o : Nat} {fr : Option Nat} {e be : TypeId} {t : Ty} {l : List t.den} {v : Value} {ss us xs : List Value} (h : TreOk M w ρ hp i o fr e be t l none v ss us xs) (hM : (∀ b, b < w.heap.size → M' b → M b) ∨ t.deep = false) (hk : ρ' k = ρ i) : TreOk M' w ρ' hp' k o fr e be t l none v ss us xs := by
  rcases hM with hM | hM
  · exact h.none_ hM hk
  · refine ⟨h.nest, h.osz, h.pl.imp (hk.trans ·) (fun ⟨a, b, c, d⟩ => ⟨a, b, c, hk.trans d⟩), h.len, h.ulen, h.own, Els.imp (fun _ _ hk => KT_free t hM hk) h.els, fun j x s hf hx hs hc => ?_, h.dead, h.vw, h.dis, h.sl, fun _ _ hc => by cases hc⟩
    obtain ⟨ys, h1, h2⟩ := h.inn j x s hf hx hs hc
    exact ⟨ys, h1, Els.imp (fun _ _ hk => KR_free t.inn (deep_inn t h.nest hM) hk) h2⟩

mutual
theorem rn_R (hr : Ren ρ ρN hp hpN ids) : (a : AV) → (hM : (∀ b, b < w.heap.size → MN b → M b) ∨ hasCon a = false) → {y : Value} → R M w ρ hp a y → R MN w ρN hpN (rn ids a) y
  | .v _, _, _, h => h
  | .bs _ _, _, _, h => h
  | .bp _ _ _, _, _, h => h
  | .ifc _, _, _, h => h
  | .con t l, hM, _, h => by
    rcases hM with hM | hM
    · exact R_step (ρ := ρN) (hp := hpN) (D := fun _ => False) (Off.refl _ _) (fun _ _ h => h.elim) hM (fun i hi => ⟨Old.refl _, hi⟩) (.con t l) h
    · cases hM
  | .elt t x o, hM, _, h => by
    rcases hM with hM | hM
    · exact R_step (ρ := ρN) (hp := hpN) (D := fun _ => False) (Off.refl _ _) (fun _ _ h => h.elim) hM (fun i hi => ⟨Old.refl _, hi⟩) (.elt t x o) h
    · cases hM
  | .own k, _, _, ⟨hu, e, A, n, c, hs⟩ => by
    obtain ⟨p, hp'⟩ := hr.lt k hu
    obtain ⟨h1, h2⟩ := hr.at_ k p hp' hu
    unfold rn
    rw [hp']
    refine ⟨h1, ?_, A, n, c, hs⟩
    rcases h2 with ⟨h2, _⟩ | ⟨_, h2⟩
    · rw [e, h2] at hs
      rw [e, h2, hs, hd_shift_slice hs]
    · rw [e, h2]
  | .box k o, _, _, ⟨hu, g, o', e, e'⟩ => by
    obtain ⟨p, hp'⟩ := hr.lt k hu
    obtain ⟨h1, h2⟩ := hr.at_ k p hp' hu
    unfold rn
    rw [hp']
    rcases h2 with ⟨h2, h3⟩ | ⟨h0, h2⟩
    case inr => exact ⟨h1, g, o', by rw [← h2]; exact e, by rw [e', h0, Nat.zero_add]⟩
    rw [e] at h2
    cases hv : ρN p.1 with
    | pointer a =>
      cases a with
      | none => rw [hv] at h2; simp [shift] at h2
      | some a =>
        have hsp := h3 a hv
        rw [hv] at h2
        simp only [shift] at h2
        injection h2 with h2
        injection h2 with h2
        injection h2 with e1 e2
        obtain ⟨ab, ao, asp⟩ := a
        simp only at e1 e2 hsp
        subst e1 e2 hsp
        exact ⟨h1, g, ao, hv, by rw [e', Nat.add_assoc]⟩
    | _ => rw [hv] at h2; simp [shift] at h2
  | .oel k sz j o, _, _, ⟨hu, g, n, c, e, hj, e'⟩ => by
    obtain ⟨p, hp'⟩ := hr.lt k hu
    obtain ⟨h1, h2⟩ := hr.at_ k p hp' hu
    unfold rn
    rw [hp']
    rcases h2 with ⟨h2, _⟩ | ⟨_, h2⟩
    · exact ⟨h1, g, n, c, hd_shift_slice (by rw [← h2]; exact e), hj, e'⟩
    · exact ⟨h1, g, n, c, by rw [← h2]; exact e, hj, e'⟩
  | .mp k, _, _, ⟨hu, e, b0, hs⟩ => by
    obtain ⟨p, hp'⟩ := hr.lt k hu
    obtain ⟨h1, h2⟩ := hr.at_ k p hp' hu
    unfold rn
    rw [hp']
    refine ⟨h1, ?_, b0, hs⟩
    rcases h2 with ⟨h2, _⟩ | ⟨_, h2⟩
    · rw [e, h2] at hs
      rw [e, h2, hs, shift_map hs]
    · rw [e, h2]
  | .sub k lo, _, _, ⟨hu, g, n, c, c', A, e, r⟩ => by
    obtain ⟨p, hp'⟩ := hr.lt k hu
    obtain ⟨h1, h2⟩ := hr.at_ k p hp' hu
    unfold rn
    rw [hp']
    refine ⟨h1, g, n, c, c', A, ?_, r⟩
    rcases h2 with ⟨h2, _⟩ | ⟨_, h2⟩
    · exact shift_slice (h2.symm.trans e)
    · exact h2.symm.trans e
  | .fn f n cs, hM, _, ⟨vs, e, h⟩ => ⟨vs, e, rns_R hr cs hM h⟩
  | .agg cs, hM, _, ⟨vs, e, h⟩ => ⟨vs, e, rns_R hr cs hM h⟩
  | .tup cs, hM, _, ⟨vs, e, h⟩ => ⟨vs, e, rns_R hr cs hM h⟩
  | .dead, _, _, _ => trivial
theorem rns_R (hr : Ren ρ ρN hp hpN ids) : (as : List AV) → (hM : (∀ b, b < w.heap.size → MN b → M b) ∨ hasCons as = false) → {ys : List Value} → Rs M w ρ hp as ys → Rs MN w ρN hpN (rns ids as) ys
  | [], _, _, h => h
  | a :: as, hM, _, ⟨v, q, e, h0, h1⟩ => by
    have hM1 : (∀ b, b < w.heap.size → MN b → M b) ∨ hasCon a = false := hM.imp id fun h => by simp only [hasCons, Bool.or_eq_false_iff] at h; exact h.1
    have hM2 : (∀ b, b < w.heap.size → MN b → M b) ∨ hasCons as = false := hM.imp id fun h => by simp only [hasCons, Bool.or_eq_false_iff] at h; exact h.2
    exact ⟨v, _, e, rn_R hr a hM1 h0, rns_R hr as hM2 h1⟩
end
theorem rns_len : (as : List AV) → (rns ids as).length = as.length
  | [] => rfl
  | _ :: as => by simp [rns, rns_len as]
end

theorem full_ne : {l : List HE} → full l = true → ∀ k : Nat, l[k]? ≠ some .gone
  | [], _, k => by simp
  | h :: l, hf, k => by
    cases k with
    | zero => intro e; simp at e; subst e; cases hf
    | succ k =>
      have : full l = true := by cases h <;> first | exact hf | cases hf
      simpa using full_ne this k

theorem hpOf_some {H : List HE} {k : Nat} {h : HE} (hk : H[k]? = some h) : hpOf H k = h := by rw [hpOf_eq, hk]; rfl
theorem hpOf_get {H : List HE} {k : Nat} (hk : hpOf H k ≠ .unused) : H[k]? = some (hpOf H k) := by
  rw [hpOf_eq] at hk ⊢
  cases h : H[k]? with
  | none => rw [h] at hk; exact absurd rfl hk
  | some x => rfl

/-- The forbidden blocks of a callee. -/
def MXc (MX : Nat → Prop) (ρ d : Nat → Value) (hp : Heap) (ps : PS) (b : Nat) : Prop := Ms MX ρ hp ps.lent b ∧ ¬ Lv (hpOf ps.H) (rhoS ρ d ps.m) b

/-- A callee finds what has been packed. -/
theorem start_of {MX : Nat → Prop} {w : World} {ρ d : Nat → Value} {hp : Heap} (H : HRel MX w ρ hp) {ps : PS} (hi : PI MX w ρ d hp ps) {avs : List AV} {vals : List Value} (ha : RPs MX w ρ d hp ps avs vals) :
    Start (MXc MX ρ d hp ps) w (rhoS ρ d ps.m) avs ps.H vals := by
  have hM : ∀ b, b < w.heap.size → Mut (MXc MX ρ d hp ps) (hpOf ps.H) (rhoS ρ d ps.m) b → Ms MX ρ hp ps.lent b := by
    rintro b hb (hm | ⟨k, hl, hbk⟩)
    · exact hm.1
    · have hne : hpOf ps.H k ≠ .unused := fun e => by rw [e] at hl; exact hl
      rcases hi.src k _ (hpOf_get hne) hl with ⟨i, off, h1, h2⟩ | h1
      · have hb' : At (ρ i) b := at_src h1 hbk
        refine ⟨.inr ⟨i, h2, hb'⟩, fun ⟨j, hj, hbj⟩ => ?_⟩
        have := H.sep i j b h2 (hi.rows j hj) hb' hbj
        subst this
        exact hi.apart k i off h1 hj
      · exact (h1 _ hbk).elim
  refine ⟨Rs_step (D := fun _ => False) (Off.refl _ _) (fun _ _ h => h.elim) hM (fun i hi => ⟨Old.refl _, hi⟩) avs ha, ⟨fun k => ?_, fun k k' b hl hl' hb hb' => ?_, fun k b hl hb hm => hm.2 ⟨k, hl, hb⟩, fun b hm => ?_, H.tb.next (D := fun _ => False) (Off.refl _ _) (fun _ _ h => h.elim) (fun b hb ⟨k, hl, hbk⟩ => ?_)⟩⟩
  · by_cases hne : hpOf ps.H k = .unused
    · rw [hne]; trivial
    · exact HEok_step (D := fun _ => False) (Off.refl _ _) (fun _ _ h => h.elim) hM (fun i hi => ⟨Old.refl _, hi⟩) rfl (fun _ _ _ h => h) (hi.ok k _ (hpOf_get hne)).2
  · have hne : hpOf ps.H k ≠ .unused := fun e => by rw [e] at hl; exact hl
    have hne' : hpOf ps.H k' ≠ .unused := fun e => by rw [e] at hl'; exact hl'
    rcases hi.src k _ (hpOf_get hne) hl with ⟨i, off, h1, h2⟩ | h1
    case inr => exact (h1 _ hb).elim
    rcases hi.src k' _ (hpOf_get hne') hl' with ⟨i', off', h1', h2'⟩ | h1'
    case inr => exact (h1' _ hb').elim
    have e1 : At (ρ i) b := at_src h1 hb
    have e2 : At (ρ i') b := at_src h1' hb'
    have := H.sep i i' b h2 h2' e1 e2
    subst this
    exact hi.inj k k' i off off' h1 h1'
  · rcases hm.1.1 with h | ⟨i, h1, h2⟩
    · exact H.mx b h
    · exact H.lt h1 h2
  · have hne : hpOf ps.H k ≠ .unused := fun e => by rw [e] at hl; exact hl
    rcases hi.src k _ (hpOf_get hne) hl with ⟨i, off, h1, h2⟩ | h1
    · exact ⟨i, h2, at_src h1 hbk⟩
    · exact (h1 _ hbk).elim

def nilD : Nat → Value := fun _ => .slice none 0 0

theorem conH : {l : List HE} → {k : Nat} → {h : HE} → l[k]? = some h → (match h with | .box cs => hasCons cs | .row _ t _ => t.hasSl | .frz _ _ => true | .mp t _ => t.hasSl | .bld _ c => hasCon c | .tre _ _ _ _ t _ _ => t.deep | _ => false) = true → hasConH l = true
  | [], k, h, hk, _ => by simp at hk
  | a :: l, 0, h, hk, hc => by
    simp at hk
    subst hk
    cases a with
    | box cs => simp only [hasConH, Bool.or_eq_true]; exact .inl hc
    | row e t x => simp only [hasConH, Bool.or_eq_true]; exact .inl hc
    | frz t x => rfl
    | mp t f => simp only [hasConH, Bool.or_eq_true]; exact .inl hc
    | bts l => cases hc
    | bld T c => simp only [hasConH, Bool.or_eq_true]; exact .inl hc
    | tre o fr e be t x cur => simp only [hasConH, Bool.or_eq_true]; exact .inl hc
    | unused => cases hc
    | gone => cases hc
  | a :: l, k + 1, h, hk, hc => by
    have := conH (l := l) (k := k) (h := h) (by simpa using hk) hc
    cases a with
    | box cs => simp only [hasConH, Bool.or_eq_true]; exact .inr this
    | row e t x => simp only [hasConH, Bool.or_eq_true]; exact .inr this
    | frz t x => rfl
    | mp t f => simp only [hasConH, Bool.or_eq_true]; exact .inr this
    | bts l => exact this
    | bld T c => simp only [hasConH, Bool.or_eq_true]; exact .inr this
    | tre o fr e be t x cur => simp only [hasConH, Bool.or_eq_true]; exact .inr this
    | unused => exact this
    | gone => exact this

open Classical in
set_option maxHeartbeats 2000000 in
/-- Behind a call. -/
theorem backE_sound {Rt : Type} {b : Nat} {rs ws : List Nat} {K : AV → Nat → Heap → List Nat → List Nat → Option Rt} {r : Rt} {MX : Nat → Prop} {w : World} {ρ : Nat → Value} {hp : Heap} (H : HRel MX w ρ hp) {ps : PS} (hi : PI MX w ρ nilD hp ps) (hfull : full ps.H = true)
    {res : AV} {H' : List HE} {v : Value} {w' : World} {ρ' : Nat → Value} (hl : Left (MXc MX ρ nilD hp ps) w (rhoS ρ nilD ps.m) ps.H res H' v w' ρ') (hk : (backE ps res H').go b hp rs ws K = some r) :
    ∃ x b' hp' rs' ws' ρN, K x b' hp' rs' ws' = some r ∧ Step MX w ρ hp w' ρN hp' ∧ R (Mut MX hp' ρN) w' ρN hp' x v := by
  unfold backE at hk
  split at hk
  case h_1 => cases hk
  rename_i hlen
  have hlen := Nat.le_of_ble_eq_true hlen
  obtain ⟨ids, b1, hp1, ws1, hK1, P1⟩ := places_sound hk
  have hused : ∀ (k i off : Nat), ps.m[k]? = some (some (i, off)) → hp i ≠ .unused := fun k i off h e => by
    have := hi.liv k i off h
    rw [e] at this
    exact this
  have dist : ∀ (i j : Nat) (p q : Nat × Nat), ids[i]? = some p → ids[j]? = some q → p.1 = q.1 → i = j := by
    intro i j p q hp_ hq e
    rcases P1.src i p hp_ with h1 | ⟨h1, _, _, h1m⟩ <;> rcases P1.src j q hq with h2 | ⟨h2, _, _, h2m⟩
    · obtain ⟨p1, p2⟩ := p
      obtain ⟨q1, q2⟩ := q
      simp only at e
      subst e
      exact hi.inj i j p1 p2 q2 h1 h2
    · exact absurd (e ▸ h2) (hused i p.1 p.2 h1)
    · exact absurd (e ▸ h1) (hused j q.1 q.2 h2)
    · exact P1.inj i j p q hp_ hq e h1 h1m h2m
  obtain ⟨hp2, rs2, ws2, hK2, B1, B2⟩ := backAll_sound (by rw [P1.len]) dist hK1
  -- the last step
  have fin : ∃ x b' hpN rs' ws', K x b' hpN rs' ws' = some r ∧ x = rn ids res ∧ (∀ j, hpN j = hp2 j ∨ (j ∈ ps.lent ∧ ∃ e t l, hp2 j = .row e t l ∧ hpN j = .frz t l)) ∧ ((hasCon res || hasConH H') = true → ∀ j, j ∈ ps.lent → ¬ live (hpN j)) := by
    split at hK2
    · rename_i hc
      obtain ⟨hpN, rs3, ws3, hK3, f1, f2⟩ := freezeL_sound hK2
      exact ⟨_, _, hpN, _, _, hK3, rfl, f1, fun _ => f2⟩
    · rename_i hc
      exact ⟨_, _, hp2, _, _, hK2, rfl, fun _ => .inl rfl, fun h => by rw [hc] at h; cases h⟩
  obtain ⟨x, b', hpN, rs', ws', hK, rfl, N1, N2⟩ := fin
  let inIds : Nat → Prop := fun j => ∃ k : Nat, ∃ p : Nat × Nat, ids[k]? = some p ∧ p.1 = j
  have hB1 : ∀ j, ¬ inIds j → hp2 j = hp1 j := fun j h => B1 j fun i p hp_ e => h ⟨i, p, hp_, e⟩
  have hlentRow : ∀ j, j ∈ ps.lent → live (hp j) := hi.rows
  have hlentOut : ∀ j, j ∈ ps.lent → ¬ inIds j := by
    rintro j hj ⟨k, p, hp_, rfl⟩
    have hr := hlentRow _ hj
    rcases P1.src k p hp_ with h1 | ⟨h1, _⟩
    · exact hi.apart k p.1 p.2 h1 hj
    · rw [h1] at hr; exact hr
  have hNids : ∀ j, inIds j → hpN j = hp2 j := by
    intro j hj
    rcases N1 j with h | ⟨h, _⟩
    · exact h
    · exact absurd hj (hlentOut j h)
  have hNout : ∀ j, ¬ inIds j → hpN j = hp j ∨ (hp j = .unused ∧ hpN j = .gone) ∨ (j ∈ ps.lent ∧ ∃ e t l, hp j = .row e t l ∧ hpN j = .frz t l) := by
    intro j hj
    have h1 := hB1 j hj
    rcases N1 j with h | ⟨h0, e, t, l, h2, h3⟩
    · rw [h1] at h
      rcases P1.ch j with g | ⟨g1, g2⟩
      · exact .inl (h.trans g)
      · exact .inr (.inl ⟨g1, h.trans g2⟩)
    · have hr := hlentRow j h0
      have hpj : hp1 j = hp j := P1.old j (fun e => by rw [e] at hr; exact hr)
      rw [h1, hpj] at h2
      exact .inr (.inr ⟨h0, e, t, l, h2, h3⟩)
  let ρN : Nat → Value := fun j => if hj : (hp j = .unused ∨ ∃ a, ρ j = .tuple a) ∧ inIds j then ρ' (Classical.choose hj.2) else ρ j
  have G1 : ∀ j, hp j ≠ .unused → (∀ a, ρ j ≠ .tuple a) → ρN j = ρ j := fun j hj hn => dif_neg (fun h => h.1.elim hj fun ⟨a, e⟩ => hn a e)
  have G1' : ∀ j, ¬ inIds j → ρN j = ρ j := fun j hj => dif_neg (fun h => hj h.2)
  have G2' : ∀ (k : Nat) (p : Nat × Nat), ids[k]? = some p → (∃ a, ρ p.1 = .tuple a) → ρN p.1 = ρ' k := by
    intro k p hp_ hu
    have hj : (hp p.1 = .unused ∨ ∃ a, ρ p.1 = .tuple a) ∧ inIds p.1 := ⟨.inr hu, k, p, hp_, rfl⟩
    show (if hj : (hp p.1 = .unused ∨ ∃ a, ρ p.1 = .tuple a) ∧ inIds p.1 then ρ' (Classical.choose hj.2) else ρ p.1) = ρ' k
    rw [dif_pos hj]
    obtain ⟨q, hq, he⟩ := Classical.choose_spec hj.2
    rw [dist _ k q p hq hp_ he]
  have G2 : ∀ (k : Nat) (p : Nat × Nat), ids[k]? = some p → hp p.1 = .unused → ρN p.1 = ρ' k := by
    intro k p hp_ hu
    have hj : (hp p.1 = .unused ∨ ∃ a, ρ p.1 = .tuple a) ∧ inIds p.1 := ⟨.inl hu, k, p, hp_, rfl⟩
    show (if hj : (hp p.1 = .unused ∨ ∃ a, ρ p.1 = .tuple a) ∧ inIds p.1 then ρ' (Classical.choose hj.2) else ρ p.1) = ρ' k
    rw [dif_pos hj]
    obtain ⟨q, hq, he⟩ := Classical.choose_spec hj.2
    rw [dist _ k q p hq hp_ he]
  have hspot : ∀ j, live (hp j) → ∀ a, ρ j = .pointer (some a) → a.spot = none := by
    intro j hlj a ha
    have hok := H.ok j
    cases hj : hp j with
    | box cs =>
      rw [hj] at hok
      obtain ⟨g, o, C, e, vs, h1, _⟩ := hok
      rw [ha] at h1
      injection h1 with h1
      injection h1 with h1
      subst h1
      rfl
    | row e t l =>
      rw [hj] at hok
      obtain ⟨xs, h1, _⟩ := hok
      rcases h1.2 with ⟨h2, _⟩ | ⟨g, cap, cur, h2, _⟩
      · rw [ha] at h2; cases h2
      · rw [ha] at h2; cases h2
    | unused => rw [hj] at hlj; exact hlj.elim
    | gone => rw [hj] at hlj; exact hlj.elim
    | frz t l => rw [hj] at hlj; exact hlj.elim
    | mp t f =>
      rw [hj] at hok
      obtain ⟨b0, h1, _⟩ := hok
      rw [ha] at h1; cases h1
    | bts l =>
      rw [hj] at hok
      obtain ⟨g, c, h1, _⟩ := hok
      rw [ha] at h1; cases h1
    | tre o fr e be t l cur =>
      rw [hj] at hok
      obtain ⟨v0, ss, us, xs, ht⟩ := hok
      rcases ht.pl with e' | ⟨_, _, _, e'⟩ <;> rw [e'] at ha <;> cases ha
    | bld T c =>
      rw [hj] at hok
      obtain ⟨g, p, v, h1, _⟩ := hok
      rw [ha] at h1
      injection h1 with h1
      injection h1 with h1
      subst h1
      rfl
  have hkm : ∀ (k : Nat) (p : Nat × Nat), ps.m[k]? = some (some p) → k < ps.H.length := fun k p h => by rw [← hi.len]; exact lt_of_get h
  have G3 : ∀ (k : Nat) (p : Nat × Nat), ids[k]? = some p → (ρ' k = shift (ρN p.1) p.2 ∧ (∀ a, ρN p.1 = .pointer (some a) → a.spot = none) ∧ ps.m[k]? = some (some p) ∧ Old (ρ p.1) (ρN p.1)) ∨ (p.2 = 0 ∧ ρ' k = ρN p.1 ∧ hp p.1 = .unused) := by
    intro k p hp_
    rcases P1.src k p hp_ with h1 | ⟨h1, _, h3, _⟩
    · left
      have hliv := hi.liv k p.1 p.2 h1
      have erho : rhoS ρ nilD ps.m k = shift (ρ p.1) p.2 := by unfold rhoS; rw [h1]
      have hk0 := hl.keep k (hkm k p h1)
      rw [erho] at hk0
      by_cases htu : ∃ a, ρ p.1 = .tuple a
      · have e2 := G2' k p hp_ htu
        obtain ⟨a, ea⟩ := htu
        rw [ea, shift_tuple] at hk0
        have htu' : ∃ a', ρ' k = .tuple a' := by
          rcases hk0 with e | ⟨_, h, _⟩
          · exact ⟨a, e⟩
          · exact h
        obtain ⟨a', ea'⟩ := htu'
        refine ⟨by rw [e2, ea', shift_tuple], (fun b e => by rw [e2, ea'] at e; cases e), h1, by rw [e2, ea]; exact hk0⟩
      · have hnt : ∀ a, ρ p.1 ≠ .tuple a := fun a e => htu ⟨a, e⟩
        have e1 := G1 p.1 (hused k p.1 p.2 h1) hnt
        refine ⟨?_, by rw [e1]; exact hspot p.1 hliv, h1, .inl e1⟩
        rw [e1]
        exact hk0.eq (shift_not hnt)
    · exact .inr ⟨h3, (G2 k p hp_ h1).symm, h1⟩
  have Gblk : ∀ (k : Nat) (p : Nat × Nat), ids[k]? = some p → At (ρN p.1) = At (ρ' k) := by
    intro k p hp_
    rcases G3 k p hp_ with ⟨h, _⟩ | ⟨_, h, _⟩
    · rw [h, blk_shift]
    · rw [h]
  have hget : ∀ (k : Nat) (p : Nat × Nat), ids[k]? = some p → H'[k]? = some (hpOf H' k) := by
    intro k p hp_
    have hlt := lt_of_get hp_
    rw [P1.len] at hlt
    rw [hpOf_eq, List.getElem?_eq_getElem hlt]
    rfl
  have hBack : ∀ (k : Nat) (p : Nat × Nat), ids[k]? = some p → Back ids hp1 p (hpOf H' k) (hpN p.1) := by
    intro k p hp_
    rw [hNids p.1 ⟨k, p, hp_, rfl⟩]
    exact B2 k _ p (hget k p hp_) hp_
  have hNu : ∀ (k : Nat) (p : Nat × Nat), ids[k]? = some p → hpN p.1 ≠ .unused := by
    intro k p hp_ e
    have := hBack k p hp_
    rw [e] at this
    cases hh : hpOf H' k <;> rw [hh] at this <;> simp [Back] at this
  have ren : Ren ρ' ρN (hpOf H') hpN ids := by
    refine ⟨fun k hk => ?_, fun k p hp_ _ => ⟨hNu k p hp_, ?_⟩⟩
    · have hlt := lt_of_get (hpOf_get hk)
      rw [← P1.len] at hlt
      exact ⟨_, List.getElem?_eq_getElem hlt⟩
    · rcases G3 k p hp_ with ⟨h1, h2, _⟩ | ⟨h1, h2, _⟩
      · exact .inl ⟨h1, h2⟩
      · exact .inr ⟨h1, h2⟩
  have LN : ∀ j, live (hpN j) → (∃ k : Nat, ∃ p : Nat × Nat, ids[k]? = some p ∧ p.1 = j ∧ live (hpOf H' k)) ∨ (¬ inIds j ∧ live (hp j) ∧ hpN j = hp j ∧ ((hasCon res || hasConH H') = true → j ∉ ps.lent)) := by
    intro j hj
    by_cases hin : inIds j
    · obtain ⟨k, p, hp_, rfl⟩ := hin
      left
      refine ⟨k, p, hp_, rfl, ?_⟩
      have hb := hBack k p hp_
      cases hh : hpOf H' k with
      | box cs => trivial
      | row e t l => trivial
      | mp t f => trivial
      | bts l => trivial
      | bld T c => trivial
      | tre o fr e be t l cur => trivial
      | unused => rw [hh] at hb; exact hb
      | gone => rw [hh] at hb; rw [show hpN p.1 = .gone from hb] at hj; exact hj
      | frz t l => rw [hh] at hb; rw [show hpN p.1 = .frz t l from hb] at hj; exact hj
    · right
      rcases hNout j hin with h | ⟨_, h⟩ | ⟨_, e, t, l, _, h⟩
      · refine ⟨hin, by rw [← h]; exact hj, h, fun hc hmem => ?_⟩
        exact N2 hc j hmem (by rw [h]; exact hlentRow j hmem)
      · rw [h] at hj; exact hj.elim
      · rw [h] at hj; exact hj.elim
  have hDlv : ∀ b, Lv (hpOf ps.H) (rhoS ρ nilD ps.m) b → ∃ k i off : Nat, ps.m[k]? = some (some (i, off)) ∧ live (hp i) ∧ At (ρ i) b := by
    rintro b ⟨k, hlk, hbk⟩
    have hne : hpOf ps.H k ≠ .unused := fun e => by rw [e] at hlk; exact hlk
    rcases hi.src k _ (hpOf_get hne) hlk with ⟨i, off, h1, h2⟩ | h1
    · refine ⟨k, i, off, h1, h2, ?_⟩
      exact at_src h1 hbk
    · exact (h1 _ hbk).elim
  have hmIds : ∀ k i off : Nat, ps.m[k]? = some (some (i, off)) → inIds i := by
    intro k i off h
    have hlt : k < ids.length := by rw [P1.len]; exact Nat.lt_of_lt_of_le (hkm k _ h) hlen
    refine ⟨k, ids[k], List.getElem?_eq_getElem hlt, ?_⟩
    rcases P1.src k _ (List.getElem?_eq_getElem hlt) with g | ⟨_, _, _, g⟩
    · rw [h] at g
      injection g with g
      injection g with g
      rw [← g]
    · rcases g with g | g <;> rw [h] at g <;> cases g
  have nwl : ∀ b, b < w.heap.size → Lv hpN ρN b → Lv hp ρ b := by
    rintro b hb ⟨j, hj, hbj⟩
    rcases LN j hj with ⟨k, p, hp_, rfl, hlk⟩ | ⟨hout, hlj, _, _⟩
    · rw [Gblk k p hp_] at hbj
      obtain ⟨k2, i, off, _, h2, h3⟩ := hDlv b (hl.nwl b hb ⟨k, hlk, hbj⟩)
      exact ⟨i, h2, h3⟩
    · rw [G1' j hout] at hbj
      exact ⟨j, hlj, hbj⟩
  have outNotD : ∀ j, ¬ inIds j → live (hp j) → ∀ b, At (ρ j) b → ¬ Lv (hpOf ps.H) (rhoS ρ nilD ps.m) b := by
    intro j hout hlj b hbj hD
    obtain ⟨k, i, off, h1, h2, h3⟩ := hDlv b hD
    have := H.sep i j b h2 hlj h3 hbj
    subst this
    exact hout (hmIds k i off h1)
  have hMN : ∀ b, b < w'.heap.size → (hasCon res || hasConH H') = true → Mut MX hpN ρN b → Mut (MXc MX ρ nilD hp ps) (hpOf H') ρ' b := by
    rintro b hb hc (hm | ⟨j, hj, hbj⟩)
    · refine .inl ⟨⟨.inl hm, fun ⟨i, hmem, hbi⟩ => ?_⟩, fun hD => ?_⟩
      · exact H.ext i b (hlentRow i hmem) hbi hm
      · obtain ⟨k, i, off, _, h2, h3⟩ := hDlv b hD
        exact H.ext i b h2 h3 hm
    · rcases LN j hj with ⟨k, p, hp_, rfl, hlk⟩ | ⟨hout, hlj, _, hnl⟩
      · rw [Gblk k p hp_] at hbj
        exact .inr ⟨k, hlk, hbj⟩
      · rw [G1' j hout] at hbj
        refine .inl ⟨⟨.inr ⟨j, hlj, hbj⟩, fun ⟨i, hmem, hbi⟩ => ?_⟩, outNotD j hout hlj b hbj⟩
        have := H.sep j i b hlj (hlentRow i hmem) hbj hbi
        subst this
        exact hnl hc hmem
  have old : ∀ j, hp j ≠ .unused → Old (ρ j) (ρN j) ∧ hpN j ≠ .unused := by
    intro j hj
    by_cases hin : inIds j
    · obtain ⟨k, p, hp_, rfl⟩ := hin
      refine ⟨?_, hNu k p hp_⟩
      rcases G3 k p hp_ with ⟨_, _, _, h⟩ | ⟨_, _, h⟩
      · exact h
      · exact absurd h hj
    · refine ⟨.inl (G1' j hin), ?_⟩
      rcases hNout j hin with h | ⟨_, h⟩ | ⟨_, _, _, _, _, h⟩
      · rw [h]; exact hj
      · rw [h]; simp
      · rw [h]; simp
  have hnew : ∀ b, b < w.heap.size → Mut MX hpN ρN b → Mut MX hp ρ b := fun b hb hm => hm.imp id (nwl b hb)
  have hD' : ∀ b, b < w.heap.size → Lv (hpOf ps.H) (rhoS ρ nilD ps.m) b → Mut MX hp ρ b := fun b _ hD => by
    obtain ⟨_, i, _, _, h2, h3⟩ := hDlv b hD
    exact .inr ⟨i, h2, h3⟩
  have hoffD : ∀ (a : AV) (y : Value), R (Mut MX hp ρ) w ρ hp a y → R (Mut MX hpN ρN) w' ρN hpN a y := fun a y h => R_step hl.off hD' hnew old a h
  have hconOr : ∀ {c : Bool}, (c = true → (hasCon res || hasConH H') = true) → (∀ b, b < w'.heap.size → Mut MX hpN ρN b → Mut (MXc MX ρ nilD hp ps) (hpOf H') ρ' b) ∨ c = false := by
    intro c hc
    cases c with
    | true => exact .inl fun b hb hm => hMN b hb (hc rfl) hm
    | false => exact .inr rfl
  refine ⟨_, _, hpN, _, _, ρN, hK, ?_, rn_R ren res (hconOr (c := hasCon res) (fun h => by simp [h])) hl.r⟩
  refine Step.mk' (D := Lv (hpOf ps.H) (rhoS ρ nilD ps.m)) H hl.off (fun b _ hD => by obtain ⟨_, i, _, _, h2, h3⟩ := hDlv b hD; exact ⟨i, h2, h3⟩) old nwl ?_ ?_ ?_ ?_
  · intro j
    by_cases hin : inIds j
    · obtain ⟨k, p, hp_, rfl⟩ := hin
      right
      have hb := hBack k p hp_
      have hok := hl.rel.ok k
      cases hh : hpOf H' k with
      | unused => rw [hh] at hb; exact hb.elim
      | gone => rw [hh] at hb; rw [show hpN p.1 = .gone from hb]; trivial
      | tre o fr e be t l cur =>
        rw [hh] at hb hok
        obtain ⟨hc0, hb⟩ := hb
        subst hc0
        rw [hb]
        obtain ⟨v0, ss, us, xs, ht⟩ := hok
        have hρ : ρN p.1 = ρ' k := by
          rcases G3 k p hp_ with ⟨g, _⟩ | ⟨_, g, _⟩
          · rcases ht.pl with e' | ⟨_, _, _, e'⟩
            · exact (shift_tup (g.symm.trans e')).trans e'.symm
            · exact (shift_slice (g.symm.trans e')).trans e'.symm
          · exact g.symm
        exact ⟨v0, ss, us, xs, ht.free (hconOr (c := t.deep) (fun h => by have := conH (hget k p hp_) (by rw [hh]; exact h); simp [this])) hρ⟩
      | frz t l =>
        rw [hh] at hb hok
        rw [show hpN p.1 = .frz t l from hb]
        obtain ⟨A, c, h1, h2, h3⟩ := hok
        refine ⟨A, c, ?_, h2, ?_⟩
        · rcases G3 k p hp_ with ⟨g, _⟩ | ⟨_, g, _⟩
          · exact shift_slice (g.symm.trans h1)
          · exact g.symm.trans h1
        · have hc := conH (hget k p hp_) (by rw [hh])
          exact RowR_step (D := fun _ => False) t.sz_pos (Off.refl _ _) (fun _ _ h => h.elim) (fun b hb hm => hMN b hb (by simp [hc]) hm) (fun _ _ h => KR_step (D := fun _ => False) (Off.refl _ _) (fun _ _ h => h.elim) (fun b hb hm => hMN b hb (by simp [hc]) hm) t h) h3
      | mp t f =>
        rw [hh] at hb hok
        rw [show hpN p.1 = .mp t f from hb]
        obtain ⟨b0, h1, h2⟩ := hok
        refine ⟨b0, ?_, h2⟩
        rcases G3 k p hp_ with ⟨g, _⟩ | ⟨_, g, _⟩
        · exact shift_map (g.symm.trans h1)
        · exact g.symm.trans h1
      | bld T c =>
        rw [hh] at hb hok
        obtain ⟨hb0, hb⟩ := hb
        rw [hb]
        obtain ⟨g0, p0, v0, h1, h2, h3, h4⟩ := hok
        refine ⟨g0, p0, v0, ?_, h2, h3, rn_R ren c (hconOr (c := hasCon c) (fun h => by have := conH (hget k p hp_) (by rw [hh]; exact h); simp [this])) h4⟩
        rcases G3 k p hp_ with ⟨g, gs, _⟩ | ⟨_, g, _⟩
        · rw [h1, hb0] at g
          cases hv : ρN p.1 with
          | pointer a =>
            cases a with
            | none => rw [hv] at g; simp [shift] at g
            | some a =>
              have hsp := gs a hv
              rw [hv] at g
              simp only [shift] at g
              injection g with g
              injection g with g
              injection g with e1 e2
              obtain ⟨ab, ao, asp⟩ := a
              simp only at e1 e2 hsp
              subst e1 hsp
              have : ao = 0 := by omega
              subst this
              rfl
          | _ => rw [hv] at g; simp [shift] at g
        · exact g.symm.trans h1
      | bts l =>
        rw [hh] at hb hok
        rw [show hpN p.1 = .bts l from hb]
        obtain ⟨g0, c0, h1, h2⟩ := hok
        refine ⟨g0, c0, ?_, h2⟩
        rcases G3 k p hp_ with ⟨g, _⟩ | ⟨_, g, _⟩
        · exact shift_slice (g.symm.trans h1)
        · exact g.symm.trans h1
      | row e t l =>
        rw [hh] at hb hok
        rw [show hpN p.1 = .row e t l from hb]
        obtain ⟨xs, h1, h2⟩ := hok
        have hρ : ρN p.1 = ρ' k := by
          rcases G3 k p hp_ with ⟨g, _⟩ | ⟨_, g, _⟩
          · rcases h1.2 with ⟨h3, _⟩ | ⟨g', cap, cur, h3, _⟩
            · rw [h3]; exact shift_slice (g.symm.trans h3)
            · rw [h3]; exact shift_slice (g.symm.trans h3)
          · exact g.symm
        refine ⟨xs, by rw [hρ]; exact h1, Els.imp (fun x cs hkr => ?_) h2⟩
        rcases hconOr (c := t.hasSl) (fun h => by have := conH (hget k p hp_) (by rw [hh]; exact h); simp [this]) with hM | hM
        · exact KR_step (D := fun _ => False) (Off.refl _ _) (fun _ _ h => h.elim) hM t hkr
        · exact KR_free t hM hkr
      | box cs =>
        rw [hh] at hb hok
        obtain ⟨g, o, C, e, vs, h1, h2, h3, h4⟩ := hok
        have hrn : Rs (Mut MX hpN ρN) w' ρN hpN (rns ids cs) vs := rns_R ren cs (hconOr (c := hasCons cs) (fun h => by have := conH (hget k p hp_) (by rw [hh]; exact h); simp [this])) h3
        have hvl := Rs_len h3
        rcases hb with ⟨olds, hb1, hb2, hb3⟩ | ⟨hb1, hb2, hb3⟩
        · rw [hb3]
          -- a box that was there
          have hpk : ps.m[k]? = some (some p) ∧ hp p.1 = .box olds := by
            rcases P1.src k p hp_ with q | ⟨_, q, _⟩
            · exact ⟨q, by rw [← P1.old p.1 (hused k p.1 p.2 q)]; exact hb1⟩
            · rw [hb1] at q; cases q
          obtain ⟨hm, hold⟩ := hpk
          have hokj := H.ok p.1
          rw [hold] at hokj
          obtain ⟨g0, o0, C0, e0, vs0, f1, f2, f3, f4⟩ := hokj
          have hv0 := Rs_len f3
          have hρ : ρN p.1 = ρ p.1 := G1 p.1 (hused k p.1 p.2 hm) (fun a e => by rw [f1] at e; cases e)
          have hsh : g = g0 ∧ o = o0 + p.2 := by
            rcases G3 k p hp_ with ⟨q, _⟩ | ⟨_, _, q⟩
            · rw [h1, hρ, f1] at q
              simp only [shift] at q
              injection q with q
              injection q with q
              injection q with q1 q2
              exact ⟨q1, q2⟩
            · rw [hold] at q; cases q
          obtain ⟨rfl, rfl⟩ := hsh
          -- the callee's own box
          have hkind : ∃ csk, hpOf ps.H k = .box csk := by
            have hlt := hkm k p hm
            rcases hi.kind k p.1 p.2 _ hm (List.getElem?_eq_getElem hlt) with q | ⟨cs1, _, q, _⟩ | ⟨q, _, qn⟩ | ⟨_, _, _, q, q2, _⟩
            · exact absurd (by rw [List.getElem?_eq_getElem hlt, q]) (full_ne hfull k)
            · exact ⟨cs1, by rw [hpOf_some (List.getElem?_eq_getElem hlt)]; exact q⟩
            · rw [hold] at q; exact absurd q.symm (qn _)
            · rw [hold] at q2; cases q2
          obtain ⟨csk, hcsk⟩ := hkind
          obtain ⟨cs2, k1, k2, k3⟩ := hl.bx k csk hcsk
          rw [hh] at k1
          injection k1 with k1
          subst k1
          have hrk : rhoS ρ nilD ps.m k = .pointer (some ⟨g, o0 + p.2, none⟩) := by
            have hk0 := hl.keep k (hkm k p hm)
            rcases hk0 with e | ⟨_, ⟨a, e⟩, _⟩
            · rw [← e]; exact h1
            · rw [e] at h1; cases h1
          obtain ⟨C1, C2, e1, i1, i2, i3, i4⟩ := k3 g (o0 + p.2) hrk
          rw [f2] at i1
          injection i1 with i1
          injection i1 with i1 i1e
          subst i1
          rw [h2] at i2
          injection i2 with i2
          injection i2 with i2 i2e
          subst i2
          have hoT : Rs (Mut MX hpN ρN) w' ρN hpN olds vs0 := Rs_step hl.off hD' hnew old olds f3
          refine ⟨g, o0, C, e, vs0.take p.2 ++ vs ++ vs0.drop (p.2 + vs.length), by rw [hρ]; exact f1, h2, ?_, fun j u hj => ?_⟩
          · have := Rs_splice hoT hrn p.2
            exact this
          · rw [List.append_assoc] at hj
            by_cases j1 : j < p.2
            · rw [List.getElem?_append_left (by simp; omega), List.getElem?_take, if_pos j1] at hj
              rw [i4 _ (.inl (by omega))]
              exact f4 j u hj
            · have ht : (vs0.take p.2).length = p.2 := by simp; omega
              rw [List.getElem?_append_right (by omega), ht] at hj
              by_cases j2 : j - p.2 < vs.length
              · rw [List.getElem?_append_left j2] at hj
                have := h4 _ u hj
                rw [← this]
                congr 1
                omega
              · rw [List.getElem?_append_right (by omega), List.getElem?_drop] at hj
                rw [i4 _ (.inr (by omega))]
                have := f4 _ u hj
                rw [← this]
                congr 1
                omega
        · rw [hb3]
          have hun : hp p.1 = .unused := by
            rcases P1.src k p hp_ with q | ⟨q, _⟩
            · have hne := hused k p.1 p.2 q
              rw [P1.old p.1 hne] at hb1
              have := hi.liv k p.1 p.2 q
              rw [hb1] at this
              exact this.elim
            · exact q
          exact ⟨g, o, C, e, vs, by rw [G2 k p hp_ hun]; exact h1, h2, hrn, h4⟩
    · rcases hNout j hin with h | ⟨h1, h2⟩ | ⟨h0, e, t, l, h1, h2⟩
      · exact .inl ⟨h, G1' j hin, fun hlj b hbj => outNotD j hin hlj b hbj⟩
      · right; rw [h2]; trivial
      · right
        rw [h2]
        have hok := H.ok j
        rw [h1] at hok
        obtain ⟨xs, g1, g2⟩ := hok
        obtain ⟨A, c, hv', hle, hr⟩ := own_reads g1 g2
        refine ⟨A, c, by rw [G1' j hin]; exact hv', hle, ?_⟩
        have hr' := hr (fun b => Mut MX hp ρ b ∧ ¬ At (ρ j) b) (fun b _ h => h)
        have hDn : ∀ b, b < w.heap.size → Lv (hpOf ps.H) (rhoS ρ nilD ps.m) b → Mut MX hp ρ b ∧ ¬ At (ρ j) b := fun b hb hD => ⟨hD' b hb hD, fun e => outNotD j hin (by rw [h1]; trivial) b e hD⟩
        have hMn : ∀ b, b < w.heap.size → Mut MX hpN ρN b → Mut MX hp ρ b ∧ ¬ At (ρ j) b := by
          intro b hb hm
          refine ⟨hnew b hb hm, fun e => ?_⟩
          rcases hm with hm | ⟨j', hj', hbj'⟩
          · exact H.ext j b (by rw [h1]; trivial) e hm
          · rcases LN j' hj' with ⟨k, p, hp_, rfl, hlk⟩ | ⟨hout, hlj, hsame, _⟩
            · rw [Gblk k p hp_] at hbj'
              exact outNotD j hin (by rw [h1]; trivial) b e (hl.nwl b hb ⟨k, hlk, hbj'⟩)
            · rw [G1' j' hout] at hbj'
              have := H.sep j' j b hlj (by rw [h1]; trivial) hbj' e
              subst this
              rw [h2] at hj'
              exact hj'
        exact RowR_step t.sz_pos hl.off hDn hMn (fun _ _ h => KR_step hl.off hDn hMn t h) hr'
  · intro j j' b hj hj' hbj hbj'
    rcases LN j hj with ⟨k, p, hp_, rfl, hlk⟩ | ⟨hout, hlj, _, _⟩ <;> rcases LN j' hj' with ⟨k', p', hp_', rfl, hlk'⟩ | ⟨hout', hlj', _, _⟩
    · rw [Gblk k p hp_] at hbj
      rw [Gblk k' p' hp_'] at hbj'
      have := hl.rel.sep k k' b hlk hlk' hbj hbj'
      subst this
      rw [hp_] at hp_'
      injection hp_' with e
      rw [e]
    · rw [Gblk k p hp_] at hbj
      rw [G1' j' hout'] at hbj'
      exact absurd (hl.nwl b (H.lt hlj' hbj') ⟨k, hlk, hbj⟩) (outNotD j' hout' hlj' b hbj')
    · rw [Gblk k' p' hp_'] at hbj'
      rw [G1' j hout] at hbj
      exact absurd (hl.nwl b (H.lt hlj hbj) ⟨k', hlk', hbj'⟩) (outNotD j hout hlj b hbj)
    · rw [G1' j hout] at hbj
      rw [G1' j' hout'] at hbj'
      exact H.sep j j' b hlj hlj' hbj hbj'
  · intro j b hj hbj hm
    rcases LN j hj with ⟨k, p, hp_, rfl, hlk⟩ | ⟨hout, hlj, _, _⟩
    · rw [Gblk k p hp_] at hbj
      obtain ⟨_, i, _, _, h2, h3⟩ := hDlv b (hl.nwl b (H.mx b hm) ⟨k, hlk, hbj⟩)
      exact H.ext i b h2 h3 hm
    · rw [G1' j hout] at hbj
      exact H.ext j b hlj hbj hm
  · intro j cs hj
    by_cases hin : inIds j
    · right
      obtain ⟨k, p, hp_, rfl⟩ := hin
      have hm : ps.m[k]? = some (some p) := by
        rcases P1.src k p hp_ with q | ⟨q, _⟩
        · exact q
        · rw [hj] at q; cases q
      have hlt := hkm k p hm
      have hkind : ∃ csk, hpOf ps.H k = .box csk ∧ p.2 + csk.length ≤ cs.length := by
        rcases hi.kind k p.1 p.2 _ hm (List.getElem?_eq_getElem hlt) with q | ⟨cs1, cs', q, q', ql⟩ | ⟨q, _, qn⟩ | ⟨_, _, _, q, q2, _⟩
        · exact absurd (by rw [List.getElem?_eq_getElem hlt, q]) (full_ne hfull k)
        · rw [hj] at q'
          injection q' with q'
          subst q'
          exact ⟨cs1, by rw [hpOf_some (List.getElem?_eq_getElem hlt)]; exact q, ql⟩
        · rw [hj] at q; exact absurd q.symm (qn _)
        · rw [hj] at q2; cases q2
      obtain ⟨csk, hcsk, hfit⟩ := hkind
      obtain ⟨cs2, k1, k2, k3⟩ := hl.bx k csk hcsk
      have hb := hBack k p hp_
      rw [k1] at hb
      rcases hb with ⟨olds, hb1, hb2, hb3⟩ | ⟨hb1, _, _⟩
      · have hold : hp p.1 = .box olds := by rw [← P1.old p.1 (hused k p.1 p.2 hm)]; exact hb1
        rw [hj] at hold
        injection hold with hold
        subst hold
        refine ⟨_, hb3, by unfold splice; simp [rns_len]; omega, ?_⟩
        intro g o he
        have hrk : rhoS ρ nilD ps.m k = .pointer (some ⟨g, o + p.2, none⟩) := by
          unfold rhoS
          rw [hm]
          simp only [he, shift]
        obtain ⟨C1, C2, e1, i1, i2, i3, i4⟩ := k3 g (o + p.2) hrk
        exact ⟨C1, C2, e1, i1, i2, i3, fun j hj' => i4 j (by omega)⟩
      · rw [P1.old p.1 (hused k p.1 p.2 hm), hj] at hb1
        cases hb1
    · left
      rcases hNout j hin with h | ⟨h, _⟩ | ⟨_, _, _, _, h, _⟩
      · exact ⟨h, fun b hbj => outNotD j hin (by rw [hj]; trivial) b hbj⟩
      · rw [hj] at h; cases h
      · rw [hj] at h; cases h
end Go.Proofs.YtommgpkeicpokaaGreatDoor.Abs
