/- Code, loops, functions. -/
import Derived.Test.YtommgpkeicpokaaGreatDoorAbsDraw
namespace Go.Proofs.YtommgpkeicpokaaGreatDoor.Abs
open Go Go.RowKit
set_option linter.unusedVariables false
set_option linter.unusedSectionVars false
set_option linter.unusedSimpArgs false

def er : TI → Item
  | .code c _ => .code c
  | .inBlock id => .inBlock id
  | .inLoop c _ => .inLoop c

theorem csz_pos : (c : Code) → 0 < csz c
  | .seq _ _ => Nat.succ_pos _
  | .cond _ _ _ => Nat.succ_pos _
  | .block _ _ => Nat.succ_pos _
  | .loop _ => Nat.succ_pos _
  | .skip => Nat.one_pos
  | .region _ _ _ => Nat.one_pos
  | .rangeFunc _ _ _ _ => Nat.one_pos
  | .exit _ => Nat.one_pos
  | .scope _ => Nat.one_pos
  | .label _ => Nat.one_pos
  | .goto _ => Nat.one_pos
  | .ret => Nat.one_pos
  | .refuse _ => Nat.one_pos

theorem beq_self (q : Nat) : Nat.beq q q = true := Nat.beq_refl q
theorem beq_ne {q p : Nat} (h : q ≠ p) : Nat.beq q p = false := by
  cases hb : Nat.beq q p with
  | true => exact absurd (Nat.eq_of_beq_eq_true hb) h
  | false => rfl
theorem ble_no {q p : Nat} (h : ¬ p ≤ q) : Nat.ble p q = false := by
  cases hb : Nat.ble p q with
  | true => exact absurd (Nat.le_of_ble_eq_true hb) h
  | false => rfl
theorem ble_yes {q p : Nat} (h : p ≤ q) : Nat.ble p q = true := Nat.ble_eq_true_of_le h

theorem tk_self (c : Code) (p : Nat) (t : List TI) : tk c p t p = some (.code c p :: t) := by
  unfold tk
  rw [beq_self]

theorem tk_seq {a b : Code} {p q : Nat} {t : List TI} (h : q ≠ p) : tk (.seq a b) p t q = if p + 1 + csz a ≤ q then tk b (p + 1 + csz a) t q else tk a (p + 1) (.code b (p + 1 + csz a) :: t) q := by
  rw [tk, beq_ne h]
  by_cases hl : p + 1 + csz a ≤ q
  · rw [if_pos hl, ble_yes hl]
  · rw [if_neg hl, ble_no hl]
theorem tk_cond {o : Operand} {a b : Code} {p q : Nat} {t : List TI} (h : q ≠ p) : tk (.cond o a b) p t q = if p + 1 + csz a ≤ q then tk b (p + 1 + csz a) t q else tk a (p + 1) t q := by
  rw [tk, beq_ne h]
  by_cases hl : p + 1 + csz a ≤ q
  · rw [if_pos hl, ble_yes hl]
  · rw [if_neg hl, ble_no hl]
theorem tk_block {id : Nat} {a : Code} {p q : Nat} {t : List TI} (h : q ≠ p) : tk (.block id a) p t q = tk a (p + 1) (.inBlock id :: t) q := by
  rw [tk, beq_ne h]
theorem tk_loop {a : Code} {p q : Nat} {t : List TI} (h : q ≠ p) : tk (.loop a) p t q = tk a (p + 1) (.inLoop a p :: t) q := by
  rw [tk, beq_ne h]

theorem tk_trans : (c0 : Code) → {p0 : Nat} → {t0 : List TI} → {p : Nat} → {c : Code} → {p' : Nat} → {t : List TI} → tk c0 p0 t0 p = some (.code c p' :: t) →
    p' = p ∧ p0 ≤ p ∧ p + csz c ≤ p0 + csz c0 ∧ ∀ q, p ≤ q → q < p + csz c → tk c0 p0 t0 q = tk c p t q := by
  intro c0
  have base : ∀ (c0 : Code) {p0 : Nat} {t0 : List TI} {p : Nat} {c : Code} {p' : Nat} {t : List TI}, p = p0 → tk c0 p0 t0 p = some (.code c p' :: t) → p' = p ∧ p0 ≤ p ∧ p + csz c ≤ p0 + csz c0 ∧ ∀ q, p ≤ q → q < p + csz c → tk c0 p0 t0 q = tk c p t q := by
    intro c0 p0 t0 p c p' t e h
    subst e
    rw [tk_self] at h
    injection h with h
    injection h with h1 h2
    injection h1 with h1 h3
    subst h1 h2 h3
    exact ⟨rfl, Nat.le_refl _, Nat.le_refl _, fun _ _ _ => rfl⟩
  induction c0 with
  | seq a b iha ihb =>
    intro p0 t0 p c p' t h
    by_cases e : p = p0
    · exact base _ e h
    · rw [tk_seq e] at h
      split at h
      · rename_i hl
        obtain ⟨h1, h2, h3, h4⟩ := ihb h
        refine ⟨h1, by omega, by simp only [csz]; omega, fun q hq1 hq2 => ?_⟩
        rw [tk_seq (by omega), if_pos (by omega)]
        exact h4 q hq1 hq2
      · rename_i hl
        obtain ⟨h1, h2, h3, h4⟩ := iha h
        refine ⟨h1, by omega, by simp only [csz]; omega, fun q hq1 hq2 => ?_⟩
        rw [tk_seq (by omega), if_neg (by omega)]
        exact h4 q hq1 hq2
  | cond o a b iha ihb =>
    intro p0 t0 p c p' t h
    by_cases e : p = p0
    · exact base _ e h
    · rw [tk_cond e] at h
      split at h
      · rename_i hl
        obtain ⟨h1, h2, h3, h4⟩ := ihb h
        refine ⟨h1, by omega, by simp only [csz]; omega, fun q hq1 hq2 => ?_⟩
        rw [tk_cond (by omega), if_pos (by omega)]
        exact h4 q hq1 hq2
      · rename_i hl
        obtain ⟨h1, h2, h3, h4⟩ := iha h
        refine ⟨h1, by omega, by simp only [csz]; omega, fun q hq1 hq2 => ?_⟩
        rw [tk_cond (by omega), if_neg (by omega)]
        exact h4 q hq1 hq2
  | block id a iha =>
    intro p0 t0 p c p' t h
    by_cases e : p = p0
    · exact base _ e h
    · rw [tk_block e] at h
      obtain ⟨h1, h2, h3, h4⟩ := iha h
      refine ⟨h1, by omega, by simp only [csz]; omega, fun q hq1 hq2 => ?_⟩
      rw [tk_block (by omega)]
      exact h4 q hq1 hq2
  | loop a iha =>
    intro p0 t0 p c p' t h
    by_cases e : p = p0
    · exact base _ e h
    · rw [tk_loop e] at h
      obtain ⟨h1, h2, h3, h4⟩ := iha h
      refine ⟨h1, by omega, by simp only [csz]; omega, fun q hq1 hq2 => ?_⟩
      rw [tk_loop (by omega)]
      exact h4 q hq1 hq2
  | _ =>
    intro p0 t0 p c p' t h
    by_cases e : p = p0
    · exact base _ e h
    · unfold tk at h
      rw [beq_ne e] at h
      cases h

/-- What is still to be done is what the numbers say. -/
def Fits (body : Code) : List TI → Prop
  | [] => True
  | .code c p :: t => tk body 0 [] p = some (.code c p :: t) ∧ Fits body t
  | .inLoop c p :: t => tk body 0 [] p = some (.code (.loop c) p :: t) ∧ Fits body t
  | .inBlock _ :: t => Fits body t

theorem fits_sub {body c : Code} {p : Nat} {t : List TI} (h : tk body 0 [] p = some (.code c p :: t)) {q : Nat} {x : TI} {t' : List TI} (h1 : p ≤ q) (h2 : q < p + csz c) (h3 : tk c p t q = some (x :: t')) : tk body 0 [] q = some (x :: t') := by
  rw [(tk_trans body h).2.2.2 q h1 h2, h3]

theorem fits_seq {body a b : Code} {p : Nat} {t : List TI} (h : Fits body (.code (.seq a b) p :: t)) : Fits body (.code a (p + 1) :: .code b (p + 1 + csz a) :: t) := by
  have ha := csz_pos a
  have hb := csz_pos b
  refine ⟨fits_sub h.1 (by omega) (by simp only [csz]; omega) ?_, fits_sub h.1 (by omega) (by simp only [csz]; omega) ?_, h.2⟩
  · rw [tk_seq (by omega), if_neg (by omega), tk_self]
  · rw [tk_seq (by omega), if_pos (by omega), tk_self]
theorem fits_cond {body a b : Code} {o : Operand} {p : Nat} {t : List TI} (h : Fits body (.code (.cond o a b) p :: t)) : Fits body (.code a (p + 1) :: t) ∧ Fits body (.code b (p + 1 + csz a) :: t) := by
  have ha := csz_pos a
  have hb := csz_pos b
  refine ⟨⟨fits_sub h.1 (by omega) (by simp only [csz]; omega) ?_, h.2⟩, fits_sub h.1 (by omega) (by simp only [csz]; omega) ?_, h.2⟩
  · rw [tk_cond (by omega), if_neg (by omega), tk_self]
  · rw [tk_cond (by omega), if_pos (by omega), tk_self]
theorem fits_block {body a : Code} {id p : Nat} {t : List TI} (h : Fits body (.code (.block id a) p :: t)) : Fits body (.code a (p + 1) :: .inBlock id :: t) := by
  have ha := csz_pos a
  refine ⟨fits_sub h.1 (by omega) (by simp only [csz]; omega) ?_, h.2⟩
  rw [tk_block (by omega), tk_self]
theorem fits_loop {body a : Code} {p : Nat} {t : List TI} (h : Fits body (.code (.loop a) p :: t)) : Fits body (.code a (p + 1) :: .inLoop a p :: t) := by
  have ha := csz_pos a
  refine ⟨fits_sub h.1 (by omega) (by simp only [csz]; omega) ?_, h.1, h.2⟩
  rw [tk_loop (by omega), tk_self]
theorem fits_exit {body : Code} {id : Nat} : {t t' : List TI} → Fits body t → exitA id t = some t' → Fits body t' ∧ exitTo id (t.map er) = some (t'.map er)
  | [], _, _, h => by cases h
  | .inBlock i :: t, t', hf, h => by
    unfold exitA at h
    simp only [List.map_cons, er, exitTo]
    split at h
    · rename_i hb
      have := Nat.eq_of_beq_eq_true hb
      subst this
      injection h with h
      subst h
      exact ⟨hf, by simp⟩
    · rename_i hb
      obtain ⟨h1, h2⟩ := fits_exit (t := t) hf h
      refine ⟨h1, ?_⟩
      have : (i == id) = false := by
        cases hq : i == id with
        | false => rfl
        | true => rw [beq_iff_eq] at hq; subst hq; rw [beq_self] at hb; cases hb
      rw [this]
      exact h2
  | .code c p :: t, t', hf, h => by
    obtain ⟨h1, h2⟩ := fits_exit (t := t) hf.2 h
    exact ⟨h1, h2⟩
  | .inLoop c p :: t, t', hf, h => by
    obtain ⟨h1, h2⟩ := fits_exit (t := t) hf.2 h
    exact ⟨h1, h2⟩

/-- From here the function ends as it should. -/
def Fine (P : Program) (b : Frame) (todo : List Item) (a : Act) (w : World) (Rr : Ending → World → Prop) : Prop :=
  ∀ cs, ∃ e w' fr, Rr e w' ∧ Comes P (lone (b.at a todo) cs w) (lone fr cs w') e ∧ fr.fn = b.fn ∧ fr.leaving P w' e

theorem Fine.step {P : Program} {b : Frame} {todo todo' : List Item} {a a' : Act} {w w' : World} {Rr : Ending → World → Prop} (h : ∀ cs, Steps P (lone (b.at a todo) cs w) (lone (b.at a' todo') cs w')) (g : Fine P b todo' a' w' Rr) : Fine P b todo a w Rr := by
  intro cs
  obtain ⟨e, w2, fr, h1, h2, h3⟩ := g cs
  exact ⟨e, w2, fr, h1, Comes.of_steps (h cs) h2, h3⟩

theorem Fine.wp {P : Program} {b : Frame} {c : Code} {todo : List Item} {a : Act} {w : World} {Rr : Ending → World → Prop} (h : c.wp P (fun e a' w' => e = .normal ∧ Fine P b todo a' w' Rr) a w) : Fine P b (.code c :: todo) a w Rr := by
  intro cs
  obtain ⟨e, a', w', ⟨rfl, hq⟩, harr⟩ := h b todo cs
  obtain ⟨e, w2, fr, h1, h2, h3⟩ := hq cs
  exact ⟨e, w2, fr, h1, Comes.of_steps harr h2, h3⟩

/-! ### Entries that came in, results, points -/
section
variable {MX : Nat → Prop} {w w0 : World} {ρ ρ0 : Nat → Value} {hp : Heap} {H0 : List HE} {n0 : Nat}

/-- Places that are kept for what came in. -/
def dK (ρ : Nat → Value) (n0 : Nat) : Nat → Value := fun k => if k < n0 then ρ k else .slice none 0 0

def IC.held : IC → Bool
  | .drop => false
  | _ => true

/-- What may be kept: a row or a map. -/
def Kp (h : HE) : Prop := (∃ e t l, h = .row e t l) ∨ (∃ t f, h = .mp t f) ∨ ∃ o fr e be t l, h = .tre o fr e be t l none
theorem Kp.live {h : HE} (k : Kp h) : Abs.live h := by
  rcases k with ⟨e, t, l, rfl⟩ | ⟨t, f, rfl⟩ | ⟨o, fr, e, be, t, l, rfl⟩ <;> trivial
theorem Kp.ne {h : HE} (k : Kp h) : h ≠ .unused ∧ ∀ cs, h ≠ .box cs := by
  rcases k with ⟨e, t, l, rfl⟩ | ⟨t, f, rfl⟩ | ⟨o, fr, e, be, t, l, rfl⟩ <;> simp
/-- Where it stands bears no offset. -/
theorem Kp.shift {M : Nat → Prop} {w : World} {ρ : Nat → Value} {hp : Heap} {i : Nat} {h : HE} (k : Kp h) (ok : HEok M w ρ hp i h) : Abs.shift (ρ i) 0 = ρ i := by
  rcases k with ⟨e, t, l, rfl⟩ | ⟨t, f, rfl⟩ | ⟨o, fr, e, be, t, l, rfl⟩
  rotate_left
  rotate_left
  · obtain ⟨v0, ss, us, xs, ht⟩ := ok
    rcases ht.pl with e | ⟨_, _, _, e⟩ <;> rw [e] <;> rfl
  · obtain ⟨xs, g1, _⟩ := ok
    rcases g1.2 with h | ⟨g, cap, cur, h, _⟩
    · rw [h.1]; rfl
    · rw [h]; rfl
  · obtain ⟨b, g1, _⟩ := ok
    rw [g1]; rfl
theorem Kp.ms {MX : Nat → Prop} {w : World} {ρ ρ' : Nat → Value} {hp hp' : Heap} {lent : List Nat} {i : Nat} {h : HE} (k : Kp h) (e : ρ' i = ρ i) (ok : HEok (Mut MX hp ρ) w ρ hp i h) : HEok (Ms MX ρ hp lent) w ρ' hp' i h := by
  rcases k with ⟨e', t, l, rfl⟩ | ⟨t, f, rfl⟩ | ⟨o, fr, e', be, t, l, rfl⟩
  rotate_left
  rotate_left
  · obtain ⟨v0, ss, us, xs, ht⟩ := ok
    exact ⟨v0, ss, us, xs, ht.none_ (fun _ _ h => h.1) e⟩
  · obtain ⟨xs, g1, g2⟩ := ok
    exact ⟨xs, by rw [e]; exact g1, Els.imp (fun _ _ h => KR_step (D := fun _ => False) (Off.refl _ _) (fun _ _ h => h.elim) (fun _ _ h => h.1) t h) g2⟩
  · obtain ⟨b, g1, g2⟩ := ok
    exact ⟨b, by rw [e]; exact g1, g2⟩

theorem startM_get : (rc0 : List IC) → (i j : Nat) → (startM rc0 i)[j]? = (rc0[j]?).map fun o => match o.held with | true => some (i + j, 0) | false => none
  | [], i, j => by simp [startM]
  | .drop :: r, i, 0 => by simp [startM, IC.held]
  | .keep :: r, i, 0 => by simp [startM, IC.held]
  | .box _ :: r, i, 0 => by simp [startM, IC.held]
  | .drop :: r, i, j + 1 => by
    simp only [startM, List.getElem?_cons_succ]
    rw [startM_get r (i + 1) j, show i + 1 + j = i + (j + 1) by omega]
  | .keep :: r, i, j + 1 => by
    simp only [startM, List.getElem?_cons_succ]
    rw [startM_get r (i + 1) j, show i + 1 + j = i + (j + 1) by omega]
  | .box _ :: r, i, j + 1 => by
    simp only [startM, List.getElem?_cons_succ]
    rw [startM_get r (i + 1) j, show i + 1 + j = i + (j + 1) by omega]
theorem startM_len : (rc0 : List IC) → (i : Nat) → (startM rc0 i).length = rc0.length
  | [], _ => rfl
  | .drop :: r, i => by simp [startM, startM_len r]
  | .keep :: r, i => by simp [startM, startM_len r]
  | .box _ :: r, i => by simp [startM, startM_len r]

theorem needRows_some {Rt α : Type} {b : Nat} {ws : List Nat} {K : α → Nat → Heap → List Nat → List Nat → Option Rt} {r : Rt} {k : Eff α} : (l : List IC) → {i : Nat} → {rs : List Nat} → (needRows l i k).go b hp rs ws K = some r →
    ∃ rs', k.go b hp rs' ws K = some r ∧ ∀ (j : Nat), l[j]? = some .keep → Kp (hp (i + j))
  | [], i, rs, hk => ⟨rs, hk, fun j h => by simp at h⟩
  | .drop :: l, i, rs, hk => by
    obtain ⟨rs', h1, h2⟩ := needRows_some (k := k) l hk
    refine ⟨rs', h1, fun j hj => ?_⟩
    cases j with
    | zero => simp at hj
    | succ j => rw [show i + (j + 1) = i + 1 + j by omega]; exact h2 j (by simpa using hj)
  | .box _ :: l, i, rs, hk => by
    obtain ⟨rs', h1, h2⟩ := needRows_some (k := k) l hk
    refine ⟨rs', h1, fun j hj => ?_⟩
    cases j with
    | zero => simp at hj
    | succ j => rw [show i + (j + 1) = i + 1 + j by omega]; exact h2 j (by simpa using hj)
  | .keep :: l, i, rs, hk => by
    simp only [needRows, Eff.go] at hk
    have key : Kp (hp i) → (needRows l (i + 1) k).go b hp (2 * i :: (2 * i + 1) :: rs) ws K = some r → ∃ rs', k.go b hp rs' ws K = some r ∧ ∀ (j : Nat), (IC.keep :: l)[j]? = some .keep → Kp (hp (i + j)) := by
      intro hkp hk
      obtain ⟨rs', h1, h2⟩ := needRows_some (k := k) l hk
      refine ⟨rs', h1, fun j hj => ?_⟩
      cases j with
      | zero => exact hkp
      | succ j => rw [show i + (j + 1) = i + 1 + j by omega]; exact h2 j (by simpa using hj)
    split at hk
    case h_4 => cases hk
    · rename_i e t m hrow
      exact key (.inl ⟨e, t, m, hrow⟩) hk
    · rename_i t f hrow
      exact key (.inr (.inl ⟨t, f, hrow⟩)) hk
    · rename_i o fr e be t l hrow
      exact key (.inr (.inr ⟨o, fr, e, be, t, l, hrow⟩)) hk

theorem PI_start {d : Nat → Value} (rc0 : List IC) (hb : ∀ i o, rc0[i]? = some o → o.held = true → live (hp i)) : PI MX w ρ d hp (start0 rc0) := by
  have hH : ∀ (k : Nat) (h : HE), (start0 rc0).H[k]? = some h → h = .gone := by
    intro k h hk
    simp only [start0, List.getElem?_map] at hk
    cases hr : rc0[k]? with
    | none => rw [hr] at hk; cases hk
    | some o => rw [hr] at hk; simp at hk; exact hk.symm
  have hm : ∀ (k i off : Nat), (start0 rc0).m[k]? = some (some (i, off)) → i = k ∧ off = 0 ∧ ∃ o, rc0[k]? = some o ∧ o.held = true := by
    intro k i off h
    simp only [start0] at h
    rw [startM_get] at h
    cases hr : rc0[k]? with
    | none => rw [hr] at h; cases h
    | some o =>
      rw [hr] at h
      simp only [Option.map_some] at h
      split at h
      · rename_i hh
        injection h with h
        injection h with h
        injection h with h1 h2
        exact ⟨by omega, by omega, o, rfl, hh⟩
      · cases h
  refine ⟨by simp [start0, startM_len], fun k h hk => by rw [hH k h hk]; exact ⟨by simp, trivial⟩, fun k h hk hl => by rw [hH k h hk] at hl; exact hl.elim, fun k k' i off off' h1 h2 => ?_, fun k i off h hmem => (by cases hmem), fun i hi => (by cases hi), fun k i off h => ?_, fun k i off h h1 h2 => .inl (hH k h h2)⟩
  · have := (hm k i off h1).1
    have := (hm k' i off' h2).1
    omega
  · obtain ⟨rfl, _, o, hr, ho⟩ := hm k i off h
    exact hb _ o hr ho

theorem packIn_sound {Rt α : Type} (H : HRel MX w ρ hp) {d : Nat → Value} (hd : ∀ k, n0 ≤ k → d k = .slice none 0 0) {b : Nat} {ws : List Nat} {K : α → Nat → Heap → List Nat → List Nat → Option Rt} {r : Rt} : (l : List IC) → {i : Nat} → {s : PS} → {rs : List Nat} → {k : PS → Eff α} → PI MX w ρ d hp s → n0 ≤ s.m.length → i + l.length ≤ s.H.length →
    (∀ (j : Nat) (o : IC), l[j]? = some o → o.held = true → s.m[i + j]? = some (some (i + j, 0)) ∧ s.H[i + j]? = some .gone) → (packIn l i s k).go b hp rs ws K = some r →
    ∃ s' rs', (k s').go b hp rs' ws K = some r ∧ PI MX w ρ d hp s' ∧ n0 ≤ s'.m.length ∧ (∃ q, s'.m = s.m ++ q) ∧ s.H.length ≤ s'.H.length ∧ (∀ (j : Nat), j < i → s'.H[j]? = s.H[j]?) ∧
      (∀ (j : Nat) (rcs : List RC), l[j]? = some (.box rcs) → ∃ cs cs', hp (i + j) = .box cs ∧ cs.length = rcs.length ∧ s'.H[i + j]? = some (.box cs') ∧ cs'.length = rcs.length) ∧
      (∀ (j : Nat), l[j]? = some .drop → s'.H[i + j]? = s.H[i + j]?) ∧
      (∀ (j : Nat), l[j]? = some .keep → Kp (hp (i + j)) ∧ s'.H[i + j]? = some (hp (i + j)))
  | [], i, s, rs, k, hi, hn, hl, hm, hk => ⟨s, rs, hk, hi, hn, ⟨[], by simp⟩, Nat.le_refl _, fun _ _ => rfl, fun j rcs h => by simp at h, fun j h => by simp at h, fun j h => by simp at h⟩
  | .drop :: l, i, s, rs, k, hi, hn, hl, hm, hk => by
    unfold packIn at hk
    obtain ⟨s', rs', h1, h2, h3, h4, h5, h6, h7, h8, h9⟩ := packIn_sound H hd l hi hn (by simp at hl; omega) (fun j o hj ho => by
      have := hm (j + 1) o (by simpa using hj) ho
      rwa [show i + (j + 1) = i + 1 + j by omega] at this) hk
    refine ⟨s', rs', h1, h2, h3, h4, h5, fun j hj => h6 j (by omega), fun j rcs hj => ?_, fun j hj => ?_, fun j hj => ?_⟩
    · cases j with
      | zero => simp at hj
      | succ j => rw [show i + (j + 1) = i + 1 + j by omega]; exact h7 j rcs (by simpa using hj)
    · cases j with
      | zero => exact h6 i (by omega)
      | succ j => rw [show i + (j + 1) = i + 1 + j by omega]; exact h8 j (by simpa using hj)
    · cases j with
      | zero => simp at hj
      | succ j => rw [show i + (j + 1) = i + 1 + j by omega]; exact h9 j (by simpa using hj)
  | .keep :: l, i, s, rs, k, hi, hn, hl, hm, hk => by
    simp only [packIn, Eff.go] at hk
    have hkp : Kp (hp i) ∧ (packIn l (i + 1) { s with H := s.H.set i (hp i) } k).go b hp (2 * i :: (2 * i + 1) :: rs) ws K = some r := by
      split at hk
      case h_4 => cases hk
      · rename_i e t m hrow
        rw [hrow]
        exact ⟨.inl ⟨e, t, m, rfl⟩, hk⟩
      · rename_i t f hrow
        rw [hrow]
        exact ⟨.inr (.inl ⟨t, f, rfl⟩), hk⟩
      · rename_i o fr e be t l hrow
        rw [hrow]
        exact ⟨.inr (.inr ⟨o, fr, e, be, t, l, rfl⟩), hk⟩
    clear hk
    obtain ⟨hkp, hk⟩ := hkp
    obtain ⟨hmi, hgi⟩ := hm 0 .keep rfl rfl
    rw [Nat.add_zero] at hmi hgi
    have hok := H.ok i
    have hrho : rhoS ρ d s.m i = ρ i := by
      unfold rhoS
      rw [hmi]
      exact hkp.shift hok
    obtain ⟨p1, p2⟩ := PI_set (h := hp i) hi hgi hkp.ne.1 (fun _ => .inl ⟨i, 0, hmi, hkp.live⟩) (fun i' off' hm' => by
      rw [hmi] at hm'
      injection hm' with hm'
      injection hm' with hm'
      injection hm' with e1 e2
      subst e1 e2
      exact .inr (.inr (.inl ⟨rfl, rfl, hkp.ne.2⟩))) (hkp.ms hrho hok)
    obtain ⟨s', rs', h1, h2, h3, h4, h5, h6, h7, h8, h9⟩ := packIn_sound H hd l (i := i + 1) p1 hn (by simp at hl ⊢; omega) (fun j o hj ho => by
      have h' := hm (j + 1) o (by simpa using hj) ho
      rw [show i + (j + 1) = i + 1 + j by omega] at h'
      exact ⟨h'.1, by simp only []; rw [List.getElem?_set_ne (by omega)]; exact h'.2⟩) hk
    refine ⟨s', rs', h1, h2, h3, h4, by simpa using h5, fun j hj => ?_, fun j rcs' hj => ?_, fun j hj => ?_, fun j hj => ?_⟩
    · rw [h6 j (by omega)]
      simp only []
      rw [List.getElem?_set_ne (by omega)]
    · cases j with
      | zero => simp at hj
      | succ j => rw [show i + (j + 1) = i + 1 + j by omega]; exact h7 j rcs' (by simpa using hj)
    · cases j with
      | zero => simp at hj
      | succ j =>
        rw [show i + (j + 1) = i + 1 + j by omega, h8 j (by simpa using hj)]
        simp only []
        rw [List.getElem?_set_ne (by omega)]
    · cases j with
      | zero =>
        rw [Nat.add_zero]
        refine ⟨hkp, ?_⟩
        rw [h6 i (by omega)]
        simp only []
        rw [List.getElem?_set_self (lt_of_get hgi)]
      | succ j => rw [show i + (j + 1) = i + 1 + j by omega]; exact h9 j (by simpa using hj)
  | .box rcs :: l, i, s, rs, k, hi, hn, hl, hm, hk => by
    unfold packIn at hk
    simp only [Eff.go] at hk
    split at hk
    case h_2 => cases hk
    rename_i cs hbox
    split at hk
    case h_2 => cases hk
    rename_i hlen
    have hlen := Nat.eq_of_beq_eq_true hlen
    have hok := H.ok i
    rw [hbox] at hok
    obtain ⟨g, o, C, e, vs, g1, g2, g3, g4⟩ := hok
    obtain ⟨cs', s1, rs1, hK1, f1, f2, f3⟩ := pks_sound H hd rcs hi hn g3 hk
    obtain ⟨hmi, hgi⟩ := hm 0 (.box rcs) rfl rfl
    rw [Nat.add_zero] at hmi hgi
    obtain ⟨q, hq⟩ := f2.m
    have hil : i < s.H.length := by simp at hl; omega
    have hmi1 : s1.m[i]? = some (some (i, 0)) := by rw [hq, List.getElem?_append_left (by rw [hi.len]; exact hil)]; exact hmi
    have hgi1 : s1.H[i]? = some .gone := by rw [f2.H i hil]; exact hgi
    have hrho : rhoS ρ d s1.m i = .pointer (some ⟨g, o, none⟩) := by
      unfold rhoS
      rw [hmi1]
      simp only [g1, shift, Nat.add_zero]
    have hl3 := Rs_len f3
    have hlv := Rs_len g3
    obtain ⟨p1, p2⟩ := PI_set (h := .box cs') f1 hgi1 (by simp) (fun _ => .inl ⟨i, 0, hmi1, by rw [hbox]; trivial⟩) (fun i' off' hm' => by
      rw [hmi1] at hm'
      injection hm' with hm'
      injection hm' with hm'
      injection hm' with e1 e2
      subst e1 e2
      exact .inr (.inl ⟨cs', cs, rfl, hbox, by omega⟩)) ⟨g, o, C, e, vs, hrho, g2, f3, g4⟩
    have hs1 : n0 ≤ s1.m.length := by rw [hq]; simp; omega
    have hle1 := f2.le
    obtain ⟨s', rs', h1, h2, h3, h4, h5, h6, h7, h8, h9⟩ := packIn_sound H hd l (i := i + 1) p1 hs1 (by simp at hl ⊢; omega) (fun j o hj ho => by
      have h' := hm (j + 1) o (by simpa using hj) ho
      rw [show i + (j + 1) = i + 1 + j by omega] at h'
      have hlt : i + 1 + j < s.H.length := lt_of_get h'.2
      refine ⟨?_, ?_⟩
      · simp only []
        rw [hq, List.getElem?_append_left (by rw [hi.len]; exact hlt)]; exact h'.1
      · simp only []
        rw [List.getElem?_set_ne (by omega), f2.H _ hlt]; exact h'.2) hK1
    refine ⟨s', rs', h1, h2, h3, ?_, ?_, fun j hj => ?_, fun j rcs' hj => ?_, fun j hj => ?_, fun j hj => ?_⟩
    · obtain ⟨q2, hq2⟩ := h4
      exact ⟨q ++ q2, by rw [hq2]; simp only []; rw [hq, List.append_assoc]⟩
    · simp at h5; omega
    · rw [h6 j (by omega)]
      simp only []
      rw [List.getElem?_set_ne (by omega), f2.H j (by omega)]
    · cases j with
      | zero =>
        simp at hj
        subst hj
        refine ⟨cs, cs', by rw [Nat.add_zero]; exact hbox, hlen.symm, ?_, ?_⟩
        · rw [Nat.add_zero, h6 i (by omega)]
          simp only []
          rw [List.getElem?_set_self (lt_of_get hgi1)]
        · omega
      | succ j => rw [show i + (j + 1) = i + 1 + j by omega]; exact h7 j rcs' (by simpa using hj)
    · cases j with
      | zero => simp at hj
      | succ j =>
        have hj' : l[j]? = some .drop := by simpa using hj
        have hlt : i + 1 + j < s.H.length := by have := lt_of_get hj'; simp at hl; omega
        rw [show i + (j + 1) = i + 1 + j by omega, h8 j hj']
        simp only []
        rw [List.getElem?_set_ne (by omega), f2.H _ hlt]
    · cases j with
      | zero => simp at hj
      | succ j => rw [show i + (j + 1) = i + 1 + j by omega]; exact h9 j (by simpa using hj)

/-- The packed state is one that the function may go on from. -/
theorem packed {d : Nat → Value} (H : HRel MX w ρ hp) {s : PS} (hi : PI MX w ρ d hp s) : HRel MX w (rhoS ρ d s.m) (hpOf s.H) ∧ (∀ b, b < w.heap.size → Mut MX (hpOf s.H) (rhoS ρ d s.m) b → Ms MX ρ hp s.lent b) ∧ ∀ b, Lv (hpOf s.H) (rhoS ρ d s.m) b → Lv hp ρ b := by
  have src : ∀ k b, live (hpOf s.H k) → At (rhoS ρ d s.m k) b → ∃ i off, s.m[k]? = some (some (i, off)) ∧ live (hp i) ∧ At (ρ i) b := by
    intro k b hl hb
    have hne : hpOf s.H k ≠ .unused := fun e => by rw [e] at hl; exact hl
    rcases hi.src k _ (hpOf_get hne) hl with ⟨i, off, h1, h2⟩ | h1
    · refine ⟨i, off, h1, h2, ?_⟩
      exact at_src h1 hb
    · exact (h1 _ hb).elim
  have hlv : ∀ b, Lv (hpOf s.H) (rhoS ρ d s.m) b → Lv hp ρ b := fun b ⟨k, hl, hb⟩ => by
    obtain ⟨i, off, _, h2, h3⟩ := src k b hl hb
    exact ⟨i, h2, h3⟩
  have hM : ∀ b, b < w.heap.size → Mut MX (hpOf s.H) (rhoS ρ d s.m) b → Ms MX ρ hp s.lent b := by
    rintro b hb (hm | ⟨k, hl, hbk⟩)
    · refine ⟨.inl hm, fun ⟨j, hj, hbj⟩ => ?_⟩
      exact H.ext j b (hi.rows j hj) hbj hm
    · obtain ⟨i, off, h1, h2, h3⟩ := src k b hl hbk
      refine ⟨.inr ⟨i, h2, h3⟩, fun ⟨j, hj, hbj⟩ => ?_⟩
      have := H.sep i j b h2 (hi.rows j hj) h3 hbj
      subst this
      exact hi.apart k i off h1 hj
  refine ⟨⟨fun k => ?_, fun k k' b hl hl' hb hb' => ?_, fun k b hl hb hm => ?_, H.mx, H.tb.next (D := fun _ => False) (Off.refl _ _) (fun _ _ h => h.elim) (fun b _ hl => hlv b hl)⟩, hM, hlv⟩
  · by_cases hne : hpOf s.H k = .unused
    · rw [hne]; trivial
    · exact HEok_step (D := fun _ => False) (Off.refl _ _) (fun _ _ h => h.elim) hM (fun i hi => ⟨Old.refl _, hi⟩) rfl (fun _ _ _ h => h) (hi.ok k _ (hpOf_get hne)).2
  · obtain ⟨i, off, h1, h2, h3⟩ := src k b hl hb
    obtain ⟨i', off', h1', h2', h3'⟩ := src k' b hl' hb'
    have := H.sep i i' b h2 h2' h3 h3'
    subst this
    exact hi.inj k k' i off off' h1 h1'
  · obtain ⟨i, off, h1, h2, h3⟩ := src k b hl hb
    exact H.ext i b h2 h3 hm

theorem shape_get : {rc0 : List IC} → {H : List HE} → shapeOk rc0 H = true → rc0.length = H.length ∧ (∀ (i : Nat) (rcs : List RC), rc0[i]? = some (.box rcs) → ∃ cs, H[i]? = some (.box cs) ∧ cs.length = rcs.length) ∧ (∀ (i : Nat) o, rc0[i]? = some o → o.kind ≠ 2 → ∃ h, Kp h ∧ H[i]? = some h)
  | [], [], _ => ⟨rfl, fun i rcs h => by simp at h, fun i o h => by simp at h⟩
  | .box rcs :: r, .box cs :: H, h => by
    simp only [shapeOk, Bool.and_eq_true] at h
    obtain ⟨h1, h2, h3⟩ := shape_get h.2
    refine ⟨by simp [h1], fun i rcs' hi => ?_, fun i o hi ho => ?_⟩
    · cases i with
      | zero => simp at hi; subst hi; exact ⟨cs, rfl, (Nat.eq_of_beq_eq_true h.1).symm⟩
      | succ i => simpa using h2 i rcs' (by simpa using hi)
    · cases i with
      | zero => simp at hi; subst hi; exact (ho rfl).elim
      | succ i => simpa using h3 i o (by simpa using hi) ho
  | .drop :: r, .row e t l :: H, h => by
    obtain ⟨h1, h2, h3⟩ := shape_get (rc0 := r) (H := H) h
    refine ⟨by simp [h1], fun i rcs' hi => ?_, fun i o hi ho => ?_⟩
    · cases i with
      | zero => simp at hi
      | succ i => simpa using h2 i rcs' (by simpa using hi)
    · cases i with
      | zero => exact ⟨_, .inl ⟨e, t, l, rfl⟩, rfl⟩
      | succ i => simpa using h3 i o (by simpa using hi) ho
  | .keep :: r, .row e t l :: H, h => by
    obtain ⟨h1, h2, h3⟩ := shape_get (rc0 := r) (H := H) h
    refine ⟨by simp [h1], fun i rcs' hi => ?_, fun i o hi ho => ?_⟩
    · cases i with
      | zero => simp at hi
      | succ i => simpa using h2 i rcs' (by simpa using hi)
    · cases i with
      | zero => exact ⟨_, .inl ⟨e, t, l, rfl⟩, rfl⟩
      | succ i => simpa using h3 i o (by simpa using hi) ho
  | .keep :: r, .mp t f :: H, h => by
    obtain ⟨h1, h2, h3⟩ := shape_get (rc0 := r) (H := H) h
    refine ⟨by simp [h1], fun i rcs' hi => ?_, fun i o hi ho => ?_⟩
    · cases i with
      | zero => simp at hi
      | succ i => simpa using h2 i rcs' (by simpa using hi)
    · cases i with
      | zero => exact ⟨_, .inr (.inl ⟨t, f, rfl⟩), rfl⟩
      | succ i => simpa using h3 i o (by simpa using hi) ho
  | .drop :: r, .tre o1 fr e be t l none :: H, h => by
    obtain ⟨h1, h2, h3⟩ := shape_get (rc0 := r) (H := H) h
    refine ⟨by simp [h1], fun i rcs' hi => ?_, fun i o hi ho => ?_⟩
    · cases i with
      | zero => simp at hi
      | succ i => simpa using h2 i rcs' (by simpa using hi)
    · cases i with
      | zero => exact ⟨_, .inr (.inr ⟨o1, fr, e, be, t, l, rfl⟩), rfl⟩
      | succ i => simpa using h3 i o (by simpa using hi) ho
  | .drop :: _, .tre _ _ _ _ _ _ (some _) :: _, h => by cases h
  | .keep :: r, .tre o1 fr e be t l none :: H, h => by
    obtain ⟨h1, h2, h3⟩ := shape_get (rc0 := r) (H := H) h
    refine ⟨by simp [h1], fun i rcs' hi => ?_, fun i o hi ho => ?_⟩
    · cases i with
      | zero => simp at hi
      | succ i => simpa using h2 i rcs' (by simpa using hi)
    · cases i with
      | zero => exact ⟨_, .inr (.inr ⟨o1, fr, e, be, t, l, rfl⟩), rfl⟩
      | succ i => simpa using h3 i o (by simpa using hi) ho
  | .keep :: _, .tre _ _ _ _ _ _ (some _) :: _, h => by cases h
  | .box _ :: _, .tre _ _ _ _ _ _ _ :: _, h => by cases h
  | .box _ :: _, .mp _ _ :: _, h => by cases h
  | .box _ :: _, .bts _ :: _, h => by cases h
  | .box _ :: _, .bld _ _ :: _, h => by cases h
  | .drop :: _, .bld _ _ :: _, h => by cases h
  | .keep :: _, .bld _ _ :: _, h => by cases h
  | .drop :: _, .mp _ _ :: _, h => by cases h
  | .drop :: _, .bts _ :: _, h => by cases h
  | .keep :: _, .bts _ :: _, h => by cases h
  | [], _ :: _, h => by cases h
  | .drop :: _, [], h => by cases h
  | .keep :: _, [], h => by cases h
  | .box _ :: _, [], h => by cases h
  | .box _ :: _, .unused :: _, h => by cases h
  | .box _ :: _, .gone :: _, h => by cases h
  | .box _ :: _, .row _ _ _ :: _, h => by cases h
  | .box _ :: _, .frz _ _ :: _, h => by cases h
  | .drop :: _, .unused :: _, h => by cases h
  | .drop :: _, .gone :: _, h => by cases h
  | .drop :: _, .box _ :: _, h => by cases h
  | .drop :: _, .frz _ _ :: _, h => by cases h
  | .keep :: _, .unused :: _, h => by cases h
  | .keep :: _, .gone :: _, h => by cases h
  | .keep :: _, .box _ :: _, h => by cases h
  | .keep :: _, .frz _ _ :: _, h => by cases h

/-- What came in is still there behind the packing. -/
theorem since_packed {d : Nat → Value} (H : HRel MX w ρ hp) (hs : Since w0 ρ0 H0 w ρ hp) {rcF rc0 : List IC} (hF : shapeOk rcF H0 = true) (hsame : rc0.map IC.kind = rcF.map IC.kind) (hdk : ∀ k, k < H0.length → d k = ρ k) {s : PS} (hi : PI MX w ρ d hp s) (hm : ∃ q, s.m = startM rc0 0 ++ q)
    (hbox : ∀ (j : Nat) (rcs : List RC), rc0[j]? = some (.box rcs) → ∃ cs cs', hp j = .box cs ∧ cs.length = rcs.length ∧ s.H[j]? = some (.box cs') ∧ cs'.length = rcs.length)
    (hnone : ∀ (j : Nat), rc0[j]? = some .drop → s.H[j]? = some .gone) (hkeep : ∀ (j : Nat), rc0[j]? = some .keep → Kp (hp j) ∧ s.H[j]? = some (hp j)) : Since w0 ρ0 H0 w (rhoS ρ d s.m) (hpOf s.H) := by
  obtain ⟨hl0, hb0, hr0⟩ := shape_get hF
  have hlen : rc0.length = H0.length := by
    have : (rc0.map IC.kind).length = (rcF.map IC.kind).length := by rw [hsame]
    simpa [hl0] using this
  obtain ⟨hp', hM, hlv⟩ := packed H hi
  have hrho : ∀ i, i < H0.length → rhoS ρ d s.m i = ρ i := by
    intro i hi'
    obtain ⟨q, hq⟩ := hm
    have hget : s.m[i]? = (startM rc0 0)[i]? := by rw [hq, List.getElem?_append_left (by rw [startM_len]; omega)]
    rw [startM_get] at hget
    have hlt : i < rc0.length := by omega
    rw [List.getElem?_eq_getElem hlt] at hget
    cases ho : rc0[i] with
    | drop =>
      rw [ho] at hget
      unfold rhoS
      rw [hget]
      exact hdk i hi'
    | keep =>
      rw [ho] at hget
      obtain ⟨h1, _⟩ := hkeep i (by rw [List.getElem?_eq_getElem hlt, ho])
      unfold rhoS
      rw [hget]
      simp only [Option.map_some, IC.held, Nat.zero_add]
      exact h1.shift (H.ok i)
    | box rcs =>
      rw [ho] at hget
      obtain ⟨cs, cs', h1, _⟩ := hbox i rcs (by rw [List.getElem?_eq_getElem hlt, ho])
      have hok := H.ok i
      rw [h1] at hok
      obtain ⟨g, o, C, e, vs, h2, _⟩ := hok
      unfold rhoS
      rw [hget]
      simp only [Option.map_some, IC.held, Nat.zero_add]
      rw [h2]
      rfl
  refine ⟨fun i hi' => (hs.keep i hi').trans (.inl (hrho i hi')), fun i hi' => ?_, hs.off, fun b hb hl => hs.nwl b hb (hlv b hl), fun i cs hi' => ?_⟩
  · have hlt : i < rc0.length := by omega
    cases ho : rc0[i] with
    | drop => rw [hpOf_some (hnone i (by rw [List.getElem?_eq_getElem hlt, ho]))]; simp
    | keep =>
      obtain ⟨h1, h3⟩ := hkeep i (by rw [List.getElem?_eq_getElem hlt, ho])
      rw [hpOf_some h3]; exact h1.ne.1
    | box rcs =>
      obtain ⟨cs, cs', _, _, h3, _⟩ := hbox i rcs (by rw [List.getElem?_eq_getElem hlt, ho])
      rw [hpOf_some h3]; simp
  · obtain ⟨c1, h1, h2, h3⟩ := hs.bx i cs hi'
    have hne : hpOf H0 i ≠ .unused := by rw [hi']; simp
    have hlt0 := lt_of_get (hpOf_get hne)
    have hlt : i < rc0.length := by omega
    have hltF : i < rcF.length := by omega
    have hk2 : (rc0[i]).kind = (rcF[i]).kind := by
      have h5 : (rc0.map IC.kind)[i]? = (rcF.map IC.kind)[i]? := by rw [hsame]
      simpa [List.getElem?_eq_getElem hlt, List.getElem?_eq_getElem hltF] using h5
    have hbx : (rc0[i]).kind = 2 := by
      apply Classical.byContradiction
      intro hne2
      obtain ⟨h5, h6, h7⟩ := hr0 i _ (List.getElem?_eq_getElem hltF) (by rw [← hk2]; exact hne2)
      rw [hpOf_some h7] at hi'
      exact h6.ne.2 _ hi'
    cases ho : rc0[i] with
    | drop => rw [ho] at hbx; cases hbx
    | keep => rw [ho] at hbx; cases hbx
    | box rcs =>
      obtain ⟨cs2, cs', g1, g2, g3, g4⟩ := hbox i rcs (by rw [List.getElem?_eq_getElem hlt, ho])
      rw [h1] at g1
      injection g1 with g1
      subst g1
      exact ⟨cs', hpOf_some g3, by omega, h3⟩
end
end Go.Proofs.YtommgpkeicpokaaGreatDoor.Abs
