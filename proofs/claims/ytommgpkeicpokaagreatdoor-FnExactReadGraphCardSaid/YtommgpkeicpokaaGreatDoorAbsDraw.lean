/- Regions that draw their order. -/
import Derived.Test.YtommgpkeicpokaaGreatDoorAbsRegion
namespace Go.Proofs.YtommgpkeicpokaaGreatDoor.Abs
open Go Go.RowKit
set_option linter.unusedVariables false
set_option linter.unusedSectionVars false
set_option linter.unusedSimpArgs false

abbrev Out := AV × Nat × Heap × List Nat × List Nat
def done : AV → Nat → Heap → List Nat → List Nat → Option Out := fun x b hp rs ws => some (x, b, hp, rs, ws)

theorem go_done {α Rt : Type} : (e : Eff α) → {b : Nat} → {hp : Heap} → {rs ws : List Nat} → {K : α → Nat → Heap → List Nat → List Nat → Option Rt} → {r : Rt} → e.go b hp rs ws K = some r →
    ∃ x b' hp' rs' ws', e.go b hp rs ws (fun x b hp rs ws => some (x, b, hp, rs, ws)) = some (x, b', hp', rs', ws') ∧ K x b' hp' rs' ws' = some r
  | .ret a, _, _, _, _, _, _, h => ⟨_, _, _, _, _, rfl, h⟩
  | .fail, _, _, _, _, _, _, h => by cases h
  | .rd i k, _, _, _, _, _, _, h => go_done (k _) h
  | .wr i x k, _, _, _, _, _, _, h => go_done k h
  | .nw x k, b, hp, _, _, _, _, h => by
    simp only [Eff.go] at h ⊢
    split at h
    · exact go_done (k b) h
    · cases h
  | .br c d t e, _, _, _, _, _, _, h => by
    simp only [Eff.go] at h ⊢
    split at h
    · rename_i hc; rw [if_pos hc]; exact go_done t h
    · rename_i hc; rw [if_neg hc]; exact go_done e h
  | .gd c d e, _, _, _, _, _, _, h => by
    simp only [Eff.go] at h ⊢
    split at h
    · exact go_done e h
    · cases h
  | .opt X o k, _, _, _, _, _, _, h => by
    simp only [Eff.go] at h ⊢
    cases ho : o with
    | none => rw [ho] at h; cases h
    | some x => rw [ho] at h; exact go_done (k x) h
  | .rdS i k, _, _, _, _, _, _, h => go_done (k _) h
  | .wrS i c k, _, _, _, _, _, _, h => go_done k h

/-- What stands at a place: 2 i: what entry i says; 2 i + 1: what of it is out. -/
def cellAt (hp : Heap) (c : Nat) : HE ⊕ Option (Nat × Nat) := if c % 2 = 0 then .inl (strip (hp (c / 2))) else .inr (outOf (hp (c / 2)))
theorem cell_even (hp : Heap) (i : Nat) : cellAt hp (2 * i) = .inl (strip (hp i)) := by
  unfold cellAt
  rw [if_pos (by omega), show 2 * i / 2 = i by omega]
theorem cell_odd (hp : Heap) (i : Nat) : cellAt hp (2 * i + 1) = .inr (outOf (hp i)) := by
  unfold cellAt
  rw [if_neg (by omega), show (2 * i + 1) / 2 = i by omega]
theorem he_join {h h' : HE} (h1 : strip h = strip h') (h2 : outOf h = outOf h') : h = h' := by
  cases h <;> cases h' <;> simp [strip, outOf] at h1 h2 ⊢ <;> (try exact h1) <;> (try exact ⟨h1.1, h1.2.1, h1.2.2.1, h1.2.2.2.1, h1.2.2.2.2.1, h1.2.2.2.2.2, h2⟩)
theorem cells_join {hp hp' : Heap} {i : Nat} (h0 : cellAt hp (2 * i) = cellAt hp' (2 * i)) (h1 : cellAt hp (2 * i + 1) = cellAt hp' (2 * i + 1)) : hp i = hp' i := by
  rw [cell_even, cell_even] at h0
  rw [cell_odd, cell_odd] at h1
  exact he_join (Sum.inl.inj h0) (Sum.inr.inj h1)
theorem cell_ne {hp : Heap} {i c : Nat} {x : HE} (h0 : c ≠ 2 * i) (h1 : c ≠ 2 * i + 1) : cellAt (upd hp i x) c = cellAt hp c := by
  unfold cellAt
  rw [upd_ne _ _ (by omega)]
theorem cell_upd {hp hp2 : Heap} {i c : Nat} {x : HE} (h : c = 2 * i ∨ c = 2 * i + 1) : cellAt (upd hp i x) c = cellAt (upd hp2 i x) c := by
  rcases h with rfl | rfl
  · rw [cell_even, cell_even, upd_same, upd_same]
  · rw [cell_odd, cell_odd, upd_same, upd_same]
theorem strip_set (c : Option (Nat × Nat)) (h : HE) : strip (setCur c h) = strip h := by cases h <;> rfl
theorem st_set {c : Option (Nat × Nat)} {h h' : HE} (e : strip h = strip h') : outOf (setCur c h) = outOf (setCur c h') := by
  cases h <;> cases h' <;> first | rfl | (simp [strip] at e)

/-- What an effect reads and writes is all that it hangs on. -/
theorem go_local {α : Type} : (e : Eff α) → {b : Nat} → {hp : Heap} → {rs ws : List Nat} → {x : α} → {b' : Nat} → {hp' : Heap} → {rs' ws' : List Nat} → e.go b hp rs ws (fun x b hp rs ws => some (x, b, hp, rs, ws)) = some (x, b', hp', rs', ws') →
    ∃ dr dw, rs' = dr ++ rs ∧ ws' = dw ++ ws ∧ (∀ h, h ∉ dw → cellAt hp' h = cellAt hp h) ∧ ∀ (hp2 : Heap) (rs1 ws1 : List Nat), (∀ h, h ∈ dr ∨ h ∈ dw → cellAt hp2 h = cellAt hp h) →
      ∃ hp2', e.go b hp2 rs1 ws1 (fun x b hp rs ws => some (x, b, hp, rs, ws)) = some (x, b', hp2', dr ++ rs1, dw ++ ws1) ∧ (∀ h, h ∈ dw → cellAt hp2' h = cellAt hp' h) ∧ ∀ h, h ∉ dw → cellAt hp2' h = cellAt hp2 h
  | .ret a, b, hp, rs, ws, _, _, _, _, _, h => by
    simp only [Eff.go, Option.some.injEq, Prod.mk.injEq] at h
    obtain ⟨rfl, rfl, rfl, rfl, rfl⟩ := h
    exact ⟨[], [], rfl, rfl, fun _ _ => rfl, fun hp2 rs1 ws1 _ => ⟨hp2, rfl, fun h hh => (by cases hh), fun _ _ => rfl⟩⟩
  | .fail, _, _, _, _, _, _, _, _, _, h => by cases h
  | .rd i k, b, hp, rs, ws, _, _, _, _, _, h => by
    simp only [Eff.go] at h
    obtain ⟨dr, dw, e1, e2, e3, e4⟩ := go_local (k (hp i)) h
    refine ⟨dr ++ [2 * i, 2 * i + 1], dw, by rw [e1]; simp, e2, e3, fun hp2 rs1 ws1 hag => ?_⟩
    obtain ⟨hp2', f1, f2, f3⟩ := e4 hp2 (2 * i :: (2 * i + 1) :: rs1) ws1 (fun h hh => hag h (hh.imp (fun h' => List.mem_append_left _ h') id))
    refine ⟨hp2', ?_, f2, f3⟩
    simp only [Eff.go]
    rw [cells_join (hag (2 * i) (.inl (by simp))) (hag (2 * i + 1) (.inl (by simp))), f1]
    simp
  | .rdS i k, b, hp, rs, ws, _, _, _, _, _, h => by
    simp only [Eff.go] at h
    obtain ⟨dr, dw, e1, e2, e3, e4⟩ := go_local (k (strip (hp i))) h
    refine ⟨dr ++ [2 * i], dw, by rw [e1]; simp, e2, e3, fun hp2 rs1 ws1 hag => ?_⟩
    obtain ⟨hp2', f1, f2, f3⟩ := e4 hp2 (2 * i :: rs1) ws1 (fun h hh => hag h (hh.imp (fun h' => List.mem_append_left _ h') id))
    refine ⟨hp2', ?_, f2, f3⟩
    have hs := hag (2 * i) (.inl (by simp))
    rw [cell_even, cell_even] at hs
    simp only [Eff.go]
    rw [Sum.inl.inj hs, f1]
    simp
  | .wr i x k, b, hp, rs, ws, _, _, hp', _, _, h => by
    simp only [Eff.go] at h
    obtain ⟨dr, dw, e1, e2, e3, e4⟩ := go_local k h
    refine ⟨dr, dw ++ [2 * i, 2 * i + 1], e1, by rw [e2]; simp, fun j hj => ?_, fun hp2 rs1 ws1 hag => ?_⟩
    · simp only [List.mem_append, List.mem_cons, List.not_mem_nil, or_false, not_or] at hj
      rw [e3 j hj.1, cell_ne hj.2.1 hj.2.2]
    · obtain ⟨hp2', f1, f2, f3⟩ := e4 (upd hp2 i x) rs1 (2 * i :: (2 * i + 1) :: ws1) (fun j hj => by
        by_cases hji : j = 2 * i ∨ j = 2 * i + 1
        · exact cell_upd hji
        · rw [cell_ne (fun e => hji (.inl e)) (fun e => hji (.inr e)), cell_ne (fun e => hji (.inl e)) (fun e => hji (.inr e))]; exact hag j (hj.imp id (fun h' => List.mem_append_left _ h')))
      refine ⟨hp2', by simp only [Eff.go]; rw [f1]; simp, fun j hj => ?_, fun j hj => ?_⟩
      · by_cases hjd : j ∈ dw
        · exact f2 j hjd
        · simp only [List.mem_append, List.mem_cons, List.not_mem_nil, or_false] at hj
          rw [f3 j hjd, e3 j hjd]
          exact cell_upd (hj.resolve_left hjd)
      · simp only [List.mem_append, List.mem_cons, List.not_mem_nil, or_false, not_or] at hj
        rw [f3 j hj.1, cell_ne hj.2.1 hj.2.2]
  | .wrS i c k, b, hp, rs, ws, _, _, hp', _, _, h => by
    simp only [Eff.go] at h
    obtain ⟨dr, dw, e1, e2, e3, e4⟩ := go_local k h
    have keep : ∀ (hp : Heap) j, j ≠ 2 * i + 1 → cellAt (upd hp i (setCur c (hp i))) j = cellAt hp j := fun hp j hj => by
      by_cases hj2 : j = 2 * i
      · subst hj2
        rw [cell_even, cell_even, upd_same, strip_set]
      · exact cell_ne hj2 hj
    refine ⟨dr ++ [2 * i], dw ++ [2 * i + 1], by rw [e1]; simp, by rw [e2]; simp, fun j hj => ?_, fun hp2 rs1 ws1 hag => ?_⟩
    · simp only [List.mem_append, List.mem_singleton, not_or] at hj
      rw [e3 j hj.1, keep hp j hj.2]
    · have hs := hag (2 * i) (.inl (by simp))
      rw [cell_even, cell_even] at hs
      have hs := Sum.inl.inj hs
      have odd : cellAt (upd hp2 i (setCur c (hp2 i))) (2 * i + 1) = cellAt (upd hp i (setCur c (hp i))) (2 * i + 1) := by
        rw [cell_odd, cell_odd, upd_same, upd_same, st_set hs]
      obtain ⟨hp2', f1, f2, f3⟩ := e4 (upd hp2 i (setCur c (hp2 i))) (2 * i :: rs1) ((2 * i + 1) :: ws1) (fun j hj => by
        by_cases hji : j = 2 * i + 1
        · subst hji; exact odd
        · rw [keep hp2 j hji, keep hp j hji]
          exact hag j (hj.imp (fun h' => List.mem_append_left _ h') (fun h' => List.mem_append_left _ h')))
      refine ⟨hp2', by simp only [Eff.go]; rw [f1]; simp, fun j hj => ?_, fun j hj => ?_⟩
      · by_cases hjd : j ∈ dw
        · exact f2 j hjd
        · simp only [List.mem_append, List.mem_singleton] at hj
          have := hj.resolve_left hjd
          subst this
          rw [f3 _ hjd, e3 _ hjd, odd]
      · simp only [List.mem_append, List.mem_singleton, not_or] at hj
        rw [f3 j hj.1, keep hp2 j hj.2]
  | .nw x k, b, hp, rs, ws, _, _, hp', _, _, h => by
    simp only [Eff.go] at h
    split at h
    case h_2 => cases h
    rename_i hu
    obtain ⟨dr, dw, e1, e2, e3, e4⟩ := go_local (k b) h
    refine ⟨dr, dw ++ [2 * b, 2 * b + 1], e1, by rw [e2]; simp, fun j hj => ?_, fun hp2 rs1 ws1 hag => ?_⟩
    · simp only [List.mem_append, List.mem_cons, List.not_mem_nil, or_false, not_or] at hj
      rw [e3 j hj.1, cell_ne hj.2.1 hj.2.2]
    · obtain ⟨hp2', f1, f2, f3⟩ := e4 (upd hp2 b x) rs1 (2 * b :: (2 * b + 1) :: ws1) (fun j hj => by
        by_cases hji : j = 2 * b ∨ j = 2 * b + 1
        · exact cell_upd hji
        · rw [cell_ne (fun e => hji (.inl e)) (fun e => hji (.inr e)), cell_ne (fun e => hji (.inl e)) (fun e => hji (.inr e))]; exact hag j (hj.imp id (fun h' => List.mem_append_left _ h')))
      have hub : hp2 b = .unused := by rw [cells_join (hag (2 * b) (.inr (by simp))) (hag (2 * b + 1) (.inr (by simp))), hu]
      refine ⟨hp2', by simp only [Eff.go]; rw [hub]; simp only []; rw [f1]; simp, fun j hj => ?_, fun j hj => ?_⟩
      · by_cases hjd : j ∈ dw
        · exact f2 j hjd
        · simp only [List.mem_append, List.mem_cons, List.not_mem_nil, or_false] at hj
          rw [f3 j hjd, e3 j hjd]
          exact cell_upd (hj.resolve_left hjd)
      · simp only [List.mem_append, List.mem_cons, List.not_mem_nil, or_false, not_or] at hj
        rw [f3 j hj.1, cell_ne hj.2.1 hj.2.2]
  | .br c d t e, b, hp, rs, ws, _, _, _, _, _, h => by
    simp only [Eff.go] at h
    split at h
    · rename_i hc
      obtain ⟨dr, dw, e1, e2, e3, e4⟩ := go_local t h
      exact ⟨dr, dw, e1, e2, e3, fun hp2 rs1 ws1 hag => by
        obtain ⟨hp2', f1, f2⟩ := e4 hp2 rs1 ws1 hag
        exact ⟨hp2', by simp only [Eff.go]; rw [if_pos hc]; exact f1, f2⟩⟩
    · rename_i hc
      obtain ⟨dr, dw, e1, e2, e3, e4⟩ := go_local e h
      exact ⟨dr, dw, e1, e2, e3, fun hp2 rs1 ws1 hag => by
        obtain ⟨hp2', f1, f2⟩ := e4 hp2 rs1 ws1 hag
        exact ⟨hp2', by simp only [Eff.go]; rw [if_neg hc]; exact f1, f2⟩⟩
  | .gd c d e, b, hp, rs, ws, _, _, _, _, _, h => by
    simp only [Eff.go] at h
    split at h
    · obtain ⟨dr, dw, e1, e2, e3, e4⟩ := go_local e h
      exact ⟨dr, dw, e1, e2, e3, fun hp2 rs1 ws1 hag => by
        obtain ⟨hp2', f1, f2⟩ := e4 hp2 rs1 ws1 hag
        exact ⟨hp2', by simp only [Eff.go]; exact f1, f2⟩⟩
    · cases h
  | .opt X o k, b, hp, rs, ws, _, _, _, _, _, h => by
    simp only [Eff.go] at h
    cases ho : o with
    | none => rw [ho] at h; cases h
    | some y =>
      rw [ho] at h
      obtain ⟨dr, dw, e1, e2, e3, e4⟩ := go_local (k y) h
      exact ⟨dr, dw, e1, e2, e3, fun hp2 rs1 ws1 hag => by
        obtain ⟨hp2', f1, f2⟩ := e4 hp2 rs1 ws1 hag
        exact ⟨hp2', by simp only [Eff.go, Option.bind_some]; exact f1, f2⟩⟩

/-- An operation hangs on what it looks at alone. -/
theorem effOf_congr {P : Program} {E : Env} {k : Nat} {o : Oper} {tm tm' : Nat → AV} (h : ∀ t, .tmp t ∈ o.op.operands → tm t = tm' t) : effOf P E k o tm = effOf P E k o tm' := by
  have hev : ∀ x, x ∈ o.op.operands → ev tm x = ev tm' x := by
    intro x hx
    cases x with
    | tmp t => exact h t hx
    | const v => rfl
    | global g => rfl
    | func f => rfl
  obtain ⟨dst, op, ty, pos, after, guard⟩ := o
  simp only at hev h
  have hps : ∀ ps : Array (Nat × Operand), (∀ p ∈ ps, p.2 ∈ op.operands) → (ps.toList.map fun p => (p.1, ev tm p.2)) = ps.toList.map fun p => (p.1, ev tm' p.2) := fun ps hp =>
    List.map_congr_left fun p hm => by rw [hev p.2 (hp p (by simpa using hm))]
  have hl : ∀ xs : Array Operand, (∀ x ∈ xs, x ∈ op.operands) → xs.toList.map (ev tm) = xs.toList.map (ev tm') := fun xs hx =>
    List.map_congr_left fun x hm => hev x (hx x (by simpa using hm))
  cases op with
  | move x => simp only [effOf]; rw [hev x (by simp [Op.operands])]
  | assign x => simp only [effOf]; rw [hev x (by simp [Op.operands])]
  | pick c a b => simp only [effOf]; rw [hev c (by simp [Op.operands]), hev a (by simp [Op.operands]), hev b (by simp [Op.operands])]
  | box t x => simp only [effOf]; rw [hev x (by simp [Op.operands])]
  | build t ps => simp only [effOf]; rw [hps ps (fun p hp => by simp only [Op.operands]; exact Array.mem_def.2 (List.mem_map.2 ⟨p, by simpa using hp, rfl⟩))]
  | buildSlice t n ps => simp only [effOf]; rw [hps ps (fun p hp => by simp only [Op.operands]; exact Array.mem_def.2 (List.mem_map.2 ⟨p, by simpa using hp, rfl⟩))]
  | load t a => simp only [effOf]; rw [hev a (by simp [Op.operands])]
  | store t a v => simp only [effOf]; rw [hev a (by simp [Op.operands]), hev v (by simp [Op.operands])]
  | nilCheck x => simp only [effOf]; rw [hev x (by simp [Op.operands])]
  | binOp op t x y u => simp only [effOf]; rw [hev x (by simp [Op.operands]), hev y (by simp [Op.operands])]
  | unOp op t x => simp only [effOf]; rw [hev x (by simp [Op.operands])]
  | convert s d x => simp only [effOf]; rw [hev x (by simp [Op.operands])]
  | makeFunc f first cap =>
    cases f with
    | func f => simp only [effOf, List.map_append]; rw [hl cap (fun x hx => by simp [Op.operands, hx]), hl first (fun x hx => by simp [Op.operands, hx])]
    | _ => rfl
  | makeSlice t n c => simp only [effOf]; rw [hev n (by simp [Op.operands])]
  | makeMap t r =>
    cases r with
    | none => rfl
    | some r => rfl
  | insert t m k v => simp only [effOf]; rw [hev m (by simp [Op.operands]), hev k (by simp [Op.operands]), hev v (by simp [Op.operands])]
  | mapUpdate t m k v => simp only [effOf]; rw [hev m (by simp [Op.operands]), hev k (by simp [Op.operands]), hev v (by simp [Op.operands])]
  | lookup t m k ok =>
    cases ok with
    | false => simp only [effOf]; rw [hev m (by simp [Op.operands]), hev k (by simp [Op.operands])]
    | true => rfl
  | slice t x lo hi mx =>
    cases mx with
    | none =>
      simp only [effOf]
      rw [hev x (by simp [Op.operands])]
      cases lo with
      | none => cases hi with
        | none => rfl
        | some y => simp only [Option.map_some, Option.map_none]; rw [hev y (by simp [Op.operands])]
      | some z => cases hi with
        | none => simp only [Option.map_some, Option.map_none]; rw [hev z (by simp [Op.operands])]
        | some y => simp only [Option.map_some]; rw [hev y (by simp [Op.operands]), hev z (by simp [Op.operands])]
    | some m => rfl
  | fieldAddr s x f => simp only [effOf]; rw [hev x (by simp [Op.operands])]
  | field s x f => simp only [effOf]; rw [hev x (by simp [Op.operands])]
  | indexAddr t x i => simp only [effOf]; rw [hev x (by simp [Op.operands]), hev i (by simp [Op.operands])]
  | index t x i => simp only [effOf]; rw [hev x (by simp [Op.operands]), hev i (by simp [Op.operands])]
  | extract x i => simp only [effOf]; rw [hev x (by simp [Op.operands])]
  | call c =>
    simp only [effOf, calleeE]
    rw [hl c.args (fun x hx => by simp [Op.operands, Call.operands, hx])]
    cases hc : c.callee with
    | value f => simp only []; rw [hev f (by simp [Op.operands, Call.operands, hc])]
    | invoke r m => rfl
    | builtin b => cases b <;> rfl
  | _ => rfl

/-- What is said of the one is said of the other. -/
def Imp (x y : AV) : Prop := ∀ (M : Nat → Prop) (w : World) (ρ : Nat → Value) (hp : Heap) (v : Value), R M w ρ hp x v → R M w ρ hp y v

/-- How a guard was decided. -/
def GuardIs (ops : List Oper) (o : Oper) (b : Bool) (tm : Nat → AV) : Prop :=
  (o.guard = none ∧ b = true) ∨ ∃ j want oj d, o.guard = some (j, want) ∧ ops[j]? = some oj ∧ oj.dst = some d ∧ ((∃ t, tm d = .v (.bool t) ∧ b = (t == want)) ∨ (∃ vs, tm d = .v (.tuple vs) ∧ b = false))

theorem guarded_inv {Rt : Type} {ops : List Oper} {o : Oper} {tm : Nat → AV} {K : Bool → (Nat → AV) → Option Rt} {r : Rt} (hk : guarded ops o.guard tm K = some r) : ∃ b tm', K b tm' = some r ∧ GuardIs ops o b tm' ∧ ∀ t, Imp (tm t) (tm' t) := by
  have refl : ∀ t, Imp (tm t) (tm t) := fun t _ _ _ _ _ h => h
  unfold guarded at hk
  split at hk
  · rename_i hg; exact ⟨true, tm, hk, .inl ⟨hg, rfl⟩, refl⟩
  · rename_i j want hg
    split at hk
    case h_1 => cases hk
    rename_i oj hj
    split at hk
    case h_1 => cases hk
    rename_i d hd
    have key : ∀ (t : Bool) (tm' : Nat → AV), tm' d = .v (.bool t) → (∀ u, Imp (tm u) (tm' u)) → K (t == want) tm' = some r → ∃ b tm', K b tm' = some r ∧ GuardIs ops o b tm' ∧ ∀ t, Imp (tm t) (tm' t) :=
      fun t tm' h1 h2 h3 => ⟨_, tm', h3, .inr ⟨j, want, oj, d, hg, hj, hd, .inl ⟨t, h1, rfl⟩⟩, h2⟩
    have ui : ∀ (x : AV), Imp (tm d) x → ∀ u, Imp (tm u) (upd tm d x u) := by
      intro x hx u
      by_cases h : u = d
      · subst h; rw [upd_same]; exact hx
      · rw [upd_ne _ _ h]; exact refl u
    simp only at hk
    split at hk
    · rename_i t htd
      split at hk
      · exact key true tm htd refl (by cases want <;> exact hk)
      · exact key false tm htd refl (by cases want <;> exact hk)
    · rename_i vs htd
      exact ⟨false, tm, hk, .inr ⟨j, want, oj, d, hg, hj, hd, .inr ⟨vs, htd, rfl⟩⟩, refl⟩
    · rename_i t htd
      split at hk
      · rename_i h; subst h
        exact key true _ (upd_same _ _ _) (ui _ (by rw [htd]; exact fun _ _ _ _ _ h => h)) (by cases want <;> exact hk)
      · rename_i h
        have : t = false := by simpa using h
        subst this
        exact key false _ (upd_same _ _ _) (ui _ (by rw [htd]; exact fun _ _ _ _ _ h => h)) (by cases want <;> exact hk)
    · rename_i t htd
      split at hk
      · rename_i h; subst h
        exact key false _ (upd_same _ _ _) (ui _ (by rw [htd]; exact fun _ _ _ _ _ h => h)) (by cases want <;> exact hk)
      · rename_i h
        have : t = false := by simpa using h
        subst this
        exact key true _ (upd_same _ _ _) (ui _ (by rw [htd]; exact fun _ _ _ _ _ h => h)) (by cases want <;> exact hk)
    · rename_i p dp htd
      split at hk
      · rename_i h
        exact key true _ (upd_same _ _ _) (ui _ (by rw [htd]; intro _ _ _ _ v hv; rw [show v = _ from hv]; simp [R, xorB, h])) (by cases want <;> exact hk)
      · rename_i h
        exact key false _ (upd_same _ _ _) (ui _ (by rw [htd]; intro _ _ _ _ v hv; rw [show v = _ from hv]; simp [R, xorB, h])) (by cases want <;> exact hk)
    · rename_i p dp htd
      split at hk
      · rename_i h
        exact key false _ (upd_same _ _ _) (ui _ (by rw [htd]; intro _ _ _ _ v hv; rw [show v = _ from hv]; simp [R, xorB, h])) (by cases want <;> exact hk)
      · rename_i h
        exact key true _ (upd_same _ _ _) (ui _ (by rw [htd]; intro _ _ _ _ v hv; rw [show v = _ from hv]; simp [R, xorB, h])) (by cases want <;> exact hk)
    · cases hk

theorem GuardIs.wanted {M : Nat → Prop} {w : World} {ρ : Nat → Value} {hp : Heap} {ops : List Oper} {o : Oper} {b : Bool} {tm : Nat → AV} {a : Act} (h : GuardIs ops o b tm) (ht : ∀ g w' oj d, o.guard = some (g, w') → ops[g]? = some oj → oj.dst = some d → R M w ρ hp (tm d) (a.tmps.getD d undef)) :
    Region.wanted o (yielded ops.toArray a.tmps) = b := by
  rcases h with ⟨hg, rfl⟩ | ⟨j, want, oj, d, hg, hj, hd, h⟩
  · simp [Region.wanted, hg]
  · have hd' := ht j want oj d hg hj hd
    have hj' : ops.toArray[j]? = some oj := by simpa using hj
    rcases h with ⟨t, e, rfl⟩ | ⟨vs, e, rfl⟩
    · rw [e] at hd'
      simp [Region.wanted, hg, yielded_bool hj' hd hd']
    · rw [e] at hd'
      have : yielded ops.toArray a.tmps j = none := by
        have h' : a.tmps.getD d undef = .tuple vs := hd'
        rw [Array.getD_eq_getD_getElem?] at h'
        simp only [yielded, hj', Option.bind_some, hd]
        cases hq : a.tmps[d]? with
        | none => rfl
        | some v => rw [hq] at h'; simp at h'; subst h'; rfl
      simp [Region.wanted, hg, this]

def putTm (dst : Option Tmp) (x : AV) (tm : Nat → AV) : Nat → AV :=
  match dst with
  | some d => upd tm d x
  | none => tm

/-- One operation of the walk in the order of the text. -/
structure Row (P : Program) (E : Env) (k n nx : Nat) (ops : List Oper) (i : Nat) (o : Oper) (T T' : Nat → AV) (h h' : Heap) (b : Bool) (tm : Nat → AV) (x : AV) (rs ws : List Nat) : Prop where
  guard : GuardIs ops o b tm
  imp : ∀ t, Imp (T t) (tm t)
  run : (b = true ∧ ∃ b', (effOf P E k o tm).go (nx + 16 * i) h [] [] (fun x b hp rs ws => some (x, b, hp, rs, ws)) = some (x, b', h', rs, ws)) ∨ (b = false ∧ x = .v undef ∧ h' = h ∧ rs = [] ∧ ws = [])
  dst : ∀ d, o.dst = some d → d < n
  next : T' = putTm o.dst x tm

theorem put_inv {Rt : Type} {n : Nat} {dst : Option Tmp} {x : AV} {tm : Nat → AV} {K : (Nat → AV) → Option Rt} {r : Rt} (hk : put n dst x tm K = some r) : (∀ d, dst = some d → d < n) ∧ K (putTm dst x tm) = some r := by
  cases dst with
  | none => exact ⟨fun d h => (by cases h), hk⟩
  | some d =>
    simp only [put] at hk
    split at hk
    case h_2 => cases hk
    rename_i hle
    have hle := Nat.le_of_ble_eq_true hle
    exact ⟨fun d' h => by injection h with h; subst h; exact hle, hk⟩

/-- The whole walk. -/
theorem runD_inv {Rt : Type} {P : Program} {E : Env} {k n nx : Nat} {ops : List Oper} {K : St → Foot → Option Rt} {r : Rt} : (l : List Oper) → {i : Nat} → {tm0 : Nat → AV} → {hp0 : Heap} → {F : Foot} → (∀ j, l[j]? = ops[i + j]?) → F.length = i →
    runD P E k n ops l i ⟨tm0, hp0, nx⟩ F K = some r →
    ∃ (T : Nat → Nat → AV) (hs : Nat → Heap) (bs : Nat → Bool) (tms : Nat → Nat → AV) (xs : Nat → AV) (F' : Foot), T i = tm0 ∧ hs i = hp0 ∧ (∀ j, j < i → F'[j]? = F[j]?) ∧ F'.length = i + l.length ∧
      (∀ j o, i ≤ j → ops[j]? = some o → ∃ rs ws, F'[j]? = some (rs, ws) ∧ Row P E k n nx ops j o (T j) (T (j + 1)) (hs j) (hs (j + 1)) (bs j) (tms j) (xs j) rs ws) ∧
      K ⟨T (i + l.length), hs (i + l.length), nx⟩ F' = some r
  | [], i, tm0, hp0, F, hl, hF, hk => by
    refine ⟨fun _ => tm0, fun _ => hp0, fun _ => true, fun _ => tm0, fun _ => .dead, F, rfl, rfl, fun _ _ => rfl, by simpa using hF, fun j o hij ho => ?_, hk⟩
    have := hl (j - i)
    rw [show i + (j - i) = j by omega, ho] at this
    simp at this
  | o :: l, i, tm0, hp0, F, hl, hF, hk => by
    unfold runD at hk
    obtain ⟨b, tm', hK, hg, himp⟩ := guarded_inv hk
    have ho : ops[i]? = some o := by simpa using (hl 0).symm
    have fin : ∃ x h' rs ws, ((b = true ∧ ∃ b', (effOf P E k o tm').go (nx + 16 * i) hp0 [] [] (fun x b hp rs ws => some (x, b, hp, rs, ws)) = some (x, b', h', rs, ws)) ∨ (b = false ∧ x = .v undef ∧ h' = hp0 ∧ rs = [] ∧ ws = [])) ∧ (∀ d, o.dst = some d → d < n) ∧
        runD P E k n ops l (i + 1) ⟨putTm o.dst x tm', h', nx⟩ (F ++ [(rs, ws)]) K = some r := by
      cases b with
      | true =>
        obtain ⟨x, b', h', rs, ws, h1, h2⟩ := go_done _ hK
        split at h2
        case h_2 => cases h2
        obtain ⟨h3, h4⟩ := put_inv h2
        exact ⟨x, h', rs, ws, .inl ⟨rfl, b', h1⟩, h3, h4⟩
      | false =>
        obtain ⟨h3, h4⟩ := put_inv hK
        exact ⟨.v undef, hp0, [], [], .inr ⟨rfl, rfl, rfl, rfl, rfl⟩, h3, h4⟩
    obtain ⟨x, h', rs, ws, hrun, hdst, hrest⟩ := fin
    obtain ⟨T, hs, bs, tms, xs, F', e1, e2, e3, e4, e5, e6⟩ := runD_inv l (i := i + 1) (fun j => by have := hl (j + 1); rw [show i + 1 + j = i + (j + 1) by omega]; simpa using this) (by simp [hF]) hrest
    have hne : ∀ {j : Nat}, i + 1 ≤ j → j ≠ i := fun h => by omega
    refine ⟨fun j => if j = i then tm0 else T j, fun j => if j = i then hp0 else hs j, fun j => if j = i then b else bs j, fun j => if j = i then tm' else tms j, fun j => if j = i then x else xs j, F', by simp, by simp, fun j hj => ?_, by rw [e4, List.length_cons]; omega, fun j oj hij hoj => ?_, ?_⟩
    · rw [e3 j (by omega), List.getElem?_append_left (by omega)]
    · by_cases hji : j = i
      · subst hji
        rw [ho] at hoj
        injection hoj with hoj
        subst hoj
        refine ⟨rs, ws, ?_, ?_⟩
        · rw [e3 j (by omega), List.getElem?_append_right (by omega), hF]; simp
        · simp only [if_true, show ¬ (j + 1 = j) by omega, if_false]
          exact ⟨hg, himp, by rw [e2]; exact hrun, hdst, e1⟩
      · obtain ⟨rs', ws', h1, h2⟩ := e5 j oj (by omega) hoj
        refine ⟨rs', ws', h1, ?_⟩
        simp only [if_neg hji, show ¬ (j + 1 = i) by omega, if_false]
        exact h2
    · have : i + (o :: l).length = i + 1 + l.length := by simp; omega
      rw [this]
      simp only [show ¬ (i + 1 + l.length = i) by omega, if_false]
      exact e6

theorem meets_false {a b : List Nat} (h : meets a b = false) : ∀ x, x ∈ a → x ∉ b := by
  induction a with
  | nil => intro x hx; cases hx
  | cons y a ih =>
    simp only [meets, Bool.or_eq_false_iff] at h
    intro x hx hxb
    rcases List.mem_cons.1 hx with e | e
    · subst e
      have : b.any (Nat.beq x) = true := List.any_eq_true.2 ⟨x, hxb, Nat.beq_refl x⟩
      rw [h.1] at this
      cases this
    · exact ih h.2 x e hxb

/-- Waits for it. -/
def WaitsOn (o : Oper) (i : Nat) : Prop := ∃ e, e ∈ o.after ∧ Region.binds .any e = true ∧ e.on = i

theorem reach_listed {ops : List Oper} {L : Nat → Prop} (hc : ∀ (j : Nat) (o : Oper), L j → ops[j]? = some o → ∀ e, e ∈ o.after → Region.binds .any e = true → L e.on) : (f : Nat) → {j i : Nat} → L j → reach ops f j i = true → L i
  | 0, _, _, _, h => by cases h
  | f + 1, j, i, hj, h => by
    unfold reach at h
    split at h
    · rename_i o ho
      obtain ⟨e, he, hb⟩ := List.any_eq_true.1 h
      simp only [Bool.and_eq_true, Bool.or_eq_true] at hb
      have hl := hc j o hj ho e (by simpa using he) hb.1
      rcases hb.2 with h2 | h2
      · rw [Nat.eq_of_beq_eq_true h2] at hl; exact hl
      · exact reach_listed hc f hl h2
    · cases h

/-- As far as the first step. -/
theorem reach_step {ops : List Oper} {L : Nat → Prop} (hc : ∀ (j : Nat) (o : Oper), L j → ops[j]? = some o → ∀ e, e ∈ o.after → Region.binds .any e = true → L e.on) {j i : Nat} {o : Oper} (ho : ops[j]? = some o) (hd : ∀ e, e ∈ o.after → Region.binds .any e = true → L e.on) : (f : Nat) → reach ops f j i = true → L i
  | 0, h => by cases h
  | f + 1, h => by
    unfold reach at h
    rw [ho] at h
    obtain ⟨e, he, hb⟩ := List.any_eq_true.1 h
    simp only [Bool.and_eq_true, Bool.or_eq_true] at hb
    have hl := hd e (by simpa using he) hb.1
    rcases hb.2 with h2 | h2
    · rw [Nat.eq_of_beq_eq_true h2] at hl; exact hl
    · exact reach_listed hc f hl h2

theorem footOk_pair {ops : List Oper} {F : Foot} (h : footOk ops F = true) {i j : Nat} {oj : Oper} {ri wi rj wj : List Nat} (hij : i < j) (hj : ops[j]? = some oj) (hi : F[i]? = some (ri, wi)) (hj' : F[j]? = some (rj, wj)) :
    WaitsOn oj i ∨ (∃ f, reach ops f j i = true) ∨ ((∀ x, x ∈ wi → x ∉ rj) ∧ (∀ x, x ∈ wi → x ∉ wj) ∧ ∀ x, x ∈ wj → x ∉ ri) := by
  have hjl : j < ops.length := lt_of_get hj
  simp only [footOk, List.all_eq_true, List.mem_range] at h
  have := h i (by omega) j hjl
  rw [hj, hi, hj'] at this
  simp only [Bool.or_eq_true, Bool.not_eq_true'] at this
  rcases this with h1 | h1 | h1 | h1
  · have : Nat.ble (i + 1) j = true := Nat.ble_eq_true_of_le hij
    rw [h1] at this; cases this
  · left
    obtain ⟨e, he, hb⟩ := List.any_eq_true.1 h1
    simp only [Bool.and_eq_true] at hb
    exact ⟨e, by simpa using he, hb.1, Nat.eq_of_beq_eq_true hb.2⟩
  · right; right
    simp only [Bool.and_eq_true, Bool.not_eq_true'] at h1
    exact ⟨meets_false h1.1.1, meets_false h1.1.2, meets_false h1.2⟩
  · exact .inr (.inl ⟨_, h1⟩)

theorem lex_from {ops : Array Oper} : (fuel k : Nat) → (listed : Array Bool) → (∀ j, j < ops.size → (listed.getD j true = true ↔ j < k)) → (∀ j, listed.getD j false = true → j < k) → listed.size = ops.size → k + fuel = ops.size → Region.lexFrom .any ops fuel k listed = true →
    ∀ i, k ≤ i → ∀ oi, ops[i]? = some oi → (∀ e, e ∈ oi.after → Region.binds .any e = true → e.on < i) ∧ ∀ j oj, i < j → ops[j]? = some oj → WaitsOn oj i ∨ oi.apart ops oj = true
  | 0, k, listed, _, _, _, hk, _, i, hi, oi, hoi => by
    have := (Array.getElem?_eq_some_iff.1 hoi).1
    omega
  | fuel + 1, k, listed, h1, h1', h2, hk, hB, i, hi, oi, hoi => by
    simp only [Region.lexFrom, Bool.and_eq_true] at hB
    obtain ⟨⟨hr, hf⟩, hB'⟩ := hB
    have hkl : k < ops.size := by omega
    by_cases hik : i = k
    · subst hik
      have hrd := mem_ready.1 (show i ∈ Region.ready .any ops listed by simpa using hr)
      obtain ⟨_, o, ho, hall⟩ := hrd
      rw [hoi] at ho
      injection ho with ho
      subst ho
      refine ⟨fun e he hb => h1' _ (hall e he hb), fun j oj hij hoj => ?_⟩
      have hjl := (Array.getElem?_eq_some_iff.1 hoj).1
      have hun : listed.getD j true = false := by
        cases hq : listed.getD j true with
        | false => rfl
        | true => have := (h1 j hjl).1 hq; omega
      by_cases hw : WaitsOn oj i
      · exact .inl hw
      · exact .inr (Region.free_spec hoi hf j oj hoj (by omega) hun (fun e he hb heq => hw ⟨e, he, hb, heq⟩))
    · refine lex_from fuel (k + 1) (listed.setIfInBounds k true) (fun j hj => ?_) (fun j hj => ?_) (by simp [h2]) (by omega) hB' i (by omega) oi hoi
      · by_cases hjk : j = k
        · subst hjk
          rw [Array.getD_eq_getD_getElem?, Array.getElem?_setIfInBounds_self_of_lt (by omega)]
          simp
        · rw [getD_set_ne true (fun e => hjk e.symm), h1 j hj]
          omega
      · by_cases hjk : j = k
        · omega
        · rw [getD_set_ne false (fun e => hjk e.symm)] at hj
          have := h1' j hj
          omega

theorem lex_pairs {ops : Array Oper} (h : Region.lexB .any ops = true) : ∀ i oi, ops[i]? = some oi → (∀ e, e ∈ oi.after → Region.binds .any e = true → e.on < i) ∧ ∀ j oj, i < j → ops[j]? = some oj → WaitsOn oj i ∨ oi.apart ops oj = true := by
  simp only [Region.lexB, Bool.and_eq_true] at h
  intro i oi hoi
  refine lex_from ops.size 0 _ (fun j hj => ?_) (fun j hj => ?_) (by simp) (by omega) h.2 i (Nat.zero_le _) oi hoi
  · rw [Array.getD_eq_getD_getElem?]
    simp [hj]
  · rw [Array.getD_eq_getD_getElem?] at hj
    by_cases hl : j < ops.size
    · simp [hl] at hj
    · simp [hl] at hj

/-! ### Any order -/
section
variable (T0 : Nat → AV) (h0 : Heap) (dstOf : Nat → Option Tmp) (xs : Nat → AV) (hs : Nat → Heap) (wsOf : Nat → List Nat)

def lastT (L : Nat → Bool) : Nat → Nat → AV
  | 0, t => T0 t
  | i + 1, t => if L i = true ∧ dstOf i = some t then xs i else lastT L i t

def lastH (L : Nat → Bool) : Nat → Nat → HE ⊕ Option (Nat × Nat)
  | 0, h => cellAt h0 h
  | i + 1, h => if L i = true ∧ h ∈ wsOf i then cellAt (hs (i + 1)) h else lastH L i h
end

theorem lastT_congr {T0 : Nat → AV} {dstOf : Nat → Option Tmp} {xs : Nat → AV} {L L' : Nat → Bool} {t : Nat} : (N : Nat) → (∀ k, k < N → dstOf k = some t → L k = L' k) → lastT T0 dstOf xs L N t = lastT T0 dstOf xs L' N t
  | 0, _ => rfl
  | i + 1, h => by
    have ih := lastT_congr (T0 := T0) (xs := xs) i (fun k hk hd => h k (by omega) hd)
    unfold lastT
    rw [ih]
    by_cases hd : dstOf i = some t
    · rw [h i (by omega) hd]
    · rw [if_neg (fun e => hd e.2), if_neg (fun e => hd e.2)]

theorem lastT_skip {T0 : Nat → AV} {dstOf : Nat → Option Tmp} {xs : Nat → AV} {L : Nat → Bool} {t i : Nat} : (N : Nat) → i ≤ N → (∀ k, i ≤ k → k < N → L k = true → dstOf k ≠ some t) → lastT T0 dstOf xs L N t = lastT T0 dstOf xs L i t
  | 0, hi, _ => by rw [show i = 0 by omega]
  | N + 1, hi, h => by
    by_cases e : i = N + 1
    · rw [e]
    · have ih := lastT_skip (T0 := T0) (xs := xs) N (by omega) (fun k h1 h2 h3 => h k h1 (by omega) h3)
      rw [← ih]
      show (if L N = true ∧ dstOf N = some t then xs N else lastT T0 dstOf xs L N t) = _
      rw [if_neg (fun e => h N (by omega) (by omega) e.1 e.2)]

theorem lastH_congr {h0 : Heap} {hs : Nat → Heap} {wsOf : Nat → List Nat} {L L' : Nat → Bool} {h : Nat} : (N : Nat) → (∀ k, k < N → h ∈ wsOf k → L k = L' k) → lastH h0 hs wsOf L N h = lastH h0 hs wsOf L' N h
  | 0, _ => rfl
  | i + 1, g => by
    have ih := lastH_congr (h0 := h0) (hs := hs) i (fun k hk hd => g k (by omega) hd)
    unfold lastH
    rw [ih]
    by_cases hd : h ∈ wsOf i
    · rw [g i (by omega) hd]
    · rw [if_neg (fun e => hd e.2), if_neg (fun e => hd e.2)]

theorem lastH_skip {h0 : Heap} {hs : Nat → Heap} {wsOf : Nat → List Nat} {L : Nat → Bool} {h i : Nat} : (N : Nat) → i ≤ N → (∀ k, i ≤ k → k < N → L k = true → h ∉ wsOf k) → lastH h0 hs wsOf L N h = lastH h0 hs wsOf L i h
  | 0, hi, _ => by rw [show i = 0 by omega]
  | N + 1, hi, g => by
    by_cases e : i = N + 1
    · rw [e]
    · have ih := lastH_skip (h0 := h0) (hs := hs) N (by omega) (fun k h1 h2 h3 => g k h1 (by omega) h3)
      rw [← ih]
      show (if L N = true ∧ h ∈ wsOf N then cellAt (hs (N + 1)) h else lastH h0 hs wsOf L N h) = _
      rw [if_neg (fun e => g N (by omega) (by omega) e.1 e.2)]

theorem apart_of {ops : Array Oper} {x y : Oper} (h : x.apart ops y = true) : (∀ d, x.dst = some d → d ∉ y.looksAt ops) ∧ (∀ d, x.dst = some d → y.dst ≠ some d) ∧ (∀ d, y.dst = some d → d ∉ x.looksAt ops) := Oper.apart_spec h

theorem looks_operand {ops : Array Oper} {o : Oper} {t : Nat} (h : .tmp t ∈ o.op.operands) : t ∈ o.looksAt ops :=
  List.mem_append_left _ (List.mem_filterMap.2 ⟨.tmp t, by simpa using h, rfl⟩)
theorem looks_guard {ops : Array Oper} {o : Oper} {g d : Nat} {w : Bool} {oj : Oper} (hg : o.guard = some (g, w)) (hj : ops[g]? = some oj) (hd : oj.dst = some d) : d ∈ o.looksAt ops := by
  refine List.mem_append_right _ ?_
  rw [hg]
  simp only [hj, Option.bind_some, hd]
  simp

section
variable {Rt : Type} {P : Program} {E : Env} {k n : Nat} {MX : Nat → Prop} {w0 : World} {ρ0 : Nat → Value} {H0 : List HE}

/-- The walk in the order of the text, as a whole. -/
structure Walk (P : Program) (E : Env) (k n nx : Nat) (ops : Array Oper) (T : Nat → Nat → AV) (hs : Nat → Heap) (bs : Nat → Bool) (tms : Nat → Nat → AV) (xs : Nat → AV) (F : Foot) : Prop where
  rows : ∀ (j : Nat) (o : Oper), ops[j]? = some o → ∃ rs ws, F[j]? = some (rs, ws) ∧ Row P E k n nx ops.toList j o (T j) (T (j + 1)) (hs j) (hs (j + 1)) (bs j) (tms j) (xs j) rs ws
  lex : ∀ (i : Nat) (oi : Oper), ops[i]? = some oi → (∀ e, e ∈ oi.after → Region.binds .any e = true → e.on < i) ∧ ∀ (j : Nat) (oj : Oper), i < j → ops[j]? = some oj → WaitsOn oj i ∨ oi.apart ops oj = true
  foot : footOk ops.toList F = true

def dstAt (ops : Array Oper) (i : Nat) : Option Tmp := (ops[i]?).bind (·.dst)
def wsAt (F : Foot) (i : Nat) : List Nat := match F[i]? with | some (_, ws) => ws | none => []

theorem Row.keeps {nx : Nat} {ops : List Oper} {i : Nat} {o : Oper} {T T' : Nat → AV} {h h' : Heap} {b : Bool} {tm : Nat → AV} {x : AV} {rs ws : List Nat} (r : Row P E k n nx ops i o T T' h h' b tm x rs ws) : ∀ j, j ∉ ws → cellAt h' j = cellAt h j := by
  rcases r.run with ⟨_, b', hr⟩ | ⟨_, _, rfl, _, rfl⟩
  · obtain ⟨dr, dw, e1, e2, e3, _⟩ := go_local _ hr
    intro j hj
    rw [List.append_nil] at e2
    exact e3 j (e2 ▸ hj)
  · exact fun _ _ => rfl

/-- The state behind some of the operations. -/
structure DInv (MX : Nat → Prop) (w0 : World) (ρ0 : Nat → Value) (H0 : List HE) (n : Nat) (ops : Array Oper) (T : Nat → Nat → AV) (hs : Nat → Heap) (xs : Nat → AV) (F : Foot) (listed : Array Bool) (a : Act) (w : World) (ρ : Nat → Value) (hpD : Heap) : Prop where
  rel : HRel MX w ρ hpD
  since : Since w0 ρ0 H0 w ρ hpD
  size : n ≤ a.tmps.size
  defers : a.defers = []
  lsize : listed.size = ops.size
  closed : ∀ (j : Nat) (o : Oper), listed.getD j false = true → ops[j]? = some o → ∀ e, e ∈ o.after → Region.binds .any e = true → listed.getD e.on false = true
  tm : ∀ t, R (Mut MX hpD ρ) w ρ hpD (lastT (T 0) (dstAt ops) xs (fun i => listed.getD i false) ops.size t) (a.tmps.getD t undef)
  hp : ∀ h, cellAt hpD h = lastH (hs 0) hs (wsAt F) (fun i => listed.getD i false) ops.size h

theorem getD_both {listed : Array Bool} {i : Nat} (h : i < listed.size) : listed.getD i true = listed.getD i false := by
  rw [Array.getD_eq_getD_getElem?, Array.getD_eq_getD_getElem?, Array.getElem?_eq_getElem h]; rfl

theorem walk_T {nx : Nat} {ops : Array Oper} {T : Nat → Nat → AV} {hs : Nat → Heap} {bs : Nat → Bool} {tms : Nat → Nat → AV} {xs : Nat → AV} {F : Foot} (W : Walk P E k n nx ops T hs bs tms xs F) (t : Nat) : (i : Nat) → i ≤ ops.size → Imp (lastT (T 0) (dstAt ops) xs (fun _ => true) i t) (T i t)
  | 0, _ => fun _ _ _ _ _ h => h
  | i + 1, hi => by
    have ih := walk_T W t i (by omega)
    obtain ⟨o, ho⟩ : ∃ o, ops[i]? = some o := ⟨_, Array.getElem?_eq_getElem (by omega)⟩
    obtain ⟨rs, ws, _, r⟩ := W.rows i o ho
    have hd : dstAt ops i = o.dst := by simp [dstAt, ho]
    unfold lastT
    rw [r.next, hd]
    by_cases h : o.dst = some t
    · rw [if_pos ⟨rfl, h⟩, h]
      simp only [putTm, upd_same]
      exact fun _ _ _ _ _ h => h
    · rw [if_neg (fun e => h e.2)]
      have : putTm o.dst (xs i) (tms i) t = tms i t := by
        cases hdd : o.dst with
        | some d => exact upd_ne _ _ (fun e => h (by rw [hdd, e]))
        | none => rfl
      rw [this]
      exact fun M w ρ hp v hv => r.imp t _ _ _ _ _ (ih M w ρ hp v hv)

theorem walk_H {nx : Nat} {ops : Array Oper} {T : Nat → Nat → AV} {hs : Nat → Heap} {bs : Nat → Bool} {tms : Nat → Nat → AV} {xs : Nat → AV} {F : Foot} (W : Walk P E k n nx ops T hs bs tms xs F) (h : Nat) : (i : Nat) → i ≤ ops.size → lastH (hs 0) hs (wsAt F) (fun _ => true) i h = cellAt (hs i) h
  | 0, _ => rfl
  | i + 1, hi => by
    have ih := walk_H W h i (by omega)
    obtain ⟨o, ho⟩ : ∃ o, ops[i]? = some o := ⟨_, Array.getElem?_eq_getElem (by omega)⟩
    obtain ⟨rs, ws, hF, r⟩ := W.rows i o ho
    unfold lastH
    by_cases hw : h ∈ wsAt F i
    · rw [if_pos ⟨rfl, hw⟩]
    · rw [if_neg (fun e => hw e.2), ih]
      have : wsAt F i = ws := by simp [wsAt, hF]
      exact (r.keeps h (this ▸ hw)).symm

theorem set_listed {listed : Array Bool} {i j : Nat} (hi : i < listed.size) : (listed.setIfInBounds i true).getD j false = (if j = i then true else listed.getD j false) := by
  by_cases h : j = i
  · subst h
    rw [if_pos rfl, Array.getD_eq_getD_getElem?, Array.getElem?_setIfInBounds_self_of_lt hi]; rfl
  · rw [if_neg h, getD_set_ne false (fun e => h e.symm)]

theorem draw_any (hE : EnvOk P E) {nx : Nat} {ops : Array Oper} {T : Nat → Nat → AV} {hs : Nat → Heap} {bs : Nat → Bool} {tms : Nat → Nat → AV} {xs : Nat → AV} {F : Foot} (W : Walk P E k n nx ops T hs bs tms xs F)
    {Q : Exit → Act → World → Prop} {nx' : Nat} (hQ : ∀ a w ρ, Sim n MX w0 ρ0 H0 ⟨T ops.size, hs ops.size, nx'⟩ a w ρ → Q .normal a w) :
    (fuel : Nat) → {un : List Nat} → {listed : Array Bool} → {a : Act} → {w : World} → {ρ : Nat → Value} → {hpD : Heap} → un.Nodup → (∀ i, i ∈ un ↔ i < ops.size ∧ listed.getD i false = false) → un.length = fuel →
    DInv MX w0 ρ0 H0 n ops T hs xs F listed a w ρ hpD → wpAny P .any ops Q fuel listed a w := by
  intro fuel
  have fin : ∀ {listed : Array Bool} {a : Act} {w : World} {ρ : Nat → Value} {hpD : Heap}, (∀ i, i < ops.size → listed.getD i false = true) → DInv MX w0 ρ0 H0 n ops T hs xs F listed a w ρ hpD → Q .normal a w := by
    intro listed a w ρ hpD hall D
    have e1 : ∀ t, lastT (T 0) (dstAt ops) xs (fun i => listed.getD i false) ops.size t = lastT (T 0) (dstAt ops) xs (fun _ => true) ops.size t := fun t => lastT_congr _ (fun k hk _ => hall k hk)
    have e2 : hpD = hs ops.size := by
      have hc : ∀ h, cellAt hpD h = cellAt (hs ops.size) h := fun h => by rw [D.hp h, lastH_congr (L' := fun _ => true) _ (fun k hk _ => hall k hk), walk_H W h _ (Nat.le_refl _)]
      funext h
      exact cells_join (hc _) (hc _)
    subst e2
    exact hQ a w ρ ⟨D.rel, fun t => walk_T W t _ (Nat.le_refl _) _ _ _ _ _ (by rw [← e1 t]; exact D.tm t), D.size, D.defers, D.since⟩
  induction fuel with
  | zero =>
    intro un listed a w ρ hpD hnd hun hlen D
    have hu0 : un = [] := List.eq_nil_of_length_eq_zero hlen
    have hall : ∀ i, i < ops.size → listed.getD i false = true := by
      intro i hi
      cases h : listed.getD i false with
      | true => rfl
      | false => have := (hun i).2 ⟨hi, h⟩; rw [hu0] at this; cases this
    refine ⟨?_, fin hall D⟩
    refine List.eq_nil_iff_forall_not_mem.2 fun j hj => ?_
    obtain ⟨h1, o, ho, _⟩ := mem_ready.1 hj
    have hjl := (Array.getElem?_eq_some_iff.1 ho).1
    rw [getD_both (by rw [D.lsize]; exact hjl), hall j hjl] at h1
    cases h1
  | succ fuel ih =>
    intro un listed a w ρ hpD hnd hun hlen D
    refine ⟨fun hre => ?_, fun i hi => ?_⟩
    · -- nothing may come up: all have come up
      refine fin (fun i hi => ?_) D
      have key : ∀ m i, i < m → i < ops.size → listed.getD i false = true := by
        intro m
        induction m with
        | zero => intro i h; omega
        | succ m ihm =>
          intro i him hi
          cases h : listed.getD i false with
          | true => rfl
          | false =>
            exfalso
            obtain ⟨o, ho⟩ : ∃ o, ops[i]? = some o := ⟨_, Array.getElem?_eq_getElem hi⟩
            have : i ∈ Region.ready .any ops listed := mem_ready.2 ⟨by rw [getD_both (by rw [D.lsize]; exact hi)]; exact h, o, ho, fun e he hb => by
              have := (W.lex i o ho).1 e he hb
              exact ihm e.on (by omega) (by omega)⟩
            rw [hre] at this
            cases this
      exact key (i + 1) i (by omega) hi
    · obtain ⟨hun1, o, ho, hall⟩ := mem_ready.1 hi
      have hil := (Array.getElem?_eq_some_iff.1 ho).1
      have hLi : listed.getD i false = false := by rw [← getD_both (by rw [D.lsize]; exact hil)]; exact hun1
      obtain ⟨rs, ws, hF, r⟩ := W.rows i o ho
      have hws : wsAt F i = ws := by simp [wsAt, hF]
      have hdi : dstAt ops i = o.dst := by simp [dstAt, ho]
      -- the others that have come up and stand behind it
      have later : ∀ j oj, i < j → ops[j]? = some oj → listed.getD j false = true → ¬ WaitsOn oj i := by
        rintro j oj _ hoj hL ⟨e, he, hb, hon⟩
        have := D.closed j oj hL hoj e he hb
        rw [hon, hLi] at this
        cases this
      have looked : ∀ t, t ∈ o.looksAt ops → lastT (T 0) (dstAt ops) xs (fun i => listed.getD i false) ops.size t = lastT (T 0) (dstAt ops) xs (fun _ => true) i t := by
        intro t ht
        rw [lastT_skip (i := i) ops.size (by omega) (fun j h1 h2 h3 hd => ?_)]
        · refine lastT_congr i (fun j hj hd => ?_)
          obtain ⟨oj, hoj⟩ : ∃ oj, ops[j]? = some oj := ⟨_, Array.getElem?_eq_getElem (by omega)⟩
          have hd' : oj.dst = some t := by rw [← hd]; simp [dstAt, hoj]
          rcases (W.lex j oj hoj).2 i o hj ho with ⟨e, he, hb, hon⟩ | hap
          · have := hall e he hb
            rw [hon] at this
            exact this
          · exact absurd ht ((apart_of hap).1 t hd')
        · by_cases hji : j = i
          · subst hji; rw [hLi] at h3; cases h3
          · obtain ⟨oj, hoj⟩ : ∃ oj, ops[j]? = some oj := ⟨_, Array.getElem?_eq_getElem (by omega)⟩
            have hd' : oj.dst = some t := by rw [← hd]; simp [dstAt, hoj]
            rcases (W.lex i o ho).2 j oj (by omega) hoj with hw | hap
            · exact later j oj (by omega) hoj h3 hw
            · exact (apart_of hap).2.2 t hd' ht
      have tmOk : ∀ t, t ∈ o.looksAt ops → R (Mut MX hpD ρ) w ρ hpD (tms i t) (a.tmps.getD t undef) := fun t ht =>
        r.imp t _ _ _ _ _ (walk_T W t i (by omega) _ _ _ _ _ (by rw [← looked t ht]; exact D.tm t))
      have footL : ∀ j oj rj wj, i < j → ops[j]? = some oj → F[j]? = some (rj, wj) → listed.getD j false = true → (∀ x, x ∈ ws → x ∉ wj) ∧ ∀ x, x ∈ wj → x ∉ rs := by
        intro j oj rj wj hij hoj hFj hL
        rcases footOk_pair W.foot hij (by simpa using hoj) hF hFj with hw | ⟨f, hf⟩ | h
        · exact absurd hw (later j oj hij hoj hL)
        · have := reach_listed (L := fun j => listed.getD j false = true) (fun j o h1 h2 => D.closed j o h1 (by simpa using h2)) f hL hf
          rw [hLi] at this
          cases this
        · exact h.2
      have touched : ∀ h, h ∈ rs ∨ h ∈ ws → cellAt hpD h = cellAt (hs i) h := by
        intro h hh
        rw [D.hp h, lastH_skip (i := i) ops.size (by omega) (fun j h1 h2 h3 hw => ?_)]
        · rw [lastH_congr (L' := fun _ => true) i (fun j hj hw => ?_), walk_H W h i (by omega)]
          obtain ⟨oj, hoj⟩ : ∃ oj, ops[j]? = some oj := ⟨_, Array.getElem?_eq_getElem (by omega)⟩
          obtain ⟨rj, wj, hFj, _⟩ := W.rows j oj hoj
          have hw' : h ∈ wj := by simpa [wsAt, hFj] using hw
          rcases footOk_pair W.foot hj (by simpa using ho) hFj hF with ⟨e, he, hb, hon⟩ | ⟨f, hf⟩ | ⟨g1, g2, _⟩
          · have := hall e he hb
            rw [hon] at this
            exact this
          · exact reach_step (L := fun j => listed.getD j false = true) (fun j o h1 h2 => D.closed j o h1 (by simpa using h2)) (by simpa using ho) hall f hf
          · rcases hh with hh | hh
            · exact absurd hh (g1 h hw')
            · exact absurd hh (g2 h hw')
        · by_cases hji : j = i
          · subst hji; rw [hLi] at h3; cases h3
          · obtain ⟨oj, hoj⟩ : ∃ oj, ops[j]? = some oj := ⟨_, Array.getElem?_eq_getElem (by omega)⟩
            obtain ⟨rj, wj, hFj, _⟩ := W.rows j oj hoj
            have hw' : h ∈ wj := by simpa [wsAt, hFj] using hw
            obtain ⟨g1, g2⟩ := footL j oj rj wj (by omega) hoj hFj h3
            rcases hh with hh | hh
            · exact g2 h hw' hh
            · exact g1 h hh hw'
      -- what holds behind it
      have hset := fun j => set_listed (listed := listed) (i := i) (j := j) (by rw [D.lsize]; exact hil)
      have after : ∀ (v : Value) (w' : World) (ρ' : Nat → Value) (hp' : Heap), Step MX w ρ hpD w' ρ' hp' → R (Mut MX hp' ρ') w' ρ' hp' (xs i) v → (∀ h, h ∈ ws → cellAt hp' h = cellAt (hs (i + 1)) h) → (∀ h, h ∉ ws → cellAt hp' h = cellAt hpD h) →
          wpAny P .any ops Q fuel (listed.setIfInBounds i true) (a.put o.dst v) w' := by
        intro v w' ρ' hp' hstep hv hh1 hh2
        refine ih (un := un.erase i) (hnd.erase i) (fun j => ?_) (by rw [List.length_erase_of_mem ((hun i).2 ⟨hil, hLi⟩), hlen]; rfl) (ρ := ρ') (hpD := hp') ?_
        · rw [List.Nodup.mem_erase_iff hnd, hun j, hset j]
          by_cases hji : j = i
          · simp [hji]
          · simp [hji]
        · refine ⟨hstep.rel, D.since.step hstep, ?_, by cases h : o.dst <;> simp [Act.put, D.defers], by simp [D.lsize], fun j oj hL hoj e he hb => ?_, fun t => ?_, fun h => ?_⟩
          · cases h : o.dst <;> simp [Act.put, D.size]
          · rw [hset] at hL ⊢
            by_cases hon : e.on = i
            · rw [if_pos hon]
            · rw [if_neg hon]
              by_cases hji : j = i
              · subst hji
                rw [ho] at hoj
                injection hoj with hoj
                subst hoj
                exact hall e he hb
              · rw [if_neg hji] at hL
                exact D.closed j oj hL hoj e he hb
          · by_cases hd : o.dst = some t
            · have e1 : lastT (T 0) (dstAt ops) xs (fun j => (listed.setIfInBounds i true).getD j false) ops.size t = xs i := by
                rw [lastT_skip (i := i + 1) ops.size (by omega) (fun j h1 h2 h3 hdj => ?_)]
                · unfold lastT
                  rw [if_pos ⟨by rw [hset, if_pos rfl], by rw [hdi]; exact hd⟩]
                · obtain ⟨oj, hoj⟩ : ∃ oj, ops[j]? = some oj := ⟨_, Array.getElem?_eq_getElem (by omega)⟩
                  have hd' : oj.dst = some t := by rw [← hdj]; simp [dstAt, hoj]
                  rw [hset, if_neg (by omega)] at h3
                  rcases (W.lex i o ho).2 j oj (by omega) hoj with hw | hap
                  · exact later j oj (by omega) hoj h3 hw
                  · exact (apart_of hap).2.1 t hd hd'
              rw [e1]
              have hn : t < n := r.dst t hd
              have hsz := D.size
              have : (a.put o.dst v).tmps.getD t undef = v := by
                rw [hd]
                simp only [Act.put]
                rw [Array.getD_eq_getD_getElem?, Array.getElem?_setIfInBounds_self_of_lt (by omega)]
                rfl
              rw [this]
              exact hv
            · have e1 : lastT (T 0) (dstAt ops) xs (fun j => (listed.setIfInBounds i true).getD j false) ops.size t = lastT (T 0) (dstAt ops) xs (fun j => listed.getD j false) ops.size t := by
                refine lastT_congr _ (fun j hj hdj => ?_)
                rw [hset]
                by_cases hji : j = i
                · subst hji; rw [hdi] at hdj; exact absurd hdj hd
                · rw [if_neg hji]
              rw [e1]
              have : (a.put o.dst v).tmps.getD t undef = a.tmps.getD t undef := by
                cases hd2 : o.dst with
                | none => rfl
                | some d =>
                  simp only [Act.put]
                  rw [Array.getD_eq_getD_getElem?, Array.getD_eq_getD_getElem?, Array.getElem?_setIfInBounds_ne (fun e => hd (by rw [hd2, e]))]
              rw [this]
              exact hstep.R (D.tm t)
          · by_cases hw : h ∈ ws
            · rw [hh1 h hw, lastH_skip (i := i + 1) ops.size (by omega) (fun j h1 h2 h3 hwj => ?_)]
              · unfold lastH
                rw [if_pos ⟨by rw [hset, if_pos rfl], by rw [hws]; exact hw⟩]
              · obtain ⟨oj, hoj⟩ : ∃ oj, ops[j]? = some oj := ⟨_, Array.getElem?_eq_getElem (by omega)⟩
                obtain ⟨rj, wj, hFj, _⟩ := W.rows j oj hoj
                have hw' : h ∈ wj := by simpa [wsAt, hFj] using hwj
                rw [hset, if_neg (by omega)] at h3
                exact (footL j oj rj wj (by omega) hoj hFj h3).1 h hw hw'
            · rw [hh2 h hw, D.hp h]
              refine (lastH_congr _ (fun j hj hwj => ?_)).symm
              rw [hset]
              by_cases hji : j = i
              · subst hji; rw [hws] at hwj; exact absurd hwj hw
              · rw [if_neg hji]
      have hwant := r.guard.wanted (M := Mut MX hpD ρ) (w := w) (ρ := ρ) (hp := hpD) (a := a) (fun g w' oj d hg hj hd => tmOk d (looks_guard hg (by simpa using hj) hd))
      unfold wpOp
      simp only [ho]
      rw [show Region.wanted o (yielded ops a.tmps) = bs i from by simpa using hwant]
      rcases r.run with ⟨hb, b', hrun⟩ | ⟨hb, hx, hh, hr0, hw0⟩
      · rw [if_pos hb]
        left
        obtain ⟨dr, dw, e1, e2, e3, e4⟩ := go_local _ hrun
        rw [List.append_nil] at e1 e2
        subst e1 e2
        obtain ⟨hp2, f1, f2, f3⟩ := e4 hpD [] [] touched
        let tmU : Nat → AV := fun t => if t ∈ o.looksAt ops then tms i t else lastT (T 0) (dstAt ops) xs (fun i => listed.getD i false) ops.size t
        have htm : ∀ t, R (Mut MX hpD ρ) w ρ hpD (tmU t) (a.tmps.getD t undef) := by
          intro t
          by_cases ht : t ∈ o.looksAt ops
          · simp only [tmU, if_pos ht]; exact tmOk t ht
          · simp only [tmU, if_neg ht]; exact D.tm t
        have hcong : effOf P E k o tmU = effOf P E k o (tms i) := effOf_congr fun t ht => by simp only [tmU, if_pos (looks_operand (ops := ops) ht)]
        rw [← hcong] at f1
        refine effOf_sound hE D.rel htm f1 _ Q ?_
        intro x b2 hp' rs' ws' v w' ρ' h1 h2 h3
        simp only [Option.some.injEq, Prod.mk.injEq] at h1
        obtain ⟨rfl, rfl, rfl, _, _⟩ := h1
        exact after v w' ρ' _ h2 h3 f2 f3
      · rw [if_neg (by rw [hb]; simp)]
        subst hw0
        exact after undef w ρ hpD (Step.refl D.rel) (by rw [hx]; exact rfl) (fun h hh => by cases hh) (fun _ _ => rfl)

theorem region_draw_sound (hm : P.follows .mixedOrders = true) (hE : EnvOk P E) {id : Nat} {ops : Array Oper} (hB : Region.lexB .any ops = true) {Q : Exit → Act → World → Prop} {K : St → Option Rt} {r : Rt}
    (hQ : ∀ st a w ρ, K st = some r → Sim n MX w0 ρ0 H0 st a w ρ → Q .normal a w) {st : St} {a : Act} {w : World} {ρ : Nat → Value} (hs : Sim n MX w0 ρ0 H0 st a w ρ)
    (hk : runD P E k n ops.toList ops.toList 0 st [] (fun st' F => match footOk ops.toList F with | true => K { st' with nx := st.nx + 16 * ops.toList.length } | false => none) = some r) : (Code.region id ops true).wp P Q a w := by
  refine wp_region_any hm ?_
  obtain ⟨tm0, hp0, nx⟩ := st
  obtain ⟨T, hss, bs, tms, xs, F, e1, e2, _, _, e5, e6⟩ := runD_inv ops.toList (i := 0) (fun j => by rw [Nat.zero_add]) rfl hk
  simp only at e6
  split at e6
  case h_2 => cases e6
  rename_i hfoot
  rw [Nat.zero_add] at e6
  have hlen : ops.toList.length = ops.size := by simp
  rw [hlen] at e6
  have W : Walk P E k n nx ops T hss bs tms xs F := ⟨fun j o ho => e5 j o (Nat.zero_le _) (by simpa using ho), lex_pairs hB, hfoot⟩
  have hd := Step.drew hs.rel
  refine draw_any hE W (nx' := nx + 16 * ops.size) (fun a w ρ hsim => hQ _ a w ρ e6 hsim) ops.size (un := List.range ops.size) List.nodup_range (fun i => ?_) (by simp) (ρ := ρ) (hpD := hp0) ?_
  · rw [List.mem_range]
    by_cases hi : i < ops.size
    · simp [hi, Array.getD_eq_getD_getElem?]
    · simp [hi]
  · have hfalse : ∀ i, (Array.replicate ops.size false).getD i false = false := by
      intro i
      rw [Array.getD_eq_getD_getElem?]
      by_cases hi : i < ops.size
      · simp [hi]
      · simp [hi]
    refine ⟨hd.rel, hs.since.step hd, hs.size, hs.defers, by simp, fun j o hL => (by rw [hfalse] at hL; cases hL), fun t => ?_, fun h => ?_⟩
    · rw [lastT_skip (i := 0) ops.size (Nat.zero_le _) (fun j _ _ h => by rw [hfalse] at h; cases h)]
      unfold lastT
      rw [e1]
      exact hd.R (hs.tm t)
    · rw [lastH_skip (i := 0) ops.size (Nat.zero_le _) (fun j _ _ h => by rw [hfalse] at h; cases h)]
      unfold lastH
      rw [e2]
end
end Go.Proofs.YtommgpkeicpokaaGreatDoor.Abs
