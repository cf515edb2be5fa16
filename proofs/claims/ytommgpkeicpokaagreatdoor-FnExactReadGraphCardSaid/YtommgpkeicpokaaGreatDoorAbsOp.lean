/- One operation. -/
import Derived.Test.YtommgpkeicpokaaGreatDoorAbsCall
namespace Go.Proofs.YtommgpkeicpokaaGreatDoor.Abs
open Go Go.RowKit
set_option linter.unusedVariables false
set_option linter.unusedSectionVars false
set_option linter.unusedSimpArgs false

def Callable (P : Program) (f : FuncId) : Prop :=
  (match P.funcs[f]? with
  | some fn => !(fn.name == "runtime.NumGoroutine") && fn.body.isSome
  | none => false) = true

def EnvOk (P : Program) : Env → Prop
  | [] => True
  | e :: r => (Sound P e.1.1 e.2 ∧ Callable P e.1.1) ∧ EnvOk P r

theorem sameIds_eq : {a b : List Nat} → sameIds a b = true → a = b
  | [], [], _ => rfl
  | [], _ :: _, h => by cases h
  | _ :: _, [], h => by cases h
  | x :: a, y :: b, h => by
    simp only [sameIds, Bool.and_eq_true] at h
    rw [Nat.eq_of_beq_eq_true h.1, sameIds_eq h.2]

theorem look_ok {P : Program} {f : FuncId} {fs : List FuncId} {s : Spec} : {E : Env} → EnvOk P E → look f fs E = some s → Sound P f s ∧ Callable P f
  | [], _, h => by cases h
  | ((g, gs), s') :: r, hE, h => by
    unfold look at h
    split at h
    · rename_i hb
      simp only [Bool.and_eq_true] at hb
      have hg := Nat.eq_of_beq_eq_true hb.1
      subst hg
      injection h with h
      subst h
      exact hE.1
    · exact look_ok hE.2 h

section
variable {Rt : Type} {P : Program} {MX : Nat → Prop} {w : World} {ρ : Nat → Value} {hp : Heap} {b : Nat} {rs ws : List Nat} {K : AV → Nat → Heap → List Nat → List Nat → Option Rt} {r : Rt}

theorem PI_nil (MX : Nat → Prop) (w : World) (ρ d : Nat → Value) (hp : Heap) : PI MX w ρ d hp ⟨[], [], []⟩ :=
  ⟨rfl, fun k h hk => (by simp at hk), fun k h hk => (by simp at hk), fun k k' i off off' h => (by simp at h), fun k i off h => (by simp at h), fun i hi => (by cases hi), fun k i off h => (by simp at h), fun k i off h h1 => (by simp at h1)⟩

theorem closeL_sound {α Rt : Type} {K : α → Nat → Heap → List Nat → List Nat → Option Rt} {r : Rt} : (n : Nat) → {is : List Nat} → {k : Eff α} → {b : Nat} → {hp : Heap} → {rs ws : List Nat} → {ρ : Nat → Value} → HRel MX w ρ hp → (closeL n is k).go b hp rs ws K = some r →
    ∃ hp' ρ' rs' ws', k.go b hp' rs' ws' K = some r ∧ Step MX w ρ hp w ρ' hp'
  | 0, is, k, b, hp, rs, ws, ρ, H, hk => by
    cases is <;> exact ⟨hp, ρ, rs, ws, hk, Step.refl H⟩
  | n + 1, [], k, b, hp, rs, ws, ρ, H, hk => ⟨hp, ρ, rs, ws, hk, Step.refl H⟩
  | n + 1, i :: is, k, b, hp, rs, ws, ρ, H, hk => by
    simp only [closeL, Eff.go] at hk
    split at hk
    · rename_i o fr e be t l j q hi
      simp only [Eff.go] at hk
      have hok := H.ok i
      rw [hi] at hok
      obtain ⟨v0, ss, us, xs, ht⟩ := hok
      split at hk
      · rename_i be' b0 m hq
        split at hk
        case h_2 => cases hk
        rename_i hb0 hbe _ hqi
        have hbe := Nat.eq_of_beq_eq_true hbe
        subst hbe hb0
        simp only [Eff.go] at hk
        have hst := Step.putBack H hi ht hq
        obtain ⟨hp', ρ', rs', ws', hK, hs⟩ := closeL_sound n hst.rel hk
        exact ⟨hp', ρ', rs', ws', hK, hst.trans hs⟩
      · simp only [Eff.go] at hk
        have hst := Step.forget H hi ht
        obtain ⟨hp', ρ', rs', ws', hK, hs⟩ := closeL_sound n hst.rel hk
        exact ⟨hp', ρ', rs', ws', hK, hst.trans hs⟩
      · exact closeL_sound n H hk
    · exact closeL_sound n H hk
    · exact closeL_sound n H hk

theorem callE_sound (H : HRel MX w ρ hp) {s : Spec} {fuel : Nat} {f : FuncId} (hs : Sound P f s) {args : List AV} {vals : List Value} (ha : Rs (Mut MX hp ρ) w ρ hp args vals) (hk : (callE s fuel args).go b hp rs ws K = some r) :
    Calls P f vals.toArray w fun e w' => ∃ v, e = .returned v ∧ ∃ x b' hp' rs' ws' ρ', K x b' hp' rs' ws' = some r ∧ Step MX w ρ hp w' ρ' hp' ∧ R (Mut MX hp' ρ') w' ρ' hp' x v := by
  unfold callE at hk
  obtain ⟨hp1, ρ1, rs1, ws1, hk, hs1⟩ := closeL_sound 24 H hk
  have ha := hs1.Rs ha
  have H1 := hs1.rel
  obtain ⟨avs, ps, rs', hK, hi, _, hr⟩ := pks_sound (n0 := 0) H1 (d := nilD) (fun _ _ => rfl) s.args (PI_nil MX w ρ1 nilD hp1) (Nat.zero_le _) ha hk
  split at hK
  case h_1 => cases hK
  rename_i hfull
  split at hK
  case h_1 => cases hK
  rename_i c hc
  simp only [Eff.go] at hK
  cases hx : c.o with
  | none => rw [hx] at hK; cases hK
  | some x =>
    rw [hx] at hK
    refine (hs fuel avs ps.H c x hc hx _ w _ vals (start_of H1 hi hr)).mono ?_
    rintro e w' ⟨v, ρ', rfl, hl⟩
    obtain ⟨x2, b2, hp2, rs2, ws2, ρ2, h1, h2, h3⟩ := backE_sound H1 hi hfull hl hK
    exact ⟨v, rfl, x2, b2, hp2, rs2, ws2, ρ2, h1, hs1.trans h2, h3⟩

theorem ev_sound {M : Nat → Prop} {tm : Nat → AV} {a : Act} (ht : ∀ t, R M w ρ hp (tm t) (a.tmps.getD t undef)) (x : Operand) : R M w ρ hp (ev tm x) (a.eval x) := by
  cases x with
  | tmp t => exact ht t
  | const v => rfl
  | global g => rfl
  | func f => exact ⟨[], rfl, rfl⟩

theorem evs_sound {M : Nat → Prop} {tm : Nat → AV} {a : Act} (ht : ∀ t, R M w ρ hp (tm t) (a.tmps.getD t undef)) : (xs : List Operand) → Rs M w ρ hp (xs.map (ev tm)) (xs.map a.eval)
  | [] => rfl
  | x :: xs => ⟨_, _, rfl, ev_sound ht x, evs_sound ht xs⟩

theorem evps_sound {M : Nat → Prop} {tm : Nat → AV} {a : Act} (ht : ∀ t, R M w ρ hp (tm t) (a.tmps.getD t undef)) : (xs : List (Nat × Operand)) → PartsR M w ρ hp (xs.map fun p => (p.1, ev tm p.2)) (xs.map fun p => (p.1, a.eval p.2))
  | [] => rfl
  | x :: xs => ⟨_, _, rfl, ev_sound ht x.2, evps_sound ht xs⟩

/-- What an operation of the machine comes to. -/
def Does (P : Program) (MX : Nat → Prop) (w : World) (ρ : Nat → Value) (hp : Heap) (K : AV → Nat → Heap → List Nat → List Nat → Option Rt) (r : Rt) (o : Oper) (a : Act) : Prop :=
  ∀ (next : Act → World → Prop) (Q : Exit → Act → World → Prop), (∀ x b' hp' rs' ws' v w' ρ', K x b' hp' rs' ws' = some r → Step MX w ρ hp w' ρ' hp' → R (Mut MX hp' ρ') w' ρ' hp' x v → next (a.put o.dst v) w') →
    o.upon P a next Q ((execOp a.eval o).run P w)

theorem Does.value {o : Oper} {a : Act} (h : ∃ x b' hp' rs' ws' v w' ρ', K x b' hp' rs' ws' = some r ∧ (execOp a.eval o).run P w = .ok (.value v) w' ∧ Step MX w ρ hp w' ρ' hp' ∧ R (Mut MX hp' ρ') w' ρ' hp' x v) : Does P MX w ρ hp K r o a := by
  obtain ⟨x, b', hp', rs', ws', v, w', ρ', h1, h2, h3, h4⟩ := h
  intro next Q hn
  rw [h2, Oper.upon_value]
  exact hn _ _ _ _ _ _ _ _ h1 h3 h4

/-- .. memory stays as it is. -/
theorem Does.still (H : HRel MX w ρ hp) {o : Oper} {a : Act} (h : ∃ x v rs', K x b hp rs' ws = some r ∧ (execOp a.eval o).run P w = .ok (.value v) w ∧ R (Mut MX hp ρ) w ρ hp x v) : Does P MX w ρ hp K r o a := by
  obtain ⟨x, v, rs', h1, h2, h3⟩ := h
  exact Does.value ⟨x, b, hp, rs', ws, v, w, ρ, h1, h2, Step.refl H, h3⟩

theorem Does.calls {o : Oper} {a : Act} {f : FuncId} {vals : Array Value} (hrun : (execOp a.eval o).run P w = .ok (.enter f vals) w)
    (h : Calls P f vals w fun e w' => ∃ v, e = .returned v ∧ ∃ x b' hp' rs' ws' ρ', K x b' hp' rs' ws' = some r ∧ Step MX w ρ hp w' ρ' hp' ∧ R (Mut MX hp' ρ') w' ρ' hp' x v) : Does P MX w ρ hp K r o a := by
  intro next Q hn
  rw [hrun, Oper.upon_enter]
  refine h.mono ?_
  rintro e w' ⟨v, rfl, x, b', hp', rs', ws', ρ', h1, h2, h3⟩
  exact hn _ _ _ _ _ _ _ _ h1 h2 h3

theorem run_v {o : Oper} {ρ' : Operand → Value} {s : Sem Value} {v : Value} {w' : World} (h : execOp ρ' o = (do pure (.value (← s)))) (hs : s.run P w = .ok v w') : (execOp ρ' o).run P w = .ok (.value v) w' := by
  rw [h]
  simp [hs]

theorem calleeE_sound {E : Env} (hE : EnvOk P E) {fuel : Nat} (H : HRel MX w ρ hp) {o : Oper} {c : Go.Call} (ho : o.op = .call c) {tm : Nat → AV} {a : Act} (ht : ∀ t, R (Mut MX hp ρ) w ρ hp (tm t) (a.tmps.getD t undef))
    (hk : (calleeE P E fuel c tm).go b hp rs ws K = some r) : Does P MX w ρ hp K r o a := by
  have hargs := evs_sound ht c.args.toList
  have hmap : c.args.map a.eval = (c.args.toList.map a.eval).toArray := by apply Array.ext'; simp
  unfold calleeE at hk
  simp only at hk
  split at hk
  · rename_i f hf
    have hfe := ev_sound ht f
    split at hk
    case h_2 => cases hk
    rename_i g n caps hg
    rw [hg] at hfe
    obtain ⟨vs, hv, hvs⟩ := hfe
    unfold enterE at hk
    split at hk
    case h_2 => cases hk
    rename_i s hs
    obtain ⟨hsnd, hcall⟩ := look_ok hE hs
    refine Does.calls (f := g) (vals := (vs.take n ++ (c.args.toList.map a.eval ++ vs.drop n)).toArray) ?_ (callE_sound H hsnd (Rs_append (Rs_take hvs n) (Rs_append hargs (Rs_drop hvs n))) hk)
    unfold Callable at hcall
    split at hcall
    case h_2 => cases hcall
    rename_i fn hfn
    simp only [Bool.and_eq_true, Bool.not_eq_true'] at hcall
    have hb : ¬ fn.body = none := by intro hb; rw [hb] at hcall; exact absurd hcall.2 (by simp)
    have hn : ¬ fn.name = "runtime.NumGoroutine" := by simpa using hcall.1
    simp [execOp, ho, resolve, hf, hv, Deferred.ofValue, invoke, callFunc, hfn]
    rw [if_neg hn, if_neg hb, hmap]
    simp
  · rename_i hf
    split at hk
    case h_2 => cases hk
    rename_i x T hx hT
    rw [hx] at hargs
    obtain ⟨vx, q, hvx, hR, hq⟩ := hargs
    cases hq
    obtain ⟨z, v, rs', h1, h2, h3⟩ := lenE_sound (ty := o.type) H hR hk
    refine Does.still H ⟨z, v, rs', h1, ?_, h3⟩
    have hT' : c.argTypes = #[T] := by rw [← Array.toArray_toList (xs := c.argTypes), hT]
    simp only [execOp, ho, resolve, hf, Sem.run_bind, Sem.run_pure, Result.andThen_ok, invoke, builtin, hmap, hvx, hT', h2]
  · rename_i hf
    split at hk
    case h_2 => cases hk
    rename_i s x T T2 hx hT
    rw [hx] at hargs
    obtain ⟨vs, q, hvs, hRs, hq⟩ := hargs
    obtain ⟨vx, q', rfl, hRx, hq'⟩ := hq
    cases hq'
    obtain ⟨z, b', hp', rs', ws', v, w', ρ', h1, h2, h3, h4⟩ := appendXE_sound (ty := o.type) H hRs hRx hk
    refine Does.value ⟨z, b', hp', rs', ws', v, w', ρ', h1, ?_, h3, h4⟩
    have hT' : c.argTypes = #[T, T2] := by rw [← Array.toArray_toList (xs := c.argTypes), hT]
    simp only [execOp, ho, resolve, hf, Sem.run_bind, Sem.run_pure, Result.andThen_ok, invoke, builtin, hmap, hvs, hT', h2]
  · rename_i hf
    split at hk
    case h_2 => cases hk
    rename_i s x T T2 hx hT
    rw [hx] at hargs
    obtain ⟨vs, q, hvs, hRs, hq⟩ := hargs
    obtain ⟨vx, q', rfl, hRx, hq'⟩ := hq
    cases hq'
    obtain ⟨z, b', hp', rs', ws', v, w', ρ', h1, h2, h3, h4⟩ := copyE_sound (T2 := T2) (ty := o.type) H hRs hRx hk
    refine Does.value ⟨z, b', hp', rs', ws', v, w', ρ', h1, ?_, h3, h4⟩
    have hT' : c.argTypes = #[T, T2] := by rw [← Array.toArray_toList (xs := c.argTypes), hT]
    simp only [execOp, ho, resolve, hf, Sem.run_bind, Sem.run_pure, Result.andThen_ok, invoke, builtin, hmap, hvs, hT', h2]
  · rename_i hf
    split at hk
    case h_2 => cases hk
    rename_i x y hx
    rw [hx] at hargs
    obtain ⟨vs, q, hvs, hRs, hq⟩ := hargs
    obtain ⟨vx, q', rfl, hRx, hq'⟩ := hq
    cases hq'
    obtain ⟨z, v, h1, h2, h3⟩ := minE_sound (P := P) (T1 := c.argTypes) (t0 := o.type) hRs hRx hk
    refine Does.still H ⟨z, v, _, h1, ?_, h3⟩
    simp only at h2
    simp only [execOp, ho, resolve, hf, Sem.run_bind, Sem.run_pure, Result.andThen_ok, invoke, builtin, hmap, hvs, h2]
  · rename_i hf
    split at hk
    case h_2 => cases hk
    rename_i x y hx
    rw [hx] at hargs
    obtain ⟨vs, q, hvs, hRs, hq⟩ := hargs
    obtain ⟨vx, q', rfl, hRx, hq'⟩ := hq
    cases hq'
    obtain ⟨z, v, h1, h2, h3⟩ := minE_sound (P := P) (T1 := c.argTypes) (t0 := o.type) hRs hRx hk
    refine Does.still H ⟨z, v, _, h1, ?_, h3⟩
    simp only at h2
    simp only [execOp, ho, resolve, hf, Sem.run_bind, Sem.run_pure, Result.andThen_ok, invoke, builtin, hmap, hvs, h2]
  · cases hk

theorem part_run {T : TypeId} {t : Bool} {n off : Nat} {us : List Value} (ha : isAgg P T = some t) (hs : sizeAt P T = some n) :
    (Go.part T us.toArray off).run P w = (match t with | true => .ok (.agg (us.toArray.extract off (off + n))) w | false => match us[off]? with | some v => .ok v w | none => .halt (.stuck "part: no such cell") w) := by
  unfold Go.part
  rw [Sem.run_bind, run_isAgg ha]
  cases t with
  | true => simp [run_sizeOf hs]
  | false =>
    simp only [Result.andThen_ok, Bool.false_eq_true, if_false]
    simp only [List.getElem?_toArray]
    cases us[off]? <;> rfl

/-- Reading a part out of a value. -/
theorem finPart_sound {M : Nat → Prop} {T : TypeId} {cs : List AV} {us : List Value} {off : Nat} (h : Rs M w ρ hp cs us) (hk : (finLoad P T cs off).go b hp rs ws K = some r) :
    ∃ x v, K x b hp rs ws = some r ∧ (Go.part T us.toArray off).run P w = .ok v w ∧ R M w ρ hp x v := by
  unfold finLoad at hk
  split at hk
  · cases hk
  rename_i n hn
  split at hk
  case h_2 => cases hk
  rename_i hle
  have hle : off + n ≤ cs.length := Nat.le_of_ble_eq_true hle
  have hl := Rs_len h
  have h' := Rs_take (Rs_drop h off) n
  rcases shut_sound h' hk with ⟨ha, hK⟩ | ⟨ha, c, v, e1, e2, hr, hK⟩
  · refine ⟨_, _, hK, part_run ha hn, _, ?_, h'⟩
    congr 1
    apply Array.ext'
    simp [List.take_drop]
  · refine ⟨c, v, hK, ?_, hr⟩
    rw [part_run ha hn]
    have : us[off]? = some v := by
      have : ((us.drop off).take n)[0]? = some v := by rw [e2]; rfl
      rw [List.getElem?_take] at this
      split at this
      · simpa using this
      · cases this
    rw [this]

theorem fieldE_sound {M : Nat → Prop} {S f : Nat} {x : AV} {vx : Value} (hx : R M w ρ hp x vx) (hk : (fieldE P S x f).go b hp rs ws K = some r) :
    ∃ x v, K x b hp rs ws = some r ∧ (Instr.field S vx f).run P w = .ok v w ∧ R M w ρ hp x v := by
  unfold fieldE at hk
  split at hk
  case h_2 => cases hk
  rename_i fs hu
  split at hk
  case h_2 => cases hk
  rename_i fd hf
  split at hk
  · rename_i cs _ hc
    obtain ⟨us, rfl, hus⟩ := hx
    cases hc
    obtain ⟨z, v, h1, h2, h3⟩ := finPart_sound (P := P) hus hk
    exact ⟨z, v, h1, by simp [Instr.field, run_underlying hu, hf, asAgg, h2], h3⟩
  · rename_i cs arr hc
    rw [show vx = _ from hx]
    cases hc
    obtain ⟨z, v, h1, h2, h3⟩ := finPart_sound (P := P) (Rs_vals (M := M) (w := w) (ρ := ρ) (hp := hp) arr.toList) hk
    exact ⟨z, v, h1, by simp at h2; simp [Instr.field, run_underlying hu, hf, asAgg, h2], h3⟩
  · cases hk

theorem sameTmp_eq {a : Act} {x y : Operand} (h : sameTmp x y = true) : a.eval x = a.eval y ∨ ∃ k k' n, a.eval x = .int k n ∧ a.eval y = .int k' n := by
  unfold sameTmp at h
  split at h
  · rw [Nat.eq_of_beq_eq_true h]; exact .inl rfl
  · rename_i k m k' n
    have := of_decide_eq_true h
    subst this
    exact .inr ⟨k, k', m, rfl, rfl⟩
  · cases h

/-- One operation. -/
theorem effOf_sound {E : Env} (hE : EnvOk P E) {fuel : Nat} (H : HRel MX w ρ hp) {o : Oper} {tm : Nat → AV} {a : Act} (ht : ∀ t, R (Mut MX hp ρ) w ρ hp (tm t) (a.tmps.getD t undef))
    (hk : (effOf P E fuel o tm).go b hp rs ws K = some r) : Does P MX w ρ hp K r o a := by
  have hev := ev_sound ht
  unfold effOf at hk
  split at hk
  · rename_i x ho
    exact Does.still H ⟨_, _, _, hk, by simp [execOp, ho], hev x⟩
  · rename_i x ho
    exact Does.still H ⟨_, _, _, hk, by simp [execOp, ho], hev x⟩
  · rename_i c x y ho
    have hc := hev c
    have key : ∀ t : Bool, a.eval c = .bool t → ((∃ z, (t = true → z = ev tm x) ∧ (t = false → z = ev tm y) ∧ K z b hp rs ws = some r) → Does P MX w ρ hp K r o a) := by
      rintro t e ⟨z, h1, h2, h3⟩
      cases t with
      | true => rw [h1 rfl] at h3; exact Does.still H ⟨_, _, _, h3, by simp [execOp, ho, e, asBool], hev x⟩
      | false => rw [h2 rfl] at h3; exact Does.still H ⟨_, _, _, h3, by simp [execOp, ho, e, asBool], hev y⟩
    split at hk
    · rename_i t hct
      rw [hct] at hc
      cases t with
      | true => exact key true hc ⟨_, fun _ => rfl, fun h => (by cases h), hk⟩
      | false => exact key false hc ⟨_, fun h => (by cases h), fun _ => rfl, hk⟩
    · rename_i t hct
      rw [hct] at hc
      simp only [Eff.go] at hk
      split at hk
      · rename_i h; subst h; exact key true hc ⟨_, fun _ => rfl, fun h => (by cases h), hk⟩
      · rename_i h
        have : t = false := by simpa using h
        subst this
        exact key false hc ⟨_, fun h => (by cases h), fun _ => rfl, hk⟩
    · rename_i t hct
      rw [hct] at hc
      simp only [Eff.go] at hk
      split at hk
      · rename_i h; subst h; exact key false hc ⟨_, fun h => (by cases h), fun _ => rfl, hk⟩
      · rename_i h
        have : t = false := by simpa using h
        subst this
        exact key true hc ⟨_, fun _ => rfl, fun h => (by cases h), hk⟩
    · rename_i p d hct
      rw [hct] at hc
      simp only [Eff.go] at hk
      split at hk
      · rename_i h; exact key true (by rw [show a.eval c = _ from hc]; simp [xorB, h]) ⟨_, fun _ => rfl, fun h => (by cases h), hk⟩
      · rename_i h; exact key false (by rw [show a.eval c = _ from hc]; simp [xorB, h]) ⟨_, fun h => (by cases h), fun _ => rfl, hk⟩
    · rename_i p d hct
      rw [hct] at hc
      simp only [Eff.go] at hk
      split at hk
      · rename_i h; exact key false (by rw [show a.eval c = _ from hc]; simp [xorB, h]) ⟨_, fun h => (by cases h), fun _ => rfl, hk⟩
      · rename_i h; exact key true (by rw [show a.eval c = _ from hc]; simp [xorB, h]) ⟨_, fun _ => rfl, fun h => (by cases h), hk⟩
    · cases hk
  · rename_i T ho
    obtain ⟨x, b', hp', rs', ws', v, w', ρ', h1, h2, h3, h4⟩ := allocE_sound H hk
    exact Does.value ⟨x, b', hp', rs', ws', v, w', ρ', h1, run_v (by simp only [execOp, ho]) h2, h3, h4⟩
  · rename_i T x ho
    obtain ⟨x, b', hp', rs', ws', v, w', ρ', h1, h2, h3, h4⟩ := boxE_sound (T := T) H (hev x) hk
    exact Does.value ⟨x, b', hp', rs', ws', v, w', ρ', h1, run_v (by simp only [execOp, ho]) h2, h3, h4⟩
  · rename_i T ps ho
    obtain ⟨x, v, h1, h2, h3⟩ := buildE_sound (P := P) (evps_sound ht ps.toList) hk
    refine Does.still H ⟨x, v, _, h1, run_v (by simp only [execOp, ho]; rfl) ?_, h3⟩
    rw [← h2]
    congr 2
    apply Array.ext'
    simp
  · rename_i T n ps ho
    obtain ⟨x, b', hp', rs', ws', v, w', ρ', h1, h2, h3, h4⟩ := (buildOneE_sound H (evps_sound ht ps.toList) hk).elim (fun ⟨_, hk⟩ => buildSliceE_sound H (evps_sound ht ps.toList) hk) id
    refine Does.value ⟨x, b', hp', rs', ws', v, w', ρ', h1, run_v (by simp only [execOp, ho]; rfl) ?_, h3, h4⟩
    rw [← h2]
    congr 2
    apply Array.ext'
    simp
  · rename_i T x ho
    obtain ⟨x, b', hp', rs', ws', v, ρ', h1, h2, h3, h4⟩ := loadE_sound H (hev x) hk
    exact Does.value ⟨x, b', hp', rs', ws', v, w, ρ', h1, run_v (by simp only [execOp, ho]) h2, h3, h4⟩
  · rename_i T x y ho
    obtain ⟨b', hp', rs', ws', w', ρ', h1, h2, h3⟩ := storeE_sound H (hev x) (hev y) hk
    intro next Q hn
    have hrun : (execOp a.eval o).run P w = .ok .skip w' := by simp only [execOp, ho, Sem.run_bind, h2, Result.andThen_ok, Sem.run_pure]
    rw [hrun, Oper.upon_skip]
    exact hn _ _ _ _ _ _ _ _ h1 h3 rfl
  · rename_i x ho
    have hx := hev x
    split at hk
    · rename_i i off hxe
      rw [hxe] at hx
      have hx' := hx
      obtain ⟨_, g, o', _, he⟩ := hx'
      exact Does.still H ⟨_, _, _, hk, by simp only [execOp, ho, he]; rfl, by rw [← he]; exact hx⟩
    · rename_i t y off hxe
      rw [hxe] at hx
      have hx' := hx
      obtain ⟨g, o', cs, he, _⟩ := hx'
      exact Does.still H ⟨_, _, _, hk, by simp only [execOp, ho, he]; rfl, by rw [← he]; exact hx⟩
    · rename_i i sz j off hxe
      rw [hxe] at hx
      have hx' := hx
      obtain ⟨_, g, n, c, _, _, he⟩ := hx'
      exact Does.still H ⟨_, _, _, hk, by simp only [execOp, ho, he]; rfl, by rw [← he]; exact hx⟩
    · rename_i f n cs hxe
      rw [hxe] at hx
      have hx' := hx
      obtain ⟨vs, he, _⟩ := hx'
      exact Does.still H ⟨_, _, _, hk, by simp only [execOp, ho, he]; rfl, by rw [← he]; exact hx⟩
    · cases hk
  · rename_i op T x y U ho
    split at hk
    · obtain ⟨z, v, h1, h2, h3⟩ := ifcE_sound (P := P) (hev x) hk
      exact Does.still H ⟨z, v, _, h1, run_v (by simp only [execOp, ho]; rfl) (h2 x), h3⟩
    · obtain ⟨z, v, h1, h2, h3⟩ := binE_sound (P := P) (hev x) (hev y) hk
      exact Does.still H ⟨z, v, _, h1, run_v (by simp only [execOp, ho]) (h2 x y), h3⟩
  · rename_i op T x ho
    obtain ⟨z, v, h1, h2, h3⟩ := unE_sound (P := P) (hev x) hk
    exact Does.still H ⟨z, v, _, h1, run_v (by simp only [execOp, ho]) h2, h3⟩
  · rename_i S T x ho
    obtain ⟨z, b', hp', rs', ws', v, w', ρ', h1, h2, h3, h4⟩ := conv2E_sound H (hev x) hk
    exact Does.value ⟨z, b', hp', rs', ws', v, w', ρ', h1, run_v (by simp only [execOp, ho]) h2, h3, h4⟩
  · rename_i T ho
    obtain ⟨z, b', hp', rs', ws', v, w', ρ', h1, h2, h3, h4⟩ := makeMapE_sound H hk
    exact Does.value ⟨z, b', hp', rs', ws', v, w', ρ', h1, run_v (s := Instr.makeMap T none) (by simp only [execOp, ho]; rfl) h2, h3, h4⟩
  · rename_i T m k x ho
    obtain ⟨b', hp', rs', ws', w', ρ', h1, h2, h3⟩ := mapPutE_sound H (hev m) (hev k) (hev x) hk
    intro next Q hn
    have hrun : (execOp a.eval o).run P w = .ok .skip w' := by simp only [execOp, ho, Sem.run_bind, h2, Result.andThen_ok, Sem.run_pure]
    rw [hrun, Oper.upon_skip]
    exact hn _ _ _ _ _ _ _ _ h1 h3 rfl
  · rename_i T m k x ho
    obtain ⟨b', hp', rs', ws', w', ρ', h1, h2, h3⟩ := mapPutE_sound H (hev m) (hev k) (hev x) hk
    intro next Q hn
    have hrun : (execOp a.eval o).run P w = .ok .skip w' := by simp only [execOp, ho, Sem.run_bind, h2, Result.andThen_ok, Sem.run_pure]
    rw [hrun, Oper.upon_skip]
    exact hn _ _ _ _ _ _ _ _ h1 h3 rfl
  · rename_i T m k ho
    obtain ⟨z, v, rs', h1, h2, h3⟩ := lookupE_sound H (hev m) (hev k) hk
    exact Does.still H ⟨z, v, rs', h1, run_v (by simp only [execOp, ho]) h2, h3⟩
  · rename_i f first cap ho
    refine Does.still H ⟨_, .func (.func f) (first.map a.eval) (cap.map a.eval), _, hk, run_v (s := Instr.makeFunc (.func f) (first.map a.eval) (cap.map a.eval)) (by simp only [execOp, ho]) rfl, (first.toList ++ cap.toList).map a.eval, ?_, evs_sound ht _⟩
    have e1 : ((first.toList ++ cap.toList).map a.eval).take first.toList.length = first.toList.map a.eval := by rw [List.map_append, ← List.length_map (f := a.eval), List.take_left]
    have e2 : ((first.toList ++ cap.toList).map a.eval).drop first.toList.length = cap.toList.map a.eval := by rw [List.map_append, ← List.length_map (f := a.eval), List.drop_left]
    rw [e1, e2]
    congr 1 <;> (apply Array.ext'; simp)
  · rename_i T n c ho
    split at hk
    case h_2 => cases hk
    rename_i hs
    obtain ⟨x, b', hp', rs', ws', v, w', ρ', h1, h2, h3, h4⟩ := makeSliceE_sound H (hev n) hk
    refine Does.value ⟨x, b', hp', rs', ws', v, w', ρ', h1, run_v (s := Instr.makeSlice T (a.eval n) (a.eval c)) (by simp only [execOp, ho]) ?_, h3, h4⟩
    rcases sameTmp_eq (a := a) hs with h | ⟨k, k', m, e1, e2⟩
    · rw [← h]; exact h2
    · rw [e1] at h2
      rw [e1, e2, ← h2]
      simp [Instr.makeSlice, asInt, asIntOf]
  · rename_i T x lo hi ho
    obtain ⟨z, b', hp', rs', ws', v, w', ρ', h1, h2, h3, h4⟩ := sliceE_sound (vlo := lo.map a.eval) (vhi := hi.map a.eval) H (hev x) (fun y hy => by
        cases lo with
        | none => cases hy
        | some l => simp at hy; subst hy; exact ⟨_, rfl, hev l⟩) (fun h => by cases lo <;> simp_all) (fun y hy => by
        cases hi with
        | none => cases hy
        | some l => simp at hy; subst hy; exact ⟨_, rfl, hev l⟩) (fun h => by cases hi <;> simp_all) hk
    exact Does.value ⟨z, b', hp', rs', ws', v, w', ρ', h1, run_v (by simp only [execOp, ho]; rfl) h2, h3, h4⟩
  · rename_i S x f ho
    obtain ⟨z, v, h1, h2, h3⟩ := fieldAddrE_sound (P := P) (hev x) hk
    exact Does.still H ⟨z, v, _, h1, run_v (by simp only [execOp, ho]) h2, h3⟩
  · rename_i S x f ho
    obtain ⟨z, v, h1, h2, h3⟩ := fieldE_sound (P := P) (hev x) hk
    exact Does.still H ⟨z, v, _, h1, run_v (by simp only [execOp, ho]) h2, h3⟩
  · rename_i T x i ho
    obtain ⟨z, v, rs', h1, h2, h3⟩ := indexAddrE_sound H (hev x) (hev i) hk
    exact Does.still H ⟨z, v, rs', h1, run_v (by simp only [execOp, ho]) h2, h3⟩
  · rename_i T x i ho
    obtain ⟨z, v, h1, h2, h3⟩ := indexE_sound (P := P) (hev x) (hev i) hk
    exact Does.still H ⟨z, v, _, h1, run_v (by simp only [execOp, ho]) h2, h3⟩
  · rename_i x i ho
    have hx := hev x
    split at hk
    case h_2 => cases hk
    rename_i cs hxe
    rw [hxe] at hx
    obtain ⟨vs, he, hvs⟩ := hx
    split at hk
    case h_2 => cases hk
    rename_i c hc
    obtain ⟨v, hv, hR⟩ := Rs_get hvs i c hc
    exact Does.still H ⟨c, v, _, hk, run_v (s := Instr.extract (a.eval x) i) (by simp only [execOp, ho]) (by rw [he]; simp [Instr.extract, hv]), hR⟩
  · rename_i c ho
    exact calleeE_sound hE H ho ht hk
  · cases hk
end
end Go.Proofs.YtommgpkeicpokaaGreatDoor.Abs
