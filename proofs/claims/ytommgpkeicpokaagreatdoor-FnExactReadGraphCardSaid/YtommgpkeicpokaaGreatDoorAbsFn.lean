/- A function is sound. -/
import Derived.Test.YtommgpkeicpokaaGreatDoorAbsCode
namespace Go.Proofs.YtommgpkeicpokaaGreatDoor.Abs
open Go Go.RowKit
set_option linter.unusedVariables false
set_option linter.unusedSectionVars false
set_option linter.unusedSimpArgs false

section
variable {X : Type} {P : Program} {E : Env} {k : Nat} {f : FnA X} {G : Nat → List AV → List HE → Option X} {body : Code} {fn : Func} {b : Frame}
  {MX : Nat → Prop} {w0 : World} {ρ0 : Nat → Value} {H0 : List HE}

/-- What the function leaves. -/
def Post (f : FnA X) (MX : Nat → Prop) (w0 : World) (ρ0 : Nat → Value) (H0 : List HE) (x : X) (e : Ending) (w' : World) : Prop :=
  ∃ v r H' ρ', e = .returned v ∧ f.fin r H' = some x ∧ Left MX w0 ρ0 H0 r H' v w' ρ'

/-- The kinds of the entries at a point fit. -/
def ptsOk (f : FnA X) : Prop := ∀ q pt, ptAt q f.pts = some pt → pt.rc0.map IC.kind = f.rc0.map IC.kind

theorem ptsOk_of (h : (f.pts.all fun pt => (pt.rc0.map IC.kind) == (f.rc0.map IC.kind)) = true) : ptsOk f := by
  intro q pt hq
  rw [List.all_eq_true] at h
  have : ∀ l : List Pt, ptAt q l = some pt → pt ∈ l := by
    intro l
    induction l with
    | nil => intro h; cases h
    | cons a r ih =>
      intro h
      unfold ptAt at h
      split at h
      · injection h with h; subst h; exact List.mem_cons_self
      · exact List.mem_cons_of_mem _ (ih h)
  exact eq_of_beq (h _ (this _ hq))

theorem held_of {hp : Heap} {w : World} {ρ : Nat → Value} (hs : Since w0 ρ0 H0 w ρ hp) {rcF rc0 : List IC} (hF : shapeOk rcF H0 = true) (hsame : rc0.map IC.kind = rcF.map IC.kind) (hkeep : ∀ (j : Nat), rc0[j]? = some .keep → Kp (hp j)) : ∀ (i : Nat) (o : IC), rc0[i]? = some o → o.held = true → live (hp i) := by
  intro i o hi ho
  cases o with
  | drop => cases ho
  | keep => exact (hkeep i hi).live
  | box rcs =>
    obtain ⟨hl0, hb0, _⟩ := shape_get hF
    have h5 : (rcF.map IC.kind)[i]? = some 2 := by rw [← hsame]; simp [hi, IC.kind]
    simp only [List.getElem?_map] at h5
    cases hq : rcF[i]? with
    | none => rw [hq] at h5; cases h5
    | some o =>
      rw [hq] at h5
      cases o with
      | drop => simp [IC.kind] at h5
      | keep => simp [IC.kind] at h5
      | box rcs' =>
        obtain ⟨cs, h6, _⟩ := hb0 i rcs' hq
        obtain ⟨cs', h7, _⟩ := hs.bx i cs (hpOf_some h6)
        rw [h7]; trivial

theorem start0_H (rc0 : List IC) : (start0 rc0).H.length = rc0.length := by simp [start0]
theorem start0_m (rc0 : List IC) : (start0 rc0).m.length = rc0.length := by simp [start0, startM_len]
theorem start0_at (rc0 : List IC) (j : Nat) (o : IC) (h : rc0[j]? = some o) (ho : o.held = true) : (start0 rc0).m[0 + j]? = some (some (0 + j, 0)) ∧ (start0 rc0).H[0 + j]? = some .gone := by
  constructor
  · simp only [start0, Nat.zero_add]
    rw [startM_get, h]
    simp [ho]
  · simp only [start0, Nat.zero_add, List.getElem?_map, h, Option.map_some]
theorem start0_none (rc0 : List IC) (j : Nat) (h : rc0[j]? = some .drop) : (start0 rc0).H[j]? = some .gone := by
  simp only [start0, List.getElem?_map, h, Option.map_some]

/-- The entries that came in, packed. -/
theorem inE_sound {Rt α : Type} (hF : shapeOk f.rc0 H0 = true) {rc0 : List IC} (hsame : rc0.map IC.kind = f.rc0.map IC.kind) {w : World} {ρ : Nat → Value} {hp : Heap} (H : HRel MX w ρ hp) (hs : Since w0 ρ0 H0 w ρ hp) {bb : Nat} {rs ws : List Nat} {K : α → Nat → Heap → List Nat → List Nat → Option Rt} {r : Rt} {k : PS → Eff α} (hk : (inE rc0 k).go bb hp rs ws K = some r) :
    ∃ s1 rs1, (k s1).go bb hp rs1 ws K = some r ∧ PI MX w ρ (dK ρ H0.length) hp s1 ∧ H0.length ≤ s1.m.length ∧
      ∀ s2, PI MX w ρ (dK ρ H0.length) hp s2 → Ext s1 s2 → Since w0 ρ0 H0 w (rhoS ρ (dK ρ H0.length) s2.m) (hpOf s2.H) := by
  unfold inE at hk
  obtain ⟨rs0, hk, hrows⟩ := needRows_some rc0 hk
  have hl0 := (shape_get hF).1
  have hlen : rc0.length = f.rc0.length := by
    have : (rc0.map IC.kind).length = (f.rc0.map IC.kind).length := by rw [hsame]
    simpa using this
  have hd : ∀ j, H0.length ≤ j → dK ρ H0.length j = .slice none 0 0 := fun j hj => if_neg (by omega)
  obtain ⟨s1, rs1, hk1, p1, p2, p3, p4, p5, p6, p7, p8⟩ := packIn_sound (n0 := H0.length) H hd rc0 (PI_start rc0 (held_of hs hF hsame (fun j hj => by have := hrows j hj; rwa [Nat.zero_add] at this))) (by rw [start0_m]; omega) (by rw [start0_H]; omega) (start0_at rc0) hk
  refine ⟨s1, rs1, hk1, p1, p2, fun s2 i1 i2 => ?_⟩
  exact since_packed (rc0 := rc0) (d := dK ρ H0.length) H hs hF hsame (fun k hk => if_pos hk) i1 (by
    obtain ⟨q1, e1⟩ := p3
    obtain ⟨q2, e2⟩ := i2.m
    exact ⟨q1 ++ q2, by rw [e2, e1, List.append_assoc]; rfl⟩) (fun j rcs hj => by
      obtain ⟨cs, cs', a1, a2, a3, a4⟩ := p6 j rcs hj
      rw [Nat.zero_add] at a1 a3
      exact ⟨cs, cs', a1, a2, by rw [i2.H j (lt_of_get a3)]; exact a3, a4⟩) (fun j hj => by
      have a3 := p7 j hj
      rw [Nat.zero_add, start0_none _ _ hj] at a3
      rw [i2.H j (lt_of_get a3)]; exact a3) (fun j hj => by
      obtain ⟨a1, a3⟩ := p8 j hj
      rw [Nat.zero_add] at a1 a3
      exact ⟨a1, by rw [i2.H j (lt_of_get a3)]; exact a3⟩)

/-- A result as it is read. -/
def rvOf (tmps : Array Value) : ResultVar → Sem Value
  | .tmp t => pure (tmps.getD t undef)
  | .cell a t => do loadVar t (← asAddr (tmps.getD a undef))
/-- One value, or a tuple. -/
def oneV : List Value → Value
  | [v] => v
  | vs => .tuple vs.toArray

theorem resVals_sound {Rt α : Type} {w : World} {ρ : Nat → Value} {hp : Heap} (H : HRel MX w ρ hp) {tm : Nat → AV} {tmps : Array Value} (ht : ∀ t, R (Mut MX hp ρ) w ρ hp (tm t) (tmps.getD t undef)) {b : Nat} {ws : List Nat} {K : α → Nat → Heap → List Nat → List Nat → Option Rt} {r : Rt} :
    (l : List ResultVar) → {rs : List Nat} → {k : List AV → Eff α} → (resVals P tm l k).go b hp rs ws K = some r →
    ∃ xs vs rs', (k xs).go b hp rs' ws K = some r ∧ Rs (Mut MX hp ρ) w ρ hp xs vs ∧ (l.mapM (rvOf tmps)).run P w = .ok vs w
  | [], rs, k, hk => ⟨[], [], rs, hk, rfl, by simp⟩
  | .tmp t :: l, rs, k, hk => by
    unfold resVals at hk
    obtain ⟨xs, vs, rs', h1, h2, h3⟩ := resVals_sound H ht l hk
    refine ⟨tm t :: xs, tmps.getD t undef :: vs, rs', h1, ⟨_, _, rfl, ht t, h2⟩, ?_⟩
    rw [List.mapM_cons]
    simp only [rvOf, Sem.run_bind, Sem.run_pure, Result.andThen_ok, h3]
  | .cell a T :: l, rs, k, hk => by
    unfold resVals bind2 at hk
    have hbind : ∀ {β γ : Type} (e : Eff β) (g : β → Eff γ) {b : Nat} {hp : Heap} {rs ws : List Nat} {K : γ → Nat → Heap → List Nat → List Nat → Option Rt}, (e.bind g).go b hp rs ws K = e.go b hp rs ws (fun x b hp rs ws => (g x).go b hp rs ws K) := by
      intro β γ e g
      induction e with
      | ret a => intros; rfl
      | fail => intros; rfl
      | rd i k ih => intros; exact ih _
      | wr i h k ih => intros; exact ih
      | rdS i k ih => intros; exact ih _
      | wrS i c k ih => intros; exact ih
      | nw h k ih =>
        intro b hp rs ws K
        simp only [Eff.bind, Eff.go]
        split
        · exact ih _
        · rfl
      | br c d t e iht ihe => intros; simp only [Eff.bind, Eff.go]; rw [iht, ihe]
      | gd c d e ih => intros; simp only [Eff.bind, Eff.go]; split <;> first | exact ih | rfl
      | opt X o k ih => intros; simp only [Eff.bind, Eff.go]; congr 1; funext x; exact ih x
    rw [hbind] at hk
    obtain ⟨x, v, rs1, h1, h2, h3⟩ := loadB_sound (P := P) H (ht a) hk
    obtain ⟨xs, vs, rs', g1, g2, g3⟩ := resVals_sound H ht l h1
    refine ⟨x :: xs, v :: vs, rs', g1, ⟨_, _, rfl, h3, g2⟩, ?_⟩
    rw [List.mapM_cons]
    have hload : (do loadVar T (← asAddr (tmps.getD a undef)) : Sem Value).run P w = .ok v w := by
      cases hv : tmps.getD a undef with
      | pointer p =>
        cases p with
        | none => rw [hv] at h2; simp [Instr.loadAt, Instr.sureAddr] at h2
        | some ad => rw [hv] at h2; simpa [Instr.loadAt, Instr.sureAddr, asAddr] using h2
      | _ => rw [hv] at h2; simp [Instr.loadAt, Instr.sureAddr] at h2
    rw [Sem.run_bind, show (rvOf tmps (.cell a T)).run P w = .ok v w from hload]
    simp only [Result.andThen_ok, Sem.run_bind, g3, Sem.run_pure]

theorem run_results {fn : Func} {tmps : Array Value} {vs : List Value} {w : World} (h : (fn.results.toList.mapM (rvOf tmps)).run P w = .ok vs w) :
    (results fn tmps).run P w = .ok (oneV vs) w := by
  have e : results fn tmps = (do
      let vs ← fn.results.mapM (rvOf tmps)
      pure (if h : vs.size = 1 then vs[0] else .tuple vs)) := by
    unfold results
    congr 1
  rw [e, Sem.run_bind, Array.mapM_eq_mapM_toList, Sem.run_map, h]
  simp only [Result.andThen_ok]
  match vs with
  | [] => rfl
  | [v] => rfl
  | _ :: _ :: _ => rfl

/-- The end. -/
theorem finish_sound (hfn : fn.results.toList = f.res) (hF : shapeOk f.rc0 H0 = true) {st : St} {a : Act} {w : World} {ρ : Nat → Value} (hs : Sim f.n MX w0 ρ0 H0 st a w ρ) {x : X}
    (hk : (finishE P f st.tm).go st.nx st.hp [] [] (fun x _ _ _ _ => f.fin x.1 x.2) = some x) : ∃ v, (results fn a.tmps).run P w = .ok v w ∧ Post f MX w0 ρ0 H0 x (.returned v) w := by
  unfold finishE at hk
  obtain ⟨hp1, ρ1, rs0, ws0, hk, hst0⟩ := closeL_sound 24 hs.rel hk
  have hs1 : Sim f.n MX w0 ρ0 H0 ⟨st.tm, hp1, st.nx⟩ a w ρ1 := ⟨hst0.rel, fun t => hst0.R (hs.tm t), hs.size, hs.defers, hs.since.step hst0⟩
  have hd : ∀ j, H0.length ≤ j → dK ρ1 H0.length j = .slice none 0 0 := fun j hj => if_neg (by omega)
  obtain ⟨s1, rs1, hk1, p1, p2, p3⟩ := inE_sound hF rfl hs1.rel hs1.since hk
  obtain ⟨xs, vs, rs2, hk2, hxs, hrun⟩ := resVals_sound (P := P) hs1.rel hs1.tm f.res hk1
  have hone : R (Mut MX hp1 ρ1) w ρ1 hp1 (one1 xs) (oneV vs) := by
    match xs, hxs with
    | [], h => cases h; exact ⟨[], rfl, rfl⟩
    | [x], h => obtain ⟨v, q, e1, h, hq⟩ := h; cases hq; subst e1; exact h
    | x :: y :: xs, h =>
      obtain ⟨v, q, e1, h, u, q', e2, h', hq⟩ := h
      subst e1 e2
      exact ⟨_, rfl, v, _, rfl, h, u, _, rfl, h', hq⟩
  obtain ⟨x', s2, rs3, hk3, i1, i2, i3⟩ := pk_sound hs1.rel hd f.rc p1 p2 hone hk2
  simp only [Eff.go] at hk3
  refine ⟨_, run_results (by rw [hfn]; exact hrun), _, x', s2.H, rhoS ρ1 (dK ρ1 H0.length) s2.m, rfl, hk3, ?_⟩
  obtain ⟨g1, g2, g3⟩ := packed hs1.rel i1
  have hsince := p3 s2 i1 i2
  exact ⟨g1, R_step (D := fun _ => False) (Off.refl _ _) (fun _ _ h => h.elim) g2 (fun i hi => ⟨Old.refl _, hi⟩) _ i3, hsince.keep, hsince.off, hsince.nwl, hsince.bx⟩

theorem tmOf_rel {M : Nat → Prop} {w : World} {ρ : Nat → Value} {hp : Heap} {tmps : Array Value} : {live : List Nat} → {avs : List AV} → Rs M w ρ hp avs (live.map fun t => tmps.getD t undef) → ∀ t, R M w ρ hp (tmOf live avs t) (tmps.getD t undef)
  | [], [], _, t => trivial
  | [], _ :: _, h, t => by obtain ⟨v, q, e, _⟩ := h; cases e
  | _ :: _, [], h, t => by cases h
  | l :: live, x :: avs, h, t => by
    obtain ⟨v, q, e, h0, h1⟩ := h
    rw [List.map_cons] at e
    injection e with e1 e2
    subst e1 e2
    show R M w ρ hp (upd (tmOf live avs) l x t) _
    by_cases htl : t = l
    · subst htl; rw [upd_same]; exact h0
    · rw [upd_ne _ _ htl]; exact tmOf_rel h1 t

theorem Rs_live {M : Nat → Prop} {w : World} {ρ : Nat → Value} {hp : Heap} {tm : Nat → AV} {tmps : Array Value} (ht : ∀ t, R M w ρ hp (tm t) (tmps.getD t undef)) : (l : List Nat) → Rs M w ρ hp (l.map tm) (l.map fun t => tmps.getD t undef)
  | [] => rfl
  | t :: l => ⟨_, _, rfl, ht t, Rs_live ht l⟩

/-- To a point. -/
theorem jump_sound (hF : shapeOk f.rc0 H0 = true) {pt : Pt} (hsame : pt.rc0.map IC.kind = f.rc0.map IC.kind) {st : St} {a : Act} {w : World} {ρ : Nat → Value} (hs : Sim f.n MX w0 ρ0 H0 st a w ρ) {Rt : Type} {K : List AV → List HE → Option Rt} {r : Rt}
    (hk : (jumpE pt st.tm).go st.nx st.hp [] [] (fun x _ _ _ _ => K x.1 x.2) = some r) : ∃ avs H ρ', K avs H = some r ∧ Sim f.n MX w0 ρ0 H0 (stOf pt avs H) a w ρ' := by
  unfold jumpE at hk
  obtain ⟨hp1, ρ1, rs0, ws0, hk, hst0⟩ := closeL_sound 24 hs.rel hk
  have hs1 : Sim f.n MX w0 ρ0 H0 ⟨st.tm, hp1, st.nx⟩ a w ρ1 := ⟨hst0.rel, fun t => hst0.R (hs.tm t), hs.size, hs.defers, hs.since.step hst0⟩
  have hd : ∀ j, H0.length ≤ j → dK ρ1 H0.length j = .slice none 0 0 := fun j hj => if_neg (by omega)
  obtain ⟨s1, rs1, hk1, p1, p2, p3⟩ := inE_sound hF hsame hs1.rel hs1.since hk
  obtain ⟨avs, s2, rs2, hk2, i1, i2, i3⟩ := pks_sound hs1.rel hd pt.rcs p1 p2 (Rs_live hs1.tm pt.live) hk1
  simp only [Eff.go] at hk2
  obtain ⟨g1, g2, g3⟩ := packed hs1.rel i1
  have hsince := p3 s2 i1 i2
  refine ⟨avs, s2.H, _, hk2, g1, ?_, hs.size, hs.defers, hsince⟩
  have h5 : Rs (Mut MX (hpOf s2.H) (rhoS ρ1 (dK ρ1 H0.length) s2.m)) w (rhoS ρ1 (dK ρ1 H0.length) s2.m) (hpOf s2.H) avs (pt.live.map fun t => a.tmps.getD t undef) :=
    Rs_step (D := fun _ => False) (Off.refl _ _) (fun _ _ h => h.elim) g2 (fun i hi => ⟨Old.refl _, hi⟩) _ i3
  exact tmOf_rel h5

/-- A point's code as it is entered. -/
def entry : List TI → List TI
  | .code (.loop c) p :: t => .code c (p + 1) :: .inLoop c p :: t
  | t => t

/-- What is told from the points on holds. -/
def GOk (P : Program) (f : FnA X) (G : Nat → List AV → List HE → Option X) (body : Code) (b : Frame) (MX : Nat → Prop) (w0 : World) (ρ0 : Nat → Value) (H0 : List HE) : Prop :=
  ∀ q pt avs H x, ptAt q f.pts = some pt → G q avs H = some x → ∀ todo, tk body 0 [] q = some todo → Fits body todo → ∀ a w ρ, Sim f.n MX w0 ρ0 H0 (stOf pt avs H) a w ρ → Fine P b ((entry todo).map er) a w (Post f MX w0 ρ0 H0 x)

theorem setOp_rel {M : Nat → Prop} {w : World} {ρ : Nat → Value} {hp : Heap} {tm : Nat → AV} {a : Act} {c : Operand} {x : AV} (ht : ∀ t, R M w ρ hp (tm t) (a.tmps.getD t undef)) (hx : R M w ρ hp x (a.eval c)) : ∀ t, R M w ρ hp (setOp c x tm t) (a.tmps.getD t undef) := by
  cases c with
  | tmp d => exact upd_rel ht hx
  | _ => exact ht

theorem brA_sound {M : Nat → Prop} {w : World} {ρ : Nat → Value} {hp : Heap} {x : AV} {y : Value} {K : Bool → AV → Option X} {r : X} (hx : R M w ρ hp x y) (hk : brA x K = some r) : ∃ t z, K t z = some r ∧ y = .bool t ∧ R M w ρ hp z y := by
  unfold brA at hk
  split at hk
  · rename_i t
    split at hk
    · exact ⟨true, _, hk, hx, hx⟩
    · exact ⟨false, _, hk, hx, hx⟩
  · rename_i t
    split at hk
    · rename_i h; subst h; exact ⟨true, _, hk, hx, hx⟩
    · rename_i h
      have : t = false := by simpa using h
      subst this
      exact ⟨false, _, hk, hx, hx⟩
  · rename_i t
    split at hk
    · rename_i h; subst h; exact ⟨false, _, hk, hx, hx⟩
    · rename_i h
      have : t = false := by simpa using h
      subst this
      exact ⟨true, _, hk, hx, hx⟩
  · rename_i p d
    split at hk
    · rename_i h
      have : y = .bool true := by rw [show y = _ from hx]; simp [xorB, h]
      exact ⟨true, _, hk, this, this⟩
    · rename_i h
      have : y = .bool false := by rw [show y = _ from hx]; simp [xorB, h]
      exact ⟨false, _, hk, this, this⟩
  · rename_i p d
    split at hk
    · rename_i h
      have : y = .bool false := by rw [show y = _ from hx]; simp [xorB, h]
      exact ⟨false, _, hk, this, this⟩
    · rename_i h
      have : y = .bool true := by rw [show y = _ from hx]; simp [xorB, h]
      exact ⟨true, _, hk, this, this⟩
  · cases hk

theorem ends (hfn : fn.results.toList = f.res) (hF : shapeOk f.rc0 H0 = true) (hb : P.funcs[b.fn]? = some fn) (hkind : b.kind = .normal) {st : St} {a : Act} {w : World} {ρ : Nat → Value} (hs : Sim f.n MX w0 ρ0 H0 st a w ρ) {x : X}
    (hk : (finishE P f st.tm).go st.nx st.hp [] [] (fun x _ _ _ _ => f.fin x.1 x.2) = some x) {todo : List Item} (hst : ∀ cs, Steps P (lone (b.at a todo) cs w) (lone { b.at a todo with mode := .returning } cs w)) : Fine P b todo a w (Post f MX w0 ρ0 H0 x) := by
  obtain ⟨v, h1, h2⟩ := finish_sound hfn hF hs hk
  intro cs
  exact ⟨.returned v, w, { b.at a todo with mode := .returning }, h2, hst cs, rfl, rfl, hs.defers, hkind, fn, hb, h1⟩

theorem stepC_sound (hm : P.follows .mixedOrders = true) (hE : EnvOk P E) (hfn : fn.results.toList = f.res) (hF : shapeOk f.rc0 H0 = true) (hb : P.funcs[b.fn]? = some fn) (hkind : b.kind = .normal) {x : X} {rec : List TI → St → Option X}
    (hrec : ∀ todo st a w ρ, rec todo st = some x → Fits body todo → Sim f.n MX w0 ρ0 H0 st a w ρ → Fine P b (todo.map er) a w (Post f MX w0 ρ0 H0 x))
    {c : Code} {p : Nat} {t : List TI} (hfit : Fits body (.code c p :: t)) {st : St} {a : Act} {w : World} {ρ : Nat → Value} (hs : Sim f.n MX w0 ρ0 H0 st a w ρ) (hk : stepC P E k f rec c p t st = some x) :
    Fine P b ((entry (.code c p :: t)).map er) a w (Post f MX w0 ρ0 H0 x) := by
  unfold stepC at hk
  split at hk
  · exact Fine.step (fun cs => .one step_skip) (hrec _ _ _ _ _ hk hfit.2 hs)
  · rename_i x y
    exact Fine.step (fun cs => .one step_seq) (hrec _ _ _ _ _ hk (fits_seq hfit) hs)
  · rename_i c x y
    obtain ⟨t', z, hK, hy, hz⟩ := brA_sound (ev_sound hs.tm c) hk
    have hs' : Sim f.n MX w0 ρ0 H0 { st with tm := setOp c z st.tm } a w ρ := ⟨hs.rel, setOp_rel hs.tm hz, hs.size, hs.defers, hs.since⟩
    cases t' with
    | true => exact Fine.step (fun cs => .one (step_cond hy)) (hrec _ _ _ _ _ hK (fits_cond hfit).1 hs')
    | false => exact Fine.step (fun cs => .one (step_cond hy)) (hrec _ _ _ _ _ hK (fits_cond hfit).2 hs')
  · rename_i id y
    exact Fine.step (fun cs => .one step_block) (hrec _ _ _ _ _ hk (fits_block hfit) hs)
  · rename_i y
    exact hrec _ _ _ _ _ hk (fits_loop hfit) hs
  · rename_i id
    split at hk
    case h_2 => cases hk
    rename_i t' ht'
    obtain ⟨h1, h2⟩ := fits_exit hfit.2 ht'
    exact Fine.step (fun cs => .one (step_exit h2)) (hrec _ _ _ _ _ hk h1 hs)
  · rename_i id ops draw
    split at hk
    · refine Fine.wp ?_
      exact region_sound hE (fun st' a' w' ρ' h1 h2 => ⟨rfl, hrec _ _ _ _ _ h1 hfit.2 h2⟩) hs hk
    · split at hk
      case h_2 => cases hk
      rename_i hB
      refine Fine.wp ?_
      exact region_draw_sound hm hE hB (fun st' a' w' ρ' h1 h2 => ⟨rfl, hrec _ _ _ _ _ h1 hfit.2 h2⟩) hs hk
  · exact ends hfn hF hb hkind hs hk (fun cs => .one step_ret)
  · cases hk

theorem arun_sound (hm : P.follows .mixedOrders = true) (hE : EnvOk P E) (hfn : fn.results.toList = f.res) (hF : shapeOk f.rc0 H0 = true) (hb : P.funcs[b.fn]? = some fn) (hkind : b.kind = .normal) (hpts : ptsOk f) (hG : GOk P f G body b MX w0 ρ0 H0) {x : X} :
    (s : Nat) → {todo : List TI} → {st : St} → {a : Act} → {w : World} → {ρ : Nat → Value} → arun P E k f G s todo st = some x → Fits body todo → Sim f.n MX w0 ρ0 H0 st a w ρ → Fine P b (todo.map er) a w (Post f MX w0 ρ0 H0 x)
  | 0, todo, st, a, w, ρ, hk, hfit, hs => by cases hk
  | s + 1, [], st, a, w, ρ, hk, hfit, hs => ends hfn hF hb hkind hs hk (fun cs => .one step_end)
  | s + 1, .inBlock _ :: t, st, a, w, ρ, hk, hfit, hs => Fine.step (fun cs => .one step_inBlock) (arun_sound hm hE hfn hF hb hkind hpts hG s hk hfit hs)
  | s + 1, .inLoop c p :: t, st, a, w, ρ, hk, hfit, hs => by
    simp only [arun] at hk
    split at hk
    case h_2 => cases hk
    rename_i pt hpt
    obtain ⟨avs, H, ρ', h1, h2⟩ := jump_sound hF (hpts _ _ hpt) hs hk
    have := hG p pt avs H x hpt h1 _ hfit.1 hfit a w ρ' h2
    exact Fine.step (fun cs => .one step_inLoop) this
  | s + 1, .code c p :: t, st, a, w, ρ, hk, hfit, hs => by
    simp only [arun] at hk
    have hent : Fine P b ((entry (.code c p :: t)).map er) a w (Post f MX w0 ρ0 H0 x) := by
      split at hk
      · rename_i pt hpt
        obtain ⟨avs, H, ρ', h1, h2⟩ := jump_sound hF (hpts _ _ hpt) hs hk
        exact hG p pt avs H x hpt h1 _ hfit.1 hfit a w ρ' h2
      · exact stepC_sound hm hE hfn hF hb hkind (fun todo st a w ρ h1 h2 h3 => arun_sound hm hE hfn hF hb hkind hpts hG s h1 h2 h3) hfit hs hk
    cases c with
    | loop c => exact Fine.step (fun cs => .one step_loop) hent
    | _ => exact hent

theorem tk_fits {body : Code} : (c : Code) → {p0 q : Nat} → {t0 todo : List TI} → tk c p0 t0 q = some todo → Fits body (.code c p0 :: t0) → Fits body todo := by
  intro c
  have base : ∀ (c : Code) {p0 q : Nat} {t0 todo : List TI}, q = p0 → tk c p0 t0 q = some todo → Fits body (.code c p0 :: t0) → Fits body todo := by
    intro c p0 q t0 todo e h hf
    subst e
    rw [tk_self] at h
    injection h with h
    subst h
    exact hf
  induction c with
  | seq a b iha ihb =>
    intro p0 q t0 todo h hf
    by_cases e : q = p0
    · exact base _ e h hf
    · rw [tk_seq e] at h
      have := fits_seq hf
      split at h
      · exact ihb h this.2
      · exact iha h this
  | cond o a b iha ihb =>
    intro p0 q t0 todo h hf
    by_cases e : q = p0
    · exact base _ e h hf
    · rw [tk_cond e] at h
      have := fits_cond hf
      split at h
      · exact ihb h this.2
      · exact iha h this.1
  | block id a iha =>
    intro p0 q t0 todo h hf
    by_cases e : q = p0
    · exact base _ e h hf
    · rw [tk_block e] at h
      exact iha h (fits_block hf)
  | loop a iha =>
    intro p0 q t0 todo h hf
    by_cases e : q = p0
    · exact base _ e h hf
    · rw [tk_loop e] at h
      exact iha h (fits_loop hf)
  | _ =>
    intro p0 q t0 todo h hf
    by_cases e : q = p0
    · exact base _ e h hf
    · unfold tk at h
      rw [beq_ne e] at h
      cases h
end

theorem argsTm_rel {M : Nat → Prop} {w : World} {ρ : Nat → Value} {hp : Heap} : {avs : List AV} → {vals : List Value} → (i m : Nat) → Rs M w ρ hp avs vals → ∀ t, i ≤ t → R M w ρ hp (argsTm i avs t) ((vals.toArray ++ Array.replicate m undef).getD (t - i) undef)
  | [], _, i, m, h, t, _ => by
    cases h
    show (#[] ++ Array.replicate m undef).getD (t - i) undef = undef
    rw [Array.empty_append, Array.getD_eq_getD_getElem?]
    by_cases hl : t - i < m
    · simp [hl]
    · simp [hl]
  | x :: avs, _, i, m, ⟨v, q, e, h0, h1⟩, t, ht => by
    subst e
    show R M w ρ hp (upd (argsTm (i + 1) avs) i x t) _
    by_cases hti : t = i
    · subst hti
      rw [upd_same, Nat.sub_self]
      have : ((v :: q).toArray ++ Array.replicate m undef).getD 0 undef = v := by
        rw [Array.getD_eq_getD_getElem?, ← Array.getElem?_toList]
        simp
      rw [this]
      exact h0
    · rw [upd_ne _ _ hti]
      have ih := argsTm_rel (i + 1) m h1 t (by omega)
      have : ((v :: q).toArray ++ Array.replicate m undef).getD (t - i) undef = (q.toArray ++ Array.replicate m undef).getD (t - (i + 1)) undef := by
        rw [Array.getD_eq_getD_getElem?, Array.getD_eq_getD_getElem?, show t - i = (t - (i + 1)) + 1 by omega]
        rw [← Array.getElem?_toList, ← Array.getElem?_toList]
        simp
      rw [this]
      exact ih

/-- **A function is sound**: what the machine of this text tells of it, Go does. -/
theorem func_sound {X : Type} {P : Program} {E : Env} {f : FnA X} {G : Nat → Nat → List AV → List HE → Option X} {fid : FuncId} {fn : Func} {body : Code} {args : List RC} {pat : Nat → List AV → List HE → Option (Option X)} {emb : X → AV × List HE} (steps : Nat)
    (hm : P.follows .mixedOrders = true) (hE : EnvOk P E) (hf : P.funcs[fid]? = some fn) (hbody : fn.body = some body) (hn : fn.ntmps = f.n) (hres : fn.results.toList = f.res) (hpts : ptsOk f)
    (hfin : ∀ r H x, f.fin r H = some x → emb x = (r, H)) (hG0 : ∀ q avs H, G 0 q avs H = none)
    (hGs : ∀ k q pt avs H x, ptAt q f.pts = some pt → G (k + 1) q avs H = some x → fromPt P E k f (G k) steps body q avs H = some x)
    (htop : ∀ k avs H o, pat k avs H = some o → fromTop P E k f (G k) steps body avs H = o) : Sound P fid (mkS args pat emb) := by
  intro k avs H c x hc hx MX w ρ vals hst
  unfold mkS at hc
  simp only at hc
  split at hc
  case h_2 => cases hc
  rename_i o ho
  injection hc with hc
  subst hc
  simp only at hx
  have hrun := htop k avs H o ho
  rw [hx] at hrun
  unfold fromTop at hrun
  split at hrun
  case h_2 => cases hrun
  rename_i hF
  let b : Frame := { (default : Frame) with fn := fid, kind := .normal }
  have hfit : Fits body [.code body 0] := ⟨tk_self _ _ _, trivial⟩
  have hGok : ∀ k, GOk P f (G k) body b MX w ρ H := by
    intro k
    induction k with
    | zero => intro q pt avs H' y _ h; rw [hG0] at h; cases h
    | succ k ih =>
      intro q pt avs H' y hpt h todo htodo hft a w' ρ' hs
      have hp := hGs k q pt avs H' y hpt h
      unfold fromPt at hp
      rw [htodo, hpt] at hp
      split at hp
      · rename_i c p' t q' e1 e2
        injection e1 with e1
        injection e2 with e2
        subst e1 e2
        exact stepC_sound hm hE hres hF (b := b) hf rfl (fun todo st a w ρ h1 h2 h3 => arun_sound hm hE hres hF (b := b) hf rfl hpts ih steps h1 h2 h3) hft hs hp
      · cases hp
  have hs : Sim f.n MX w ρ H ⟨argsTm 0 avs, hpOf H, H.length⟩ { tmps := vals.toArray ++ Array.replicate (fn.ntmps - vals.toArray.size) undef, defers := [] } w ρ := by
    refine ⟨hst.rel, fun t => ?_, by simp [hn]; omega, rfl, ⟨fun _ _ => Old.refl _, fun i hi => ?_, Off.refl _ _, fun _ _ h => h, fun i cs hi => ⟨cs, hi, rfl, HEok.inside (hi ▸ hst.rel.ok i) (fun _ _ _ => rfl) _⟩⟩⟩
    · have := argsTm_rel 0 (fn.ntmps - vals.toArray.size) hst.args t (Nat.zero_le _)
      simpa using this
    · obtain ⟨h1, h2, h3⟩ := shape_get hF
      have hlt : i < f.rc0.length := by omega
      by_cases hr : (f.rc0[i]).kind = 2
      · cases hr' : f.rc0[i] with
        | drop => rw [hr'] at hr; cases hr
        | keep => rw [hr'] at hr; cases hr
        | box rcs =>
          obtain ⟨cs, h4, _⟩ := h2 i rcs (by rw [List.getElem?_eq_getElem hlt, hr'])
          show hpOf H i ≠ _
          rw [hpOf_some h4]; simp
      · obtain ⟨h', h4, h5⟩ := h3 i _ (List.getElem?_eq_getElem hlt) hr
        show hpOf H i ≠ _
        rw [hpOf_some h5]; exact h4.ne.1
  have hfine := arun_sound hm hE hres hF (b := b) hf rfl hpts (hGok k) steps hrun hfit hs
  intro cs
  obtain ⟨e, w', fr, h1, h2, h3, h4⟩ := hfine cs
  obtain ⟨v, r, H', ρ', rfl, hfx, hleft⟩ := h1
  have henter : Frame.enter P fid vals.toArray .normal = b.at { tmps := vals.toArray ++ Array.replicate (fn.ntmps - vals.toArray.size) undef, defers := [] } [.code body] := by
    simp [Frame.enter, Frame.at, hf, hbody, b]
  rw [henter]
  have he := hfin r H' x hfx
  exact ⟨.returned v, w', fr, ⟨v, ρ', rfl, by show Left MX w ρ H (emb x).1 (emb x).2 v w' ρ'; rw [he]; exact hleft⟩, h2, h3, h4⟩

/-! ### Words of the printed functions -/
def rd (xs : List Int) (i : Int) : Int := xs.getD i.toNat 0
/-- Bytes. -/
def okB (l : List Int) : Bool := l.all fun n => decide (0 ≤ n) && decide (n < 256)
def rdOf {α : Type} (d : α) (xs : List α) (i : Int) : α := xs.getD i.toNat d
theorem callable_of {P : Program} {f : FuncId} (h : (match P.funcs[f]? with
  | some fn => !(fn.name == "runtime.NumGoroutine") && fn.body.isSome
  | none => false) = true) : Callable P f := h
/-- What is told from point n on, or from others. -/
def pick1 {X : Type} (n : Nat) (g rest : Option X) (p : Nat) : Option X := match Nat.beq p n with
  | true => g
  | false => rest
theorem pick1_none {X : Type} {n : Nat} {g rest : Option X} {p : Nat} (hg : g = none) (hr : rest = none) : pick1 n g rest p = none := by
  unfold pick1
  split
  · exact hg
  · exact hr
theorem pick1_some {X : Type} {n : Nat} {g rest : Option X} {p : Nat} {x : X} (h : pick1 n g rest p = some x) : (p = n ∧ g = some x) ∨ rest = some x := by
  unfold pick1 at h
  split at h
  · rename_i hb; exact .inl ⟨Nat.eq_of_beq_eq_true hb, h⟩
  · exact .inr h
end Go.Proofs.YtommgpkeicpokaaGreatDoor.Abs
