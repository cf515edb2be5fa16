/- strings.Builder: what its methods come to, in the abstract machine's words. -/
import Derived.Test.YtommgpkeicpokaaGreatDoorAbsPrim
import Derived.Lib.UnsafeStr
namespace Go.Proofs.YtommgpkeicpokaaGreatDoor.Abs
open Go Go.RowKit
set_option linter.unusedVariables false
set_option linter.unusedSectionVars false
set_option linter.unusedSimpArgs false

/-- The operation, for the walk. -/
theorem wpList_append_str {P : Program} {w : World} {ops : Array Oper} {rest : List Oper} {o : Oper} {a : Act} {Q : Exit → Act → World → Prop} (hgd : o.guard = none) (sl x : Operand) (t u : TypeId)
    (ho : o.op = .call { callee := .builtin .append, args := #[sl, x], argTypes := #[t, u] })
    (e : TypeId) (i : TypeInfo) (ht : P.underlying t = some (.slice e)) (hu : P.underlying u = some .string) (hi : P.info? e = some i) (hz : i.zero = some (.int .u8 0)) (hsize : i.size = 1) (hby : i.bytes = 1)
    (v : Value) (n : Nat) (xs : List Value) (hs : a.eval sl = v) (hown : w.ownsRow 0 e 1 v n xs) (s : ByteArray) (hx : a.eval x = .string s) (hbytes : n + s.size ≤ 140737488355328)
    (h : ∀ v' w', w'.ownsRow 0 e 1 v' (n + s.size) (xs ++ Lib.strCells s) → w.grownBy w' v.ownBlock → (v'.ownBlock = v.ownBlock ∨ ∀ g, v'.ownBlock = some g → w.heap.size ≤ g) → wpList P ops Q rest (a.put o.dst v') w') : wpList P ops Q (o :: rest) a w := by
  refine wpList_plain hgd fun K hK => ?_
  obtain ⟨v', w', hr, h2, h3, h4⟩ := run_append_str (P := P) (w := w) t u o.type e i ht hu hi hz hsize hby v n xs hown s hbytes
  unfold Oper.wp execOp
  simp only [ho, resolve, invoke, builtin, Sem.run_bind, Sem.run_pure, Result.andThen_ok, List.map_toArray, List.map_cons, List.map_nil, hs, hx, hr]
  exact hK _ _ (h v' w' h2 h3 h4)

def bytesU (l : List Int) : List UInt8 := l.map fun n => UInt8.ofNat n.toNat
theorem bytesU_back : (l : List Int) → okB l = true → (bytesU l).map (fun b => (b.toNat : Int)) = l
  | [], _ => rfl
  | x :: l, h => by
    unfold okB at h
    simp only [List.all_cons, Bool.and_eq_true, decide_eq_true_eq] at h
    have ih := bytesU_back l h.2
    have hx : x.toNat < 256 := by omega
    unfold bytesU at ih ⊢
    simp only [List.map_cons, ih]
    congr 1
    rw [UInt8.toNat_ofNat', Nat.mod_eq_of_lt hx]
    omega
theorem els_u8 {M : Nat → Prop} {w : World} : {l : List Int} → {xs : List Value} → Els (Ty.KR M w (.int .u8)) l xs → xs = l.map (Value.int .u8)
  | [], _, h => h
  | x :: l, _, ⟨c, r, e, hc, hr⟩ => by
    have hc : c = [.int .u8 x] := hc
    rw [e, hc, els_u8 hr]
    rfl

section
variable {P : Program} {f : FuncId} {T e : TypeId}

def writeX (T e : TypeId) (r : List Int × Int) : AV × List HE := (.tup [.v (.int .i64 r.2), .v .nilIface], [.bld T (.own 2), .gone, .row e (.int .u8) r.1])

theorem sound_write {pat : Nat → List AV → List HE → Option (Option (List Int × Int))}
    (hpat : ∀ k avs H o x, pat k avs H = some o → o = some x → ∃ (l : List Int) (s : ByteArray), avs = [.box 0 0, .v (.string s)] ∧ H = [.bld T (.own 1), .row e (.int .u8) l] ∧ l.length + s.size ≤ 140737488355328 ∧ x = (l ++ numsOf s, (s.size : Int)))
    (h : ∀ (b : Nat) (p v : Value) (n : Nat) (xs : List Value) (s : ByteArray) (w : World), w.heap[b]? = some (.cells #[p, v] T (0, 0)) → (p = .pointer none ∨ p = .pointer (some ⟨b, 0, none⟩)) → w.ownsRow 0 e 1 v n xs → v.ownBlock ≠ some b → n + s.size ≤ 140737488355328 →
      Calls P f #[.pointer (some ⟨b, 0, none⟩), .string s] w fun en w' => en = .returned (.tuple #[.int .i64 s.size, .nilIface]) ∧ ∃ v', w'.heap[b]? = some (.cells #[.pointer (some ⟨b, 0, none⟩), v'] T (0, 0)) ∧ w'.ownsRow 0 e 1 v' (n + s.size) (xs ++ Lib.strCells s) ∧ Off (fun x => x = b ∨ v.ownBlock = some x) w w' ∧ (v'.ownBlock = v.ownBlock ∨ ∀ g, v'.ownBlock = some g → w.heap.size ≤ g)) :
    Sound P f (mkS [.bld T (.row e (.int .u8)), .val] pat (writeX T e)) := by
  intro k avs H c x hc hx MX w ρ vals hst
  unfold mkS at hc
  simp only at hc
  split at hc
  case h_2 => cases hc
  rename_i o ho
  injection hc with hc
  subst hc
  obtain ⟨l, s, rfl, rfl, hl, rfl⟩ := hpat k avs H o x ho hx
  obtain ⟨y0, q0, rfl, ⟨_, g, o0, hr0, rfl⟩, y1, q1, rfl, hy1, hq1⟩ := hst.args
  obtain rfl : q1 = [] := hq1
  obtain rfl : y1 = .string s := hy1
  have ok0 := hst.rel.ok 0
  have ok1 := hst.rel.ok 1
  obtain ⟨g', p, v, a1, a2, a3, ⟨_, rfl, A0, n0, c0, hv⟩⟩ := (show HEok _ w ρ _ 0 (.bld T (.own 1)) from ok0)
  obtain ⟨xs, b1, b2⟩ := (show HEok _ w ρ _ 1 (.row e (.int .u8) l) from ok1)
  rw [hd_own b1] at a2 hv
  rw [hr0] at a1
  injection a1 with a1
  injection a1 with a1
  injection a1 with e1 e2
  subst e1 e2
  have live0 : live (hpOf [.bld T (.own 1), .row e (.int .u8) l] 0) := trivial
  have live1 : live (hpOf [.bld T (.own 1), .row e (.int .u8) l] 1) := trivial
  have blk0 : At (ρ 0) = fun b => (some g : Option Nat) = some b := by rw [hr0]; rfl
  have blk1 : At (ρ 1) = fun b => (ρ 1).ownBlock = some b := blk_own ⟨A0, n0, c0, hv⟩
  have hne : (ρ 1).ownBlock ≠ some g := fun e => by
    have := hst.rel.sep 0 1 g live0 live1 (by rw [blk0]) (by rw [blk1]; exact e)
    omega
  have hglt : g < w.heap.size := (Array.getElem?_eq_some_iff.1 a2).1
  refine (h g p (ρ 1) l.length xs s w a2 a3 b1 hne hl).mono ?_
  rintro en w' ⟨rfl, v', d1, d2, d3, d4⟩
  have hv' : ∃ A n c, v' = .slice A n c := by
    rcases d2.2 with ⟨h2, _⟩ | ⟨g2, cap, cur, h2, _⟩
    · exact ⟨_, _, _, h2⟩
    · exact ⟨_, _, _, h2⟩
  have blk2 : At v' = fun b => v'.ownBlock = some b := blk_own hv'
  have hnl := numsOf_length s
  have cl : ∀ i, live (hpOf (writeX T e (l ++ numsOf s, (s.size : Int))).2 i) → (i = 0 ∧ At (upd ρ 2 v' i) = fun b => (some g : Option Nat) = some b) ∨ (i = 2 ∧ At (upd ρ 2 v' i) = fun b => v'.ownBlock = some b) := by
    intro i hi
    cases i with
    | zero => exact .inl ⟨rfl, by rw [upd_ne _ _ (by decide)]; exact blk0⟩
    | succ i => cases i with
      | zero => exact hi.elim
      | succ i => cases i with
        | zero => exact .inr ⟨rfl, by rw [show (0 + 1 + 1) = 2 from rfl, upd_same]; exact blk2⟩
        | succ i => simp [writeX, hpOf, live] at hi
  have hnew : ∀ b, v'.ownBlock = some b → b < w.heap.size → (ρ 1).ownBlock = some b := by
    intro b hb hlt
    rcases d4 with h4 | h4
    · rw [← h4]; exact hb
    · have := h4 b hb; omega
  refine ⟨_, upd ρ 2 v', rfl, Left.of hst (fun i => ?_) (fun i j b hi hj hbi hbj => ?_) (fun i b hi hbi hm => ?_) ?_ (fun i hi => ?_) ?_ (fun b hb ⟨i, hi, hbi⟩ => ?_) (fun i cs hi => ?_)⟩
  · cases i with
    | zero => exact ⟨g, _, v', by rw [upd_ne _ _ (by decide)]; exact hr0, d1, .inr rfl, by simp [writeX, hpOf], by rw [upd_same]; exact (hd_v hv').symm, hv'⟩
    | succ i => cases i with
      | zero => trivial
      | succ i => cases i with
        | zero =>
          refine ⟨xs ++ Lib.strCells s, ?_, Els.append (Els.imp (fun _ _ h => h) b2) (strCells_els s)⟩
          rw [show (0 + 1 + 1) = 2 from rfl, upd_same]
          have e1 : (l ++ numsOf s).length = l.length + s.size := by rw [List.length_append, hnl]
          show w'.ownsRow 0 e 1 v' (l ++ numsOf s).length _
          rw [e1]
          exact d2
        | succ i => simp [writeX, hpOf, HEok]
  · rcases cl i hi with ⟨rfl, h1⟩ | ⟨rfl, h1⟩ <;> rcases cl j hj with ⟨rfl, h2⟩ | ⟨rfl, h2⟩
    · rfl
    · rw [h1] at hbi
      injection hbi with hbi
      subst hbi
      rw [h2] at hbj
      exact absurd (hnew g hbj hglt) hne
    · rw [h2] at hbj
      injection hbj with hbj
      subst hbj
      rw [h1] at hbi
      exact absurd (hnew g hbi hglt) hne
    · rfl
  · rcases cl i hi with ⟨rfl, h1⟩ | ⟨rfl, h1⟩
    · rw [h1] at hbi
      exact hst.rel.ext 0 b live0 (by rw [blk0]; exact hbi) hm
    · rw [h1] at hbi
      exact hst.rel.ext 1 b live1 (by rw [blk1]; exact hnew b hbi (hst.rel.mx b hm)) hm
  · exact ⟨[.int .i64 s.size, .nilIface], rfl, _, _, rfl, rfl, _, _, rfl, rfl, rfl⟩
  · have : i = 0 ∨ i = 1 := by simp at hi; omega
    rw [upd_ne _ _ (by omega)]
    exact Old.refl _
  · exact d3.mono fun b _ hb => hb.elim (fun h => h ▸ ⟨0, live0, by rw [blk0]⟩) (fun h => ⟨1, live1, by rw [blk1]; exact h⟩)
  · rcases cl i hi with ⟨rfl, h1⟩ | ⟨rfl, h1⟩
    · rw [h1] at hbi
      exact ⟨0, live0, by rw [blk0]; exact hbi⟩
    · rw [h1] at hbi
      exact ⟨1, live1, by rw [blk1]; exact hnew b hbi hb⟩
  · cases i with
    | zero => cases hi
    | succ i => cases i with
      | zero => cases hi
      | succ i => simp [hpOf] at hi

theorem Off.freeze (w : World) (g n : Nat) : Off (fun x => x = g) w (w.freeze ⟨g, 0, none⟩ n) := by
  unfold World.freeze
  split
  · exact Off.refl _ _
  · exact ⟨rfl, rfl, rfl, by simp, fun k _ hk => by
      simp only [Array.getElem?_modify]
      rw [if_neg (fun e => hk e.symm)]⟩

theorem sound_str {pat : Nat → List AV → List HE → Option (Option ByteArray)}
    (hpat : ∀ k avs H o x, pat k avs H = some o → o = some x → ∃ l : List Int, avs = [.box 0 0] ∧ H = [.bld T (.own 1), .row e (.int .u8) l] ∧ okB l = true ∧ x = strOf l)
    (h : ∀ (b : Nat) (p v : Value) (l : List UInt8) (w : World), w.heap[b]? = some (.cells #[p, v] T (0, 0)) → w.ownsRow 0 e 1 v l.length (Lib.byteCells l) →
      Calls P f #[.pointer (some ⟨b, 0, none⟩)] w fun en w' => en = .returned (.string ⟨l.toArray⟩) ∧ Off (fun x => v.ownBlock = some x) w w') :
    Sound P f (mkS [.bld T (.row e (.int .u8))] pat fun r => (.v (.string r), [.gone, .gone])) := by
  intro k avs H c x hc hx MX w ρ vals hst
  unfold mkS at hc
  simp only at hc
  split at hc
  case h_2 => cases hc
  rename_i o ho
  injection hc with hc
  subst hc
  obtain ⟨l, rfl, rfl, hl, rfl⟩ := hpat k avs H o x ho hx
  obtain ⟨y0, q0, rfl, ⟨_, g, o0, hr0, rfl⟩, hq1⟩ := hst.args
  obtain rfl : q0 = [] := hq1
  obtain ⟨g', p, v, a1, a2, a3, ⟨_, rfl, A0, n0, c0, hv⟩⟩ := (show HEok _ w ρ _ 0 (.bld T (.own 1)) from hst.rel.ok 0)
  obtain ⟨xs, b1, b2⟩ := (show HEok _ w ρ _ 1 (.row e (.int .u8) l) from hst.rel.ok 1)
  rw [hd_own b1] at a2 hv
  rw [hr0] at a1
  injection a1 with a1
  injection a1 with a1
  injection a1 with e1 e2
  subst e1 e2
  have live1 : live (hpOf [.bld T (.own 1), .row e (.int .u8) l] 1) := trivial
  have blk1 : At (ρ 1) = fun b => (ρ 1).ownBlock = some b := blk_own ⟨A0, n0, c0, hv⟩
  have hbk := bytesU_back l hl
  have hlen : (bytesU l).length = l.length := by simp [bytesU]
  have hxs : xs = Lib.byteCells (bytesU l) := by
    rw [els_u8 b2]
    have h2 := congrArg (List.map (Value.int .u8)) hbk
    rw [List.map_map] at h2
    exact h2.symm
  rw [hxs] at b1
  refine (h g p (ρ 1) (bytesU l) w a2 (by rw [hlen]; exact b1)).mono ?_
  rintro en w' ⟨rfl, d3⟩
  have nol : ∀ i, ¬ live (hpOf [.gone, .gone] i) := by
    intro i hi
    cases i with
    | zero => exact hi
    | succ i => cases i with
      | zero => exact hi
      | succ i => simp [hpOf, live] at hi
  refine ⟨_, ρ, rfl, Left.of hst (fun i => ?_) (fun i j b hi => (nol i hi).elim) (fun i b hi => (nol i hi).elim) rfl (fun i hi => Old.refl _) ?_ (fun b hb ⟨i, hi, _⟩ => (nol i hi).elim) (fun i cs hi => ?_)⟩
  · cases i with
    | zero => trivial
    | succ i => cases i with
      | zero => trivial
      | succ i => simp [hpOf, HEok]
  · exact d3.mono fun b _ hb => ⟨1, live1, by rw [blk1]; exact hb⟩
  · cases i with
    | zero => cases hi
    | succ i => cases i with
      | zero => cases hi
      | succ i => simp [hpOf] at hi
end
end Go.Proofs.YtommgpkeicpokaaGreatDoor.Abs
