/- Operations that leave memory as it is, further: numbers, strings, indices. -/
import Derived.Test.YtommgpkeicpokaaGreatDoorAbsOps1
import Derived.Laws.StructEq
import Derived.IntWalk
import Derived.WalkLawsBesides
namespace Go.Proofs.YtommgpkeicpokaaGreatDoor.Abs
open Go Go.RowKit
set_option linter.unusedVariables false
set_option linter.unusedSectionVars false
set_option linter.unusedSimpArgs false

section
variable {Rt : Type} {P : Program} {M : Nat → Prop} {w : World} {ρ : Nat → Value} {hp : Heap} {b : Nat} {rs ws : List Nat} {K : AV → Nat → Heap → List Nat → List Nat → Option Rt} {r : Rt}

theorem wrp_eq (k : IntKind) (n : Int) : wrp k n = k.wrap n := by
  cases k <;> simp only [wrp]
  case i64 => rw [IntKind.wrap_i64]; unfold wrap64; rfl
  case u8 => rfl

theorem guardE_some {c : Prop} [Decidable c] {e : Eff AV} (hk : (guardE c e).go b hp rs ws K = some r) : ¬ c ∧ e.go b hp rs ws K = some r := by
  unfold guardE at hk
  simp only [Eff.go] at hk
  split at hk
  · rename_i h _; exact ⟨h, hk⟩
  · cases hk

theorem fdiv_pow (x : Int) (n : Nat) : x.fdiv (2 ^ n) = x / 2 ^ n := Int.fdiv_eq_ediv_of_nonneg x (Int.le_of_lt (Int.pow_pos (by decide)))

theorem intOpE_sound {op : BinOp} {k : IntKind} {x y : Int} {T : TypeId} (hs : op ≠ .shl ∧ op ≠ .shr) (hk : (intOpE op k x y).go b hp rs ws K = some r) :
    ∃ z v, K z b hp rs ws = some r ∧ (binOp op T (.int k x) (.int k y)).run P w = .ok v w ∧ R M w ρ hp z v := by
  cases op <;> simp only [intOpE] at hk
  case add => exact ⟨_, _, hk, by simp [binOp, Op.intArith, wrp_eq], rfl⟩
  case sub => exact ⟨_, _, hk, by simp [binOp, Op.intArith, wrp_eq], rfl⟩
  case mul => exact ⟨_, _, hk, by simp [binOp, Op.intArith, wrp_eq], rfl⟩
  case quo =>
    obtain ⟨h0, hk⟩ := guardE_some hk
    exact ⟨_, _, hk, by simp [binOp, Op.intDiv, h0, wrp_eq], rfl⟩
  case rem =>
    obtain ⟨h0, hk⟩ := guardE_some hk
    exact ⟨_, _, hk, by simp [binOp, Op.intDiv, h0], rfl⟩
  case and => exact ⟨_, _, hk, by simp [binOp, Op.intBits, andA], rfl⟩
  case or => exact ⟨_, _, hk, by simp [binOp, Op.intBits, orA], rfl⟩
  case xor => exact ⟨_, _, hk, by simp [binOp, Op.intBits, xorA], rfl⟩
  case andNot => exact ⟨_, _, hk, by simp [binOp, Op.intBits, andNotA], rfl⟩
  case shl => exact absurd rfl hs.1
  case shr => exact absurd rfl hs.2
  case eql => exact ⟨_, .bool (x == y), hk, by simp [binOp, Op.intCmp], by simp only [R, xorB]; rfl⟩
  case neq => exact ⟨_, .bool (x != y), hk, by simp [binOp, Op.intCmp], by simp only [R, xorB]; rfl⟩
  case lss => exact ⟨_, .bool (decide (x < y)), hk, by simp [binOp, Op.intCmp], by simp only [R, xorB]⟩
  case leq => exact ⟨_, .bool (decide (x ≤ y)), hk, by simp [binOp, Op.intCmp], by simp only [R, xorB]⟩
  case gtr => exact ⟨_, .bool (decide (x > y)), hk, by simp [binOp, Op.intCmp], by simp only [R, xorB]⟩
  case geq => exact ⟨_, .bool (decide (x ≥ y)), hk, by simp [binOp, Op.intCmp], by simp only [R, xorB]⟩

theorem strOpE_sound {op : BinOp} {x y : ByteArray} {T : TypeId} (hk : (strOpE op x y).go b hp rs ws K = some r) :
    ∃ z v, K z b hp rs ws = some r ∧ (binOp op T (.string x) (.string y)).run P w = .ok v w ∧ R M w ρ hp z v := by
  cases op <;> simp only [strOpE] at hk <;> try (cases hk; done)
  case add =>
    simp only [Eff.go] at hk
    split at hk
    · rename_i h
      have h' : ¬ ((x.size + y.size : Nat) : Int) > IntKind.i64.max := by simp [IntKind.max, IntKind.signed, IntKind.bits]; omega
      exact ⟨_, _, hk, by simp only [binOp, Op.stringOp, if_neg h', Sem.run_pure], rfl⟩
    · cases hk
  case eql => exact ⟨_, .bool (x.toList == y.toList), hk, by simp [binOp, Op.stringOp], by simp only [R, xorB]; rw [Value.bool.injEq, Bool.eq_iff_iff]; simp⟩
  case neq => exact ⟨_, .bool (!(x.toList == y.toList)), hk, by simp [binOp, Op.stringOp], by simp only [R, xorB]; rw [Value.bool.injEq, Bool.eq_iff_iff]; simp⟩

theorem boolOf_sound {a : AV} {y : Value} {t : Bool} (ha : R M w ρ hp a y) (h : boolOf a = some t) : y = .bool t := by
  unfold boolOf at h
  split at h
  · cases h; exact ha
  · cases h; exact ha
  · cases h; exact ha
  · cases h; exact ha
  · cases h; exact ha
  · cases h

@[simp] theorem run_eqGuard_int {op : BinOp} {T : TypeId} {ox oy : Operand} {k k' : IntKind} {x y : Int} : (eqGuard op T ox oy (.int k x) (.int k' y)).run P w = .ok () w := by
  unfold eqGuard; cases op <;> rfl
@[simp] theorem run_eqGuard_str {op : BinOp} {T : TypeId} {ox oy : Operand} {x y : ByteArray} : (eqGuard op T ox oy (.string x) (.string y)).run P w = .ok () w := by
  unfold eqGuard; cases op <;> rfl
@[simp] theorem run_eqGuard_bool {op : BinOp} {T : TypeId} {ox oy : Operand} {x y : Bool} : (eqGuard op T ox oy (.bool x) (.bool y)).run P w = .ok () w := by
  unfold eqGuard; cases op <;> rfl

theorem eqOne_sound {T : TypeId} {x y : AV} {vx vy : Value} {a : DP} (hx : R M w ρ hp x vx) (hy : R M w ρ hp y vy) (h : eqOne P T x y = some a) :
    (∀ d, (Op.equalIn (d + 1) T vx vy).run P w = .ok (@decide a.p a.d) w) ∧ ∀ (xs : Array Value) off v, xs[off]? = some v → (part T xs off).run P w = .ok v w := by
  unfold eqOne at h
  split at h
  · rename_i k0 hu
    split at h
    case h_2 => cases h
    rename_i k n k' m
    split at h
    case h_2 => cases h
    rename_i hk _
    subst hk
    injection h with h
    subst h
    rw [show vx = _ from hx, show vy = _ from hy]
    refine ⟨fun d => ?_, fun xs off v hv => by simp [part, Go.isAgg, run_underlying hu, hv]⟩
    rw [run_equalIn_int w d T k k0 n m hu]
    congr 1
  · rename_i hu
    split at h
    case h_2 => cases h
    injection h with h
    subst h
    rw [show vx = _ from hx, show vy = _ from hy]
    refine ⟨fun d => ?_, fun xs off v hv => by simp [part, Go.isAgg, run_underlying hu, hv]⟩
    rw [run_equalIn_string w d T _ _ hu]
    congr 1
    exact Bool.eq_iff_iff.2 (by simp)
  · rename_i hu
    split at h
    case h_2 => cases h
    rename_i t u ht hu'
    injection h with h
    subst h
    rw [boolOf_sound hx ht, boolOf_sound hy hu']
    refine ⟨fun d => ?_, fun xs off v hv => by simp [part, Go.isAgg, run_underlying hu, hv]⟩
    rw [run_equalIn_bool' w d T t u hu]
    congr 1
  · cases h

theorem eqFieldsA_sound {xs ys : List AV} {vxs vys : List Value} (hx : Rs M w ρ hp xs vxs) (hy : Rs M w ρ hp ys vys) (d : Nat) : (fs : List Field) → {a : DP} → eqFieldsA P xs ys fs = some a →
    (Op.eqFields (d + 1) vxs.toArray vys.toArray fs).run P w = .ok (@decide a.p a.d) w
  | [], a, h => by cases h
  | f :: fs, a, h => by
    unfold eqFieldsA at h
    split at h
    case h_1 => cases h
    rename_i hn _
    split at h
    case h_2 => cases h
    rename_i x y hgx hgy
    split at h
    case h_2 => cases h
    rename_i a1 h1
    obtain ⟨v, hv, hrv⟩ := Rs_get hx _ _ hgx
    obtain ⟨u, hu, hru⟩ := Rs_get hy _ _ hgy
    obtain ⟨e1, e2⟩ := eqOne_sound hrv hru h1
    have p1 := e2 vxs.toArray f.offset v (by simpa using hv)
    have p2 := e2 vys.toArray f.offset u (by simpa using hu)
    simp only [Op.eqFields, if_pos hn, Sem.run_bind, p1, p2, e1, Result.andThen_ok]
    split at h
    · injection h with h
      subst h
      cases hb : @decide a1.p a1.d <;> simp [Op.eqFields]
    · rename_i f2 fs2
      split at h
      case h_2 => cases h
      rename_i b h2
      injection h with h
      subst h
      have ih := eqFieldsA_sound hx hy d _ h2
      cases hb : @decide a1.p a1.d with
      | false =>
        have hna : ¬ a1.p := @of_decide_eq_false _ a1.d hb
        simp only [Bool.not_false, if_true, Sem.run_pure]
        congr 1
        exact (@decide_eq_false (a1.p ∧ b.p) (@instDecidableAnd _ _ a1.d b.d) (fun h => hna h.1)).symm
      | true =>
        have hya : a1.p := @of_decide_eq_true _ a1.d hb
        simp only [Bool.not_true, Bool.false_eq_true, if_false]
        rw [ih]
        congr 1
        cases hc : @decide b.p b.d with
        | false => exact (@decide_eq_false (a1.p ∧ b.p) (@instDecidableAnd _ _ a1.d b.d) (fun h => @of_decide_eq_false _ b.d hc h.2)).symm
        | true => exact (@decide_eq_true (a1.p ∧ b.p) (@instDecidableAnd _ _ a1.d b.d) ⟨hya, @of_decide_eq_true _ b.d hc⟩).symm

theorem eqAggE_sound {op : BinOp} {T : TypeId} {x y : AV} {vx vy : Value} (hx : R M w ρ hp x vx) (hy : R M w ρ hp y vy) (hk : (eqAggE P op T x y).go b hp rs ws K = some r) :
    ∃ z v, K z b hp rs ws = some r ∧ (∀ ox oy, (do eqGuard op T ox oy vx vy; binOp op T vx vy : Sem Value).run P w = .ok v w) ∧ R M w ρ hp z v := by
  unfold eqAggE at hk
  split at hk
  case h_2 => cases hk
  obtain ⟨vxs, rfl, hxs⟩ := hx
  obtain ⟨vys, rfl, hys⟩ := hy
  split at hk
  case h_2 => cases hk
  rename_i fs hu
  split at hk
  case h_2 => cases hk
  rename_i a h1 h2 h3
  have hf : P.fieldsOf T = fs := by simp [Program.fieldsOf, hu]
  have hq : (Op.equalIn 10000 T (.agg vxs.toArray) (.agg vys.toArray)).run P w = .ok (@decide a.p a.d) w := by
    rw [run_equalIn_agg w 9999 T _ _ (by rw [hf]; exact hu) h1, hf]
    exact eqFieldsA_sound hxs hys 9998 fs.toList h3
  split at hk
  · exact ⟨_, .bool (@decide a.p a.d), hk, fun ox oy => by simp only [Sem.run_bind, run_eqGuard_agg w _ T ox oy _ _ h2, Result.andThen_ok, run_eql_struct, hq], by simp only [R, xorB]⟩
  · exact ⟨_, .bool (!(@decide a.p a.d)), hk, fun ox oy => by simp only [Sem.run_bind, run_eqGuard_agg w _ T ox oy _ _ h2, Result.andThen_ok, run_neq_struct, hq], by simp only [R, xorB]⟩
  · cases hk

theorem binE_sound {op : BinOp} {T : TypeId} {x y : AV} {vx vy : Value} (hx : R M w ρ hp x vx) (hy : R M w ρ hp y vy) (hk : (binE P op T x y).go b hp rs ws K = some r) :
    ∃ z v, K z b hp rs ws = some r ∧ (∀ ox oy, (do eqGuard op T ox oy vx vy; binOp op T vx vy : Sem Value).run P w = .ok v w) ∧ R M w ρ hp z v := by
  unfold binE at hk
  split at hk
  · rw [show vx = _ from hx, show vy = _ from hy]
    obtain ⟨h0, hk⟩ := guardE_some hk
    exact ⟨_, _, hk, fun ox oy => by simp [binOp, Op.shift, shlA, h0], rfl⟩
  · rw [show vx = _ from hx, show vy = _ from hy]
    obtain ⟨h0, hk⟩ := guardE_some hk
    exact ⟨_, _, hk, fun ox oy => by simp [binOp, Op.shift, shrA, h0, fdiv_pow], rfl⟩
  · rename_i op k a k' b' h1 h2
    rw [show vx = _ from hx, show vy = _ from hy]
    split at hk
    case h_2 => cases hk
    rename_i hkk _
    subst hkk
    obtain ⟨z, v, hK, hr, hR⟩ := intOpE_sound (P := P) (M := M) (w := w) (ρ := ρ) (hp := hp) (T := T) ⟨h1, h2⟩ hk
    exact ⟨z, v, hK, fun ox oy => by simp [hr], hR⟩
  · rw [show vx = _ from hx, show vy = _ from hy]
    obtain ⟨z, v, hK, hr, hR⟩ := strOpE_sound (P := P) (M := M) (w := w) (ρ := ρ) (hp := hp) (T := T) hk
    exact ⟨z, v, hK, fun ox oy => by simp [hr], hR⟩
  · split at hk
    case h_2 => exact eqAggE_sound hx hy hk
    rename_i a b' ha hb
    rw [boolOf_sound hx ha, boolOf_sound hy hb]
    split at hk
    case h_2 => cases hk
    rename_i hu
    split at hk
    · exact ⟨_, .bool (a == b'), hk, fun ox oy => by simp [run_eql_bool w T a b' hu], by simp only [R, xorB]; cases a <;> cases b' <;> rfl⟩
    · exact ⟨_, .bool (!(a == b')), hk, fun ox oy => by simp [run_neq_bool w T a b' hu], by simp only [R, xorB]; cases a <;> cases b' <;> rfl⟩
    · cases hk

theorem ifcE_sound {op : BinOp} {T : TypeId} {x : AV} {vx : Value} (hx : R M w ρ hp x vx) (hk : (ifcE P op T x).go b hp rs ws K = some r) :
    ∃ z v, K z b hp rs ws = some r ∧ (∀ ox, (do eqGuard op T ox (.const .nilIface) vx .nilIface; binOp op T vx .nilIface : Sem Value).run P w = .ok v w) ∧ R M w ρ hp z v := by
  unfold ifcE at hk
  split at hk
  case h_2 => cases hk
  rename_i ms n hu
  have hg : ∀ ox, (op matches .eql | .neq) = true → (eqGuard op T ox (.const .nilIface) vx .nilIface).run P w = .ok () w := by
    intro ox _
    rcases hx with ⟨_, rfl⟩ | ⟨_, t, y, rfl⟩ <;> unfold eqGuard <;> cases op <;> simp
  have he : ∀ d : Nat, (Op.equalIn (d + 1) T vx .nilIface).run P w = .ok n w := fun d => by
    rcases hx with ⟨rfl, rfl⟩ | ⟨rfl, t, y, rfl⟩ <;> simp [Op.equalIn, run_underlying hu]
  have hb : ∀ x : Value, x = vx → (binOp .eql T x .nilIface).run P w = .ok (.bool n) w ∧ (binOp .neq T x .nilIface).run P w = .ok (.bool (!n)) w := by
    intro x hxe
    have h9 := he 9999
    rw [← hxe] at h9
    rcases hx with ⟨rfl, rfl⟩ | ⟨rfl, t, y, rfl⟩ <;> subst hxe <;> constructor <;> simp only [binOp, Op.equal, Op.maxDepth, Sem.run_bind, h9, Result.andThen_ok, Sem.run_pure]
  split at hk
  · refine ⟨_, .bool n, hk, fun ox => ?_, by simp only [R, xorB]⟩
    simp only [Sem.run_bind, hg ox rfl, Result.andThen_ok]
    exact (hb _ rfl).1
  · refine ⟨_, .bool (!n), hk, fun ox => ?_, by simp only [R, xorB]⟩
    simp only [Sem.run_bind, hg ox rfl, Result.andThen_ok]
    exact (hb _ rfl).2
  · cases hk

theorem unE_sound {op : UnOp} {x : AV} {vx : Value} (hx : R M w ρ hp x vx) (hk : (unE op x).go b hp rs ws K = some r) :
    ∃ z v, K z b hp rs ws = some r ∧ (Op.unary op vx).run P w = .ok v w ∧ R M w ρ hp z v := by
  unfold unE at hk
  split at hk
  · rw [show vx = _ from hx]; exact ⟨_, _, hk, by simp [Op.unary, Op.intArith, wrp_eq], rfl⟩
  · rw [show vx = _ from hx]; exact ⟨_, _, hk, by simp [Op.unary, Op.intBits, xorA], rfl⟩
  · rw [show vx = _ from hx]; exact ⟨_, _, hk, by simp [Op.unary], rfl⟩
  · rename_i ng t
    rw [show vx = _ from hx]; exact ⟨_, .bool (!xorB ng t), hk, by simp [Op.unary], by cases ng <;> simp [R, xorB]⟩
  · rename_i ng p d
    rw [show vx = _ from hx]; exact ⟨_, .bool (!xorB ng (decide p)), hk, by simp [Op.unary], by cases ng <;> simp [R, xorB]⟩
  · cases hk

theorem indexE_sound {T : TypeId} {x i : AV} {vx vi : Value} (hx : R M w ρ hp x vx) (hi : R M w ρ hp i vi) (hk : (indexE P T x i).go b hp rs ws K = some r) :
    ∃ z v, K z b hp rs ws = some r ∧ (Instr.index T vx vi).run P w = .ok v w ∧ R M w ρ hp z v := by
  unfold indexE at hk
  split at hk
  case h_2 => cases hk
  rename_i s k n hu
  rw [show vx = _ from hx, show vi = _ from hi]
  simp only [Eff.go] at hk
  split at hk
  case isFalse => cases hk
  rename_i h0
  split at hk
  case isFalse => cases hk
  rename_i h1
  have h2 : ∀ (s : ByteArray) (n : Int), 0 ≤ n → n < (s.size : Int) → n.toNat < s.size := fun s n _ _ => by omega
  refine ⟨_, _, hk, by rw [run_index_string _ _ _ _ _ hu, dif_pos ⟨h0, h1⟩], ?_⟩
  simp only [R, byteAt]
  rw [dif_pos (h2 _ _ h0 h1)]

theorem run_indexAt {T e : TypeId} {s : Nat} (hu : P.underlying T = some (.slice e)) (hs : sizeAt P e = some s) {g o n c : Nat} {k : IntKind} {i : Int} (h0 : 0 ≤ i) (h1 : i < (n : Int)) :
    (Instr.indexAt T (.slice (some ⟨g, o, none⟩) n c) (.int k i)).run P w = .ok (.pointer (some ⟨g, o + i.toNat * s, none⟩)) w := by
  simp [Instr.indexAt, asIntOf, run_underlying hu, h0, h1, run_sizeOf hs, add_at']

theorem con_elem {t : Ty} {l : List t.den} {A : Option Addr} (h : RowR M w (t.KR M w) t.sz A l) {j : Nat} (hj : j < l.length) :
    ∃ g o vs, A = some ⟨g, o, none⟩ ∧ ¬ M g ∧ t.KR M w (l.getD j t.zero) vs ∧ ∀ (q : Nat) (u : Value), vs[q]? = some u → w.cell? ⟨g, o + j * t.sz + q, none⟩ = some u := by
  obtain ⟨b, o, cs, hA, hb, hl, hk, hc⟩ := h j l[j] (List.getElem?_eq_getElem hj)
  refine ⟨b, o, cs, hA, hb, by rw [List.getD_eq_getElem?_getD, List.getElem?_eq_getElem hj]; exact hk, fun q u hq => ?_⟩
  rw [Nat.add_assoc]
  exact hc q u hq

theorem indexAddrE_sound {MX : Nat → Prop} (H : HRel MX w ρ hp) {T : TypeId} {x i : AV} {vx vi : Value} (hx : R (Mut MX hp ρ) w ρ hp x vx) (hi : R (Mut MX hp ρ) w ρ hp i vi) (hk : (indexAddrE P T x i).go b hp rs ws K = some r) :
    ∃ z v rs', K z b hp rs' ws = some r ∧ (Instr.indexAt T vx vi).run P w = .ok v w ∧ R (Mut MX hp ρ) w ρ hp z v := by
  unfold indexAddrE at hk
  split at hk
  case h_2 => cases hk
  rename_i e k n hu
  rw [show vi = _ from hi]
  split at hk
  · rename_i s t l hs
    split at hk
    case h_2 => cases hk
    rename_i hsz
    have hsz := Nat.eq_of_beq_eq_true hsz
    subst hsz
    simp only [Eff.go] at hk
    split at hk
    case isFalse => cases hk
    rename_i h0
    split at hk
    case isFalse => cases hk
    rename_i h1
    obtain ⟨A, c, rfl, hle, hr⟩ := hx
    obtain ⟨g, o, vs, rfl, hg, hkr, hc⟩ := con_elem hr (j := n.toNat) (by omega)
    exact ⟨_, _, _, hk, run_indexAt hu hs h0 h1, g, o + n.toNat * t.sz, vs, rfl, hg, hkr, hc⟩
  · rename_i s q hs
    simp only [Eff.go] at hk
    obtain ⟨hne, rfl, A, m, c, hv⟩ := hx
    have hok := H.ok q
    split at hk
    · rename_i e' t l hq
      rw [hq] at hok
      obtain ⟨xs, h1, h2⟩ := hok
      split at hk
      case h_2 => cases hk
      rename_i hsz
      have hsz := Nat.eq_of_beq_eq_true hsz
      subst hsz
      simp only [Eff.go] at hk
      split at hk
      case isFalse => cases hk
      rename_i h0
      split at hk
      case isFalse => cases hk
      rename_i hlt
      rcases h1.2 with ⟨h3, h4⟩ | ⟨g, cap, cur, h3, _⟩
      · omega
      · rw [h3]
        exact ⟨_, _, _, hk, run_indexAt hu hs h0 hlt, hne, g, l.length, cap, (by rw [h3]; rfl), by omega, by rw [Nat.zero_add, Nat.add_zero]⟩
    · rename_i t l hq
      rw [hq] at hok
      obtain ⟨A', c', h1, hle, hr⟩ := hok
      split at hk
      case h_2 => cases hk
      rename_i hsz
      have hsz := Nat.eq_of_beq_eq_true hsz
      subst hsz
      simp only [Eff.go] at hk
      split at hk
      case isFalse => cases hk
      rename_i h0
      split at hk
      case isFalse => cases hk
      rename_i hlt
      rw [h1]
      obtain ⟨g, o, vs, rfl, hg, hkr, hc⟩ := con_elem hr (j := n.toNat) (by omega)
      exact ⟨_, _, _, hk, run_indexAt hu hs h0 hlt, g, o + n.toNat * t.sz, vs, rfl, hg, hkr, hc⟩
    · rename_i l hq
      rw [hq] at hok
      obtain ⟨g', c', h1, h2, h3⟩ := hok
      split at hk
      case h_2 => cases hk
      rename_i hsz
      have hsz := Nat.eq_of_beq_eq_true hsz
      subst hsz
      simp only [Eff.go] at hk
      split at hk
      case isFalse => cases hk
      rename_i h0
      split at hk
      case isFalse => cases hk
      rename_i hlt
      rw [h1]
      exact ⟨_, _, _, hk, run_indexAt hu hs h0 hlt, hne, g', l.length, c', (by rw [h1]; rfl), by omega, by rw [Nat.zero_add, Nat.add_zero]⟩
    · rename_i o fr e' be t l cur hq
      rw [hq] at hok
      obtain ⟨v0, ss, us, xs, ht⟩ := hok
      split at hk
      case h_2 => cases hk
      rename_i hsz
      have hsz := Nat.eq_of_beq_eq_true hsz
      subst hsz
      simp only [Eff.go] at hk
      split at hk
      case isFalse => cases hk
      rename_i h0
      split at hk
      case isFalse => cases hk
      rename_i hlt
      have hh : hd (ρ q) = v0 := ht.hd_
      rw [hh]
      rcases ht.own.2 with ⟨h3, h4⟩ | ⟨g, cap, cur', h3, _⟩
      · omega
      · rw [h3]
        exact ⟨_, _, _, hk, run_indexAt hu hs h0 hlt, hne, g, l.length, cap, (by rw [hh, h3]), by omega, by rw [Nat.zero_add, Nat.add_zero]⟩
    · cases hk
  · rename_i s q lo hs
    obtain ⟨hne, g0, n0, c0, c1, A0, hv, hlo, rfl, hA, hc1⟩ := hx
    have hok := H.ok q
    simp only [Eff.go] at hk
    split at hk
    case h_2 => cases hk
    rename_i e' t l hq
    rw [hq] at hok
    obtain ⟨xs, h1, h2⟩ := hok
    split at hk
    case h_2 => cases hk
    rename_i hsz h1z
    have hsz := Nat.eq_of_beq_eq_true hsz
    have h1z := Nat.eq_of_beq_eq_true h1z
    subst hsz
    simp only [Eff.go] at hk
    split at hk
    case isFalse => cases hk
    rename_i h0
    split at hk
    case isFalse => cases hk
    rename_i hlt
    have hn0 : n0 = l.length := by
      rcases h1.2 with ⟨h3, h4⟩ | ⟨g, cap, cur, h3, _⟩
      · rw [hv] at h3; cases h3
      · rw [hv] at h3
        injection h3
    subst hn0
    have hA := hA (by omega)
    subst hA
    exact ⟨_, _, _, hk, run_indexAt hu hs h0 hlt, hne, g0, l.length, c0, (by rw [hv]; rfl), by omega, by rw [h1z, Nat.mul_one, Nat.mul_one, Nat.add_zero]⟩
  · cases hk

theorem run_len_sl (w : World) {T e : TypeId} {ty : TypeId} (hu : P.underlying T = some (.slice e)) (a : Option Addr) (n c : Nat) : (Builtin.len_ #[T] ty #[.slice a n c]).run P w = .ok (goInt n) w := by
  simp [Builtin.len_, run_underlying hu]
theorem run_len_str (w : World) {T ty : TypeId} (hu : P.underlying T = some .string) (s : ByteArray) : (Builtin.len_ #[T] ty #[.string s]).run P w = .ok (goInt s.size) w := by
  simp [Builtin.len_, run_underlying hu]
end
end Go.Proofs.YtommgpkeicpokaaGreatDoor.Abs
