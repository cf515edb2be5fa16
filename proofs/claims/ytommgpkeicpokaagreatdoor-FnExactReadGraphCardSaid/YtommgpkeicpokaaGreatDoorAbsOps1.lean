/- Operations that leave memory as it is. -/
import Derived.Test.YtommgpkeicpokaaGreatDoorAbsTre
import Derived.WalkKit
namespace Go.Proofs.YtommgpkeicpokaaGreatDoor.Abs
open Go Go.RowKit
set_option linter.unusedVariables false
set_option linter.unusedSectionVars false
set_option linter.unusedSimpArgs false

theorem add_at' (b o n : Nat) : (⟨b, o, none⟩ : Addr).add n = ⟨b, o + n, none⟩ := by
  unfold Addr.add
  split
  · rename_i h; subst h; rfl
  · rfl

section
variable {Rt : Type} {P : Program} {M : Nat → Prop} {w : World} {ρ : Nat → Value} {hp : Heap} {b : Nat} {rs ws : List Nat} {K : AV → Nat → Heap → List Nat → List Nat → Option Rt} {r : Rt}

theorem run_isAgg {T : TypeId} {t : Bool} (h : isAgg P T = some t) : (Go.isAgg T).run P w = .ok t w := by
  unfold isAgg at h
  cases hu : P.underlying T with
  | none => rw [hu] at h; cases h
  | some d =>
    rw [hu] at h
    unfold Go.isAgg
    rw [Sem.run_bind, run_underlying hu w]
    cases d <;> simp_all

theorem run_sizeOf {T n : Nat} (h : sizeAt P T = some n) : (Go.sizeOf T).run P w = .ok n w := by
  unfold sizeAt at h
  cases hi : P.info? T with
  | none => rw [hi] at h; cases h
  | some i =>
    rw [hi] at h
    have : i.size = n := by simpa using h
    subst this
    simp [Go.sizeOf, typeInfo, hi]

theorem shut_sound {agg : Option Bool} {cs : List AV} {vs : List Value} (h : Rs M w ρ hp cs vs) (hk : (shut agg cs).go b hp rs ws K = some r) :
    (agg = some true ∧ K (.agg cs) b hp rs ws = some r) ∨ (agg = some false ∧ ∃ c v, cs = [c] ∧ vs = [v] ∧ R M w ρ hp c v ∧ K c b hp rs ws = some r) := by
  match agg, cs, hk with
  | some true, cs, hk => exact .inl ⟨rfl, hk⟩
  | some false, [c], hk =>
    obtain ⟨v, q, rfl, hr, hq⟩ := h
    cases hq
    exact .inr ⟨rfl, c, v, rfl, rfl, hr, hk⟩
  | some false, [], hk => cases hk
  | some false, _ :: _ :: _, hk => cases hk
  | none, _, hk => cases hk

/-- Reading a variable out of cells. -/
theorem finLoad_sound {T : TypeId} {cs : List AV} {vs : List Value} {g o off : Nat} (h : Rs M w ρ hp cs vs) (hc : ∀ (j : Nat) (v : Value), vs[j]? = some v → w.cell? ⟨g, o + j, none⟩ = some v)
    (hk : (finLoad P T cs off).go b hp rs ws K = some r) : ∃ x v, K x b hp rs ws = some r ∧ (loadVar T ⟨g, o + off, none⟩).run P w = .ok v w ∧ R M w ρ hp x v := by
  unfold finLoad at hk
  split at hk
  · cases hk
  rename_i n hn
  split at hk
  case h_2 => cases hk
  rename_i hle
  have hle : off + n ≤ cs.length := Nat.le_of_ble_eq_true hle
  have hl := Rs_len h
  have h' := Rs_take (Rs_drop h off) n
  have hc' : ∀ (j : Nat) (v : Value), ((vs.drop off).take n)[j]? = some v → w.cell? ((⟨g, o + off, none⟩ : Addr).add j) = some v := by
    intro j v hv
    rw [add_at', Nat.add_assoc]
    rw [List.getElem?_take] at hv
    split at hv
    · exact hc _ _ (by simpa using hv)
    · cases hv
  rcases shut_sound h' hk with ⟨ha, hK⟩ | ⟨ha, c, v, e1, e2, hr, hK⟩
  · refine ⟨_, .agg ((vs.drop off).take n).toArray, hK, ?_, _, rfl, h'⟩
    have hlen : ((vs.drop off).take n).length = n := by simp; omega
    have := run_loadCells_list (P := P) w ⟨g, o + off, none⟩ _ hc'
    rw [hlen] at this
    simp [loadVar, run_isAgg ha, run_sizeOf hn, this]
  · refine ⟨c, v, hK, ?_, hr⟩
    have := hc' 0 v (by rw [e2]; rfl)
    rw [add_at', Nat.add_zero] at this
    simp [loadVar, run_isAgg ha, this]

mutual
theorem R_cells' {t : Ty} {x : t.den} {vs : List Value} (hx : t.KR M w x vs) : Rs M w ρ hp (t.cells x) vs := by
  cases t with
  | int k => rw [show vs = [.int k x] from hx]; exact ⟨_, _, rfl, rfl, rfl⟩
  | bool => rw [show vs = [.bool x] from hx]; exact ⟨_, _, rfl, rfl, rfl⟩
  | str => rw [show vs = [.string x] from hx]; exact ⟨_, _, rfl, rfl, rfl⟩
  | sl t =>
    obtain ⟨A, c, rfl, hl, hr⟩ := hx
    exact ⟨_, _, rfl, ⟨A, c, rfl, hl, hr⟩, rfl⟩
  | pair a b =>
    obtain ⟨c0, c1, rfl, h0, h1⟩ := hx
    exact Rs_append (R_cells' h0) (R_cells' h1)
end

/-- The element of a row that is one's own, its cells in memory. -/
theorem own_elem {e : TypeId} {t : Ty} {l : List t.den} {v : Value} {xs : List Value} (h : w.ownsRow 0 e t.sz v l.length xs) (he : Els (t.KR M w) l xs) {g n c : Nat} (hv : v = .slice (some ⟨g, 0, none⟩) n c) {j : Nat} (hj : j < n) :
    ∃ vs, t.KR M w (l.getD j t.zero) vs ∧ j < l.length ∧ ∀ (q : Nat) (u : Value), vs[q]? = some u → w.cell? ⟨g, j * t.sz + q, none⟩ = some u := by
  rcases h.2 with ⟨h2, _⟩ | ⟨g', cap, cur, h2, _, hh, hle, _, hcs, htake⟩
  · rw [hv] at h2; cases h2
  · rw [hv] at h2
    injection h2 with e1 e2 e3
    injection e1 with e1
    injection e1 with e1
    subst e1 e2
    obtain ⟨vs, h1, h2, h3⟩ := Els.get (fun _ _ hk => KR_len t hk) he j (l[j]) (List.getElem?_eq_getElem hj)
    refine ⟨vs, by rw [List.getD_eq_getElem?_getD, List.getElem?_eq_getElem hj]; exact h1, hj, fun q u hq => ?_⟩
    have hq' : q < t.sz := by
      have := (List.getElem?_eq_some_iff.1 hq).1
      omega
    have hxs := h3 q hq'
    rw [hq, ← htake, List.getElem?_take] at hxs
    split at hxs
    · rw [cell_of_row w g _ cur e (0, 0) hh]
      simpa using hxs
    · cases hxs

theorem frz_elem {t : Ty} {l : List t.den} {A : Option Addr} (h : RowR M w (t.KR M w) t.sz A l) {g : Nat} (hv : A = some ⟨g, 0, none⟩) {j : Nat} (hj : j < l.length) :
    ∃ vs, t.KR M w (l.getD j t.zero) vs ∧ ∀ (q : Nat) (u : Value), vs[q]? = some u → w.cell? ⟨g, j * t.sz + q, none⟩ = some u := by
  obtain ⟨b, o, cs, hA, _, hl, hk, hc⟩ := h j l[j] (List.getElem?_eq_getElem hj)
  rw [hv] at hA
  injection hA with hA
  injection hA with e1 e2
  subst e1 e2
  refine ⟨cs, by rw [List.getD_eq_getElem?_getD, List.getElem?_eq_getElem hj]; exact hk, fun q u hq => ?_⟩
  have := hc q u hq
  rwa [Nat.zero_add] at this

theorem loadB_sound {MX : Nat → Prop} (H : HRel MX w ρ hp) {T : TypeId} {a : AV} {y : Value} (ha : R (Mut MX hp ρ) w ρ hp a y) (hk : (loadB P T a).go b hp rs ws K = some r) :
    ∃ x v rs', K x b hp rs' ws = some r ∧ (Instr.loadAt T y).run P w = .ok v w ∧ R (Mut MX hp ρ) w ρ hp x v := by
  unfold loadB at hk
  split at hk
  case h_3 => cases hk
  · rename_i i off
    obtain ⟨hu, g, o, he, rfl⟩ := ha
    simp only [loadE, Eff.go] at hk
    have hok := H.ok i
    split at hk
    · rename_i cs hi
      rw [hi] at hok
      obtain ⟨g', o', C, e, vs, h1, h2, h3, h4⟩ := hok
      rw [he] at h1
      injection h1 with h1
      injection h1 with h1
      injection h1 with e1 e2
      subst e1 e2
      obtain ⟨x, v, hK, hr, hR⟩ := finLoad_sound (g := g) (o := o) h3 (fun j v hv => by rw [cell_of_row w g _ C e (0, 0) h2]; exact h4 j v hv) hk
      exact ⟨x, v, _, hK, by simpa [Instr.loadAt, Instr.sureAddr] using hr, hR⟩
    · cases hk
  · rename_i t x off
    obtain ⟨g, o, cs, rfl, hb, hkr, hc⟩ := ha
    simp only [loadE] at hk
    obtain ⟨x, v, hK, hr, hR⟩ := finLoad_sound (ρ := ρ) (hp := hp) (g := g) (o := o) (R_cells' hkr) hc hk
    exact ⟨x, v, _, hK, by simpa [Instr.loadAt, Instr.sureAddr] using hr, hR⟩

theorem loadE_sound {MX : Nat → Prop} (H : HRel MX w ρ hp) {T : TypeId} {a : AV} {y : Value} (ha : R (Mut MX hp ρ) w ρ hp a y) (hk : (loadE P T a).go b hp rs ws K = some r) :
    ∃ x b' hp' rs' ws' v ρ', K x b' hp' rs' ws' = some r ∧ (Instr.loadAt T y).run P w = .ok v w ∧ Step MX w ρ hp w ρ' hp' ∧ R (Mut MX hp' ρ') w ρ' hp' x v := by
  have hB : (loadB P T a).go b hp rs ws K = some r → ∃ x b' hp' rs' ws' v ρ', K x b' hp' rs' ws' = some r ∧ (Instr.loadAt T y).run P w = .ok v w ∧ Step MX w ρ hp w ρ' hp' ∧ R (Mut MX hp' ρ') w ρ' hp' x v := fun hk => by
    obtain ⟨x, v, rs', h1, h2, h3⟩ := loadB_sound H ha hk
    exact ⟨x, b, hp, rs', ws, v, ρ, h1, h2, Step.refl H, h3⟩
  cases a with
  | box i off => exact hB hk
  | elt t x off => exact hB hk
  | oel i sz j off =>
    unfold loadE at hk
    obtain ⟨hu, g, n, c, he, hj, rfl⟩ := ha
    simp only [Eff.go] at hk
    have hok := H.ok i
    split at hk
    · rename_i e t l hi
      split at hk
      case h_2 => cases hk
      rename_i hsz
      have hsz := Nat.eq_of_beq_eq_true hsz
      subst hsz
      rw [hi] at hok
      obtain ⟨xs, h1, h2⟩ := hok
      rw [hd_own h1] at he
      obtain ⟨vs, hkr, _, hc⟩ := own_elem h1 h2 he hj
      obtain ⟨x, v, hK, hr, hR⟩ := finLoad_sound (ρ := ρ) (hp := hp) (g := g) (o := j * t.sz) (R_cells' hkr) hc hk
      exact ⟨x, b, hp, _, _, v, ρ, hK, by simpa [Instr.loadAt, Instr.sureAddr] using hr, Step.refl H, hR⟩
    · rename_i t l hi
      split at hk
      case h_2 => cases hk
      rename_i hsz
      have hsz := Nat.eq_of_beq_eq_true hsz
      subst hsz
      rw [hi] at hok
      obtain ⟨A, c', h1, h2, h3⟩ := hok
      rw [hd_slice h1] at he
      rw [he] at h1
      injection h1 with e1 e2 e3
      subst e2
      obtain ⟨vs, hkr, hc⟩ := frz_elem h3 e1.symm hj
      obtain ⟨x, v, hK, hr, hR⟩ := finLoad_sound (ρ := ρ) (hp := hp) (g := g) (o := j * t.sz) (R_cells' hkr) hc hk
      exact ⟨x, b, hp, _, _, v, ρ, hK, by simpa [Instr.loadAt, Instr.sureAddr] using hr, Step.refl H, hR⟩
    · rename_i l hi
      split at hk
      case h_2 => cases hk
      rename_i hsz
      have hsz := Nat.eq_of_beq_eq_true hsz
      subst hsz
      rw [hi] at hok
      obtain ⟨g', c', h1, h2, h3⟩ := hok
      rw [hd_slice h1] at he
      rw [he] at h1
      injection h1 with e1 e2 e3
      injection e1 with e1
      injection e1 with e1
      subst e1 e2
      obtain ⟨x, v, hK, hr, hR⟩ := finLoad_sound (M := Mut MX hp ρ) (ρ := ρ) (hp := hp) (g := g) (o := j * 1) (vs := [.int .u8 (l.getD j 0)]) (show Rs _ _ _ _ [.v (.int .u8 (l.getD j 0))] _ from ⟨_, _, rfl, rfl, rfl⟩) (fun q v hq => by
        cases q with
        | zero =>
          simp at hq
          subst hq
          rw [Nat.mul_one, Nat.add_zero, h3.cell hj]
          simp [List.getD_eq_getElem?_getD]
        | succ q => simp at hq) hk
      exact ⟨x, b, hp, _, _, v, ρ, hK, by simpa [Instr.loadAt, Instr.sureAddr] using hr, Step.refl H, hR⟩
    · rename_i o fr e be t l cur hi
      rw [hi] at hok
      obtain ⟨v0, ss, us, xs, ht⟩ := hok
      split at hk
      case h_2 => cases hk
      rename_i nn hsz hnn
      have hsz := Nat.eq_of_beq_eq_true hsz
      subst hsz
      have hv0 : v0 = .slice (some ⟨g, 0, none⟩) n c := by rw [ht.hd_] at he; exact he
      obtain ⟨hnl, s, u0, vs, hs, hus, hkt, hc⟩ := ht.elem hv0 hj
      obtain ⟨c0, rfl, hfl⟩ := KT_flat (ρ := ρ) (hp := hp) t hkt
      split at hk
      · obtain ⟨x, v, hK, hr, hR⟩ := finLoad_sound (ρ := ρ) (hp := hp) (g := g) (o := j * t.sz) hfl (fun q u hq => hc q u (by rw [List.getElem?_append_left (List.getElem?_eq_some_iff.1 hq).1]; exact hq)) hk
        exact ⟨x, b, hp, _, _, v, ρ, hK, by simpa [Instr.loadAt, Instr.sureAddr] using hr, Step.refl H, hR⟩
      · split at hk
        case h_2 => cases hk
        obtain ⟨hfr, hk⟩ := needFr_go hk
        simp only [Eff.go] at hk
        split at hk
        case h_2 => cases hk
        rename_i hub
        have hst := Step.takeOut H hi ht hub hfr hs
        have hbi : b ≠ i := fun e' => by rw [e', hi] at hub; cases hub
        rw [upd_ne _ _ (fun e' => hbi e'.symm), hi] at hk
        simp only [setCur] at hk
        obtain ⟨A, n1, c1, hsl⟩ := ht.sl s (List.mem_of_getElem? hs)
        obtain ⟨x, v, hK, hr, hR⟩ := finLoad_sound (g := g) (o := j * t.sz) (Rs_append (hst.Rs hfl) (show Rs _ _ _ _ [lastCell o b] [u0] from ⟨u0, [], rfl, lastCell_R (by rw [upd_ne _ _ hbi, upd_same]; simp) (by rw [upd_ne _ _ hbi, upd_same]) ⟨A, n1, c1, hsl⟩ (ht.vw j s u0 hfr hs hus), rfl⟩)) hc hk
        exact ⟨x, _, _, _, _, v, _, hK, by simpa [Instr.loadAt, Instr.sureAddr] using hr, hst, hR⟩
    · cases hk
  | _ => exact absurd hk (by simp [loadE, Eff.go])

theorem fieldOff_some {S f o : Nat} (h : fieldOff P S f = some o) : ∃ (fs : Array Field) (fd : Field) (n : Nat), P.underlying S = some (.struct fs) ∧ fs[f]? = some fd ∧ sizeAt P fd.type = some (n + 1) ∧ fd.offset = o := by
  unfold fieldOff at h
  split at h
  · rename_i fs hu
    split at h
    · rename_i fd hf
      split at h
      · rename_i n hn
        exact ⟨fs, fd, n, hu, hf, hn, by simpa using h⟩
      · cases h
    · cases h
  · cases h

theorem run_fieldAt {S f o : Nat} (h : fieldOff P S f = some o) (g p : Nat) : (Instr.fieldAt S (.pointer (some ⟨g, p, none⟩)) f).run P w = .ok (.pointer (some ⟨g, p + o, none⟩)) w := by
  obtain ⟨fs, fd, n, hu, hf, hs, rfl⟩ := fieldOff_some h
  simp [Instr.fieldAt, run_underlying hu, hf, Instr.sureAddr, fieldPlace, run_sizeOf hs, add_at']

theorem fieldAddrE_sound {S f : Nat} {a : AV} {y : Value} (ha : R M w ρ hp a y) (hk : (fieldAddrE P S a f).go b hp rs ws K = some r) :
    ∃ x v, K x b hp rs ws = some r ∧ (Instr.fieldAt S y f).run P w = .ok v w ∧ R M w ρ hp x v := by
  unfold fieldAddrE at hk
  split at hk
  case h_2 => cases hk
  rename_i o ho
  split at hk
  · obtain ⟨hu, g, p, he, rfl⟩ := ha
    exact ⟨_, _, hk, run_fieldAt ho _ _, hu, g, p, he, by rw [Nat.add_assoc]⟩
  · obtain ⟨g, p, cs, rfl, h⟩ := ha
    exact ⟨_, _, hk, run_fieldAt ho _ _, g, p, cs, by rw [Nat.add_assoc], h⟩
  · obtain ⟨hu, g, n, c, he, hj, rfl⟩ := ha
    exact ⟨_, _, hk, run_fieldAt ho _ _, hu, g, n, c, he, hj, by rw [Nat.add_assoc]⟩
  · cases hk

/-- The cells of a value that is told by its cells. -/
theorem cellsOf_sound {a : AV} {y : Value} {cs : List AV} (ha : R M w ρ hp a y) (hc : cellsOf a = some cs) : ∃ vs, y.cells.toList = vs ∧ Rs M w ρ hp cs vs := by
  refine ⟨_, rfl, ?_⟩
  unfold cellsOf at hc
  split at hc
  · cases hc
    rw [show y = _ from ha]
    exact Rs_vals _
  · cases hc
  · cases hc
    obtain ⟨vs, rfl, h⟩ := ha
    simpa [Value.cells] using h
  · cases hc
  · cases hc
  · rename_i h1 h2 h3 h4 h5
    cases hc
    have : y.cells = #[y] := by
      cases a with
      | v x =>
        rw [show y = x from ha]
        cases x with
        | agg cs => exact absurd rfl (h1 cs)
        | _ => rfl
      | bs ng b => rw [show y = _ from ha]; rfl
      | bp ng p d => rw [show y = _ from ha]; rfl
      | ifc n => rcases ha with ⟨_, rfl⟩ | ⟨_, t, x, rfl⟩ <;> rfl
      | con t l => obtain ⟨A, c, rfl, _⟩ := ha; rfl
      | own i =>
        obtain ⟨_, _, A, n, c, rfl⟩ := ha
        rfl
      | box i off => obtain ⟨_, g, o, _, rfl⟩ := ha; rfl
      | elt t x off => obtain ⟨g, o, cs, rfl, _⟩ := ha; rfl
      | oel i sz j off => obtain ⟨_, g, n, c, _, _, rfl⟩ := ha; rfl
      | mp i => obtain ⟨_, _, b', rfl⟩ := ha; rfl
      | sub i lo => obtain ⟨_, g, n, c, c', A, _, _, rfl, _⟩ := ha; rfl
      | fn f n cs => obtain ⟨vs, rfl, _⟩ := ha; rfl
      | agg cs => exact absurd rfl (h3 cs)
      | tup cs => exact absurd rfl (h4 cs)
      | dead => exact absurd rfl h5
    rw [this]
    exact ⟨y, [], rfl, ha, rfl⟩
end
end Go.Proofs.YtommgpkeicpokaaGreatDoor.Abs
