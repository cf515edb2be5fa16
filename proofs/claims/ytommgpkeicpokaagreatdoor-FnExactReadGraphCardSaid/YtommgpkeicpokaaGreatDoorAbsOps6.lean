/- Maps, bytes, copy. -/
import Derived.Test.YtommgpkeicpokaaGreatDoorAbsOps5
namespace Go.Proofs.YtommgpkeicpokaaGreatDoor.Abs
open Go Go.RowKit
set_option linter.unusedVariables false
set_option linter.unusedSectionVars false
set_option linter.unusedSimpArgs false

section
variable {Rt : Type} {P : Program} {MX : Nat → Prop} {w : World} {ρ : Nat → Value} {hp : Heap} {b : Nat} {rs ws : List Nat} {K : AV → Nat → Heap → List Nat → List Nat → Option Rt} {r : Rt}

theorem isBytesConv_some {S T : TypeId} (h : isBytesConv P S T = true) : ∃ e, P.underlying S = some .string ∧ P.underlying T = some (.slice e) ∧ P.underlying e = some (.int .u8) := by
  unfold isBytesConv at h
  split at h
  · rename_i e hS hT
    split at h
    · rename_i he; exact ⟨e, hS, hT, he⟩
    · cases h
  · cases h

theorem Off.bytes (M : Nat → Prop) (w : World) (e : TypeId) (s : ByteArray) : Off M w (Lib.bytesWorld w e s) :=
  ⟨rfl, rfl, rfl, by rw [Lib.bytesWorld_size]; omega, fun b hb _ => Lib.bytesWorld_at_old w e s b hb⟩

/-- A new block in a world that is as it was for what was there. -/
theorem Step.fresh {w' : World} (H : HRel MX w ρ hp) {i : Nat} (hu : hp i = .unused) {h : HE} {v : Value} (hb : At v = fun b => (some w.heap.size : Option Nat) = some b) (off : ∀ M, Off M w w')
    (ok : ∀ (M : Nat → Prop) (ρ' : Nat → Value) (hp' : Heap), ρ' i = v → HEok M w' ρ' hp' i h) :
    Step MX w ρ hp w' (upd ρ i v) (upd hp i h) := by
  have old : ∀ j, hp j ≠ .unused → Old (ρ j) (upd ρ i v j) ∧ upd hp i h j ≠ .unused := by
    intro j hj
    have hne : j ≠ i := fun e => hj (e ▸ hu)
    rw [upd_ne _ _ hne, upd_ne _ _ hne]
    exact ⟨Old.refl _, hj⟩
  have lvi : ∀ j b, live (upd hp i h j) → At (upd ρ i v j) b → (j = i ∧ b = w.heap.size) ∨ (j ≠ i ∧ live (hp j) ∧ At (ρ j) b) := by
    intro j b hl hb'
    by_cases hji : j = i
    · subst hji; rw [upd_same, hb] at hb'; exact .inl ⟨rfl, by injection hb' with e; exact e.symm⟩
    · rw [upd_ne _ _ hji] at hl hb'; exact .inr ⟨hji, hl, hb'⟩
  refine Step.mk' (D := fun _ => False) H (off _) (fun _ _ hf => hf.elim) old ?_ ?_ ?_ ?_ (fun j cs hj => .inl ⟨upd_ne _ _ (fun e => by rw [e, hu] at hj; cases hj), fun _ _ h => h⟩)
  · rintro b hlt ⟨j, hl, hbj⟩
    rcases lvi j b hl hbj with ⟨_, e⟩ | ⟨_, hl', hb'⟩
    · omega
    · exact ⟨j, hl', hb'⟩
  · intro j
    by_cases hji : j = i
    · subst hji
      refine .inr ?_
      rw [upd_same]
      exact ok _ _ _ (upd_same _ _ _)
    · exact .inl ⟨upd_ne _ _ hji, upd_ne _ _ hji, fun _ _ _ hf => hf⟩
  · intro j j' b hl hl' hbj hbj'
    rcases lvi j b hl hbj with ⟨rfl, e⟩ | ⟨_, hl1, hb1⟩ <;> rcases lvi j' b hl' hbj' with ⟨rfl, e'⟩ | ⟨_, hl2, hb2⟩
    · rfl
    · have := H.lt hl2 hb2; omega
    · have := H.lt hl1 hb1; omega
    · exact H.sep j j' b hl1 hl2 hb1 hb2
  · intro j b hl hbj hmx
    rcases lvi j b hl hbj with ⟨_, e⟩ | ⟨_, hl', hb'⟩
    · have := H.mx b hmx; omega
    · exact H.ext j b hl' hb' hmx

theorem conv2E_sound (H : HRel MX w ρ hp) {S T : TypeId} {x : AV} {vx : Value} (hx : R (Mut MX hp ρ) w ρ hp x vx) (hk : (conv2E P S T x).go b hp rs ws K = some r) :
    ∃ x b' hp' rs' ws' v w' ρ', K x b' hp' rs' ws' = some r ∧ (convert S T vx).run P w = .ok v w' ∧ Step MX w ρ hp w' ρ' hp' ∧ R (Mut MX hp' ρ') w' ρ' hp' x v := by
  unfold conv2E at hk
  split at hk
  · rename_i hB
    obtain ⟨e, hS, hT, he⟩ := isBytesConv_some hB
    unfold bytesE at hk
    split at hk
    case h_2 => cases hk
    rename_i s
    rw [show vx = _ from hx]
    simp only [Eff.go] at hk
    split at hk
    case h_2 => cases hk
    rename_i hu
    have hlen : (numsOf s).length ≤ grownCap w s.size 0 e := by rw [numsOf_length]; exact grownCap_ge w s.size 0 e
    refine ⟨_, _, _, _, _, _, _, upd ρ b (.slice (some ⟨w.heap.size, 0, none⟩) s.size (grownCap w s.size 0 e)), hk, Lib.run_convert_string_bytes w S T e s hS hT he, Step.fresh H hu rfl (fun M => Off.bytes M w e s) ?_, ?_⟩
    · intro M ρ' hp' hv
      exact ⟨w.heap.size, _, by rw [hv, numsOf_length], hlen, BRow.of_bytes w e s (grownCap_ge w s.size 0 e)⟩
    · exact ⟨by rw [upd_same]; simp, by rw [upd_same]; rfl, _, _, _, rfl⟩
  · obtain ⟨x, v, rs', h1, h2, h3⟩ := convE_sound H hx hk
    exact ⟨x, b, hp, rs', ws, v, w, ρ, h1, h2, Step.refl H, h3⟩

theorem val1_enc : (t : Ty) → {z : Value} → {x : t.den} → t.val1 z = some x → z = t.enc1 x
  | .int k, .int k' n, x, h => by
    simp only [Ty.val1] at h
    split at h
    · rename_i e _
      subst e
      injection h with h
      subst h; rfl
    · cases h
  | .bool, .bool b, x, h => by
    simp only [Ty.val1] at h
    injection h with h
    subst h; rfl
  | .str, .string s, x, h => by
    simp only [Ty.val1] at h
    injection h with h
    subst h; rfl
  | .int k, .bool _, _, h => by cases h
  | .int k, .string _, _, h => by cases h
  | .int k, .float .., _, h => by cases h
  | .int k, .complex .., _, h => by cases h
  | .int k, .pointer .., _, h => by cases h
  | .int k, .slice .., _, h => by cases h
  | .int k, .map .., _, h => by cases h
  | .int k, .chan .., _, h => by cases h
  | .int k, .func .., _, h => by cases h
  | .int k, .nilFunc, _, h => by cases h
  | .int k, .iface .., _, h => by cases h
  | .int k, .nilIface, _, h => by cases h
  | .int k, .agg .., _, h => by cases h
  | .int k, .tuple .., _, h => by cases h

/-- A value of a kind that a map holds. -/
theorem flat_enc {M : Nat → Prop} {w : World} {ρ : Nat → Value} {hp : Heap} {t : Ty} {z : Value} {zx : t.den} (hz : t.val1 z = some zx) {x : AV} {vx : Value} {cs : List AV} {v : t.den} (hx : R M w ρ hp x vx) (hc : cellsOf x = some cs) (hna : (∀ a, x ≠ .v (.agg a)) ∧ ∀ a, x ≠ .agg a) (hd : t.dec cs = some v) : vx = t.enc1 v := by
  obtain ⟨vs, hvs, hr⟩ := cellsOf_sound hx hc
  have hcs : cs = [x] := by
    unfold cellsOf at hc
    split at hc
    · exact absurd rfl (hna.1 _)
    · cases hc
    · exact absurd rfl (hna.2 _)
    · cases hc
    · cases hc
    · injection hc with hc; exact hc.symm
  subst hcs
  obtain ⟨v0, q, rfl, hv0, hq⟩ := hr
  cases hq
  have hkr := dec_sound (M := M) (w := w) (ρ := ρ) (hp := hp) (vs := [vx]) t hd ⟨_, _, rfl, hx, rfl⟩
  cases t with
  | int k => have hkr : [vx] = [.int k v] := hkr; injection hkr
  | bool => have hkr : [vx] = [.bool v] := hkr; injection hkr
  | str => have hkr : [vx] = [.string v] := hkr; injection hkr
  | sl t => cases z <;> cases hz
  | pair a b => cases z <;> cases hz

theorem mapTy_some {T : TypeId} {m : MapTy} (h : mapTy P T = some m) : ∃ K i z, P.underlying T = some (.map K m.V) ∧ P.underlying K = some (.int .i64) ∧ P.info? m.V = some i ∧ i.zero = some z ∧ m.t.val1 z = some m.z := by
  unfold mapTy at h
  split at h
  case h_2 => cases h
  rename_i K V hT
  split at h
  case h_2 => cases h
  rename_i t z hK ht hz
  split at h
  case h_2 => cases h
  rename_i z0 hz0
  injection h with h
  subst h
  cases hi : P.info? V with
  | none => rw [hi] at hz; cases hz
  | some i =>
    rw [hi] at hz
    exact ⟨K, i, z, hT, hK, rfl, hz, hz0⟩

theorem makeMapE_sound (H : HRel MX w ρ hp) {T : TypeId} (hk : (makeMapE P T).go b hp rs ws K = some r) :
    ∃ x b' hp' rs' ws' v w' ρ', K x b' hp' rs' ws' = some r ∧ (Instr.makeMap T none).run P w = .ok v w' ∧ Step MX w ρ hp w' ρ' hp' ∧ R (Mut MX hp' ρ') w' ρ' hp' x v := by
  unfold makeMapE at hk
  split at hk
  case h_2 => cases hk
  rename_i m hm
  simp only [Eff.go] at hk
  split at hk
  case h_2 => cases hk
  rename_i hu
  refine ⟨_, _, _, _, _, .map (some w.heap.size), w.alloc (.map #[] 0), upd ρ b (.map (some w.heap.size)), hk, by simp [Instr.makeMap, newObj, Sem.run], Step.fresh H hu rfl (fun M => Off.alloc M w _) ?_, ?_⟩
  · intro M ρ' hp' hv
    exact ⟨w.heap.size, hv, MapI.made (heap_alloc_new w _)⟩
  · exact ⟨by rw [upd_same]; simp, by rw [upd_same], _, rfl⟩

theorem mapPutE_sound (H : HRel MX w ρ hp) {T : TypeId} {m k x : AV} {vm vk vx : Value} (hm : R (Mut MX hp ρ) w ρ hp m vm) (hkk : R (Mut MX hp ρ) w ρ hp k vk) (hx : R (Mut MX hp ρ) w ρ hp x vx) (hk : (mapPutE P T m k x).go b hp rs ws K = some r) :
    ∃ b' hp' rs' ws' w' ρ', K (.v undef) b' hp' rs' ws' = some r ∧ (Instr.mapUpdate T vm vk vx).run P w = .ok () w' ∧ Step MX w ρ hp w' ρ' hp' := by
  unfold mapPutE at hk
  split at hk
  case h_2 => cases hk
  rename_i mt i n cs hmt hcs
  obtain ⟨KT, inf, z, hT, hK, hi, hz, hz0⟩ := mapTy_some hmt
  obtain ⟨hne, rfl, b0, hv⟩ := hm
  rw [show vk = _ from hkk]
  simp only [Eff.go] at hk
  have hok := H.ok i
  split at hk
  case h_2 => cases hk
  rename_i t f hmp
  rw [hmp] at hok
  obtain ⟨b1, g1, g2⟩ := hok
  rw [hv] at g1
  injection g1 with g1
  injection g1 with g1
  subst g1
  split at hk
  case h_2 => cases hk
  rename_i htt v _ hall hdec
  subst htt
  split at hk
  · cases hk
  · cases hk
  rename_i hna1 hna2
  simp only [Eff.go] at hk
  have hvx := flat_enc hz0 hx hcs ⟨fun a e => hna1 a e, fun a e => hna2 a e⟩ hdec
  obtain ⟨w', hrun, hmi, hgr, hsz⟩ := g2.put (P := P) hT hK n v
  refine ⟨_, _, _, _, w', ρ, hk, by rw [hv, hvx]; exact hrun, Step.write H (fun _ => by rw [hmp]; trivial) (by simp) (fun cs h => by rw [hmp] at h; cases h) ?_ ?_⟩
  · exact (Off.grown hgr).mono fun b _ hb => ⟨by rw [hmp]; trivial, by rw [hv]; exact hb⟩
  · intro hp' hp'u M hM hMl _
    exact ⟨b0, hv, hmi⟩

theorem lookupE_sound (H : HRel MX w ρ hp) {T : TypeId} {m k : AV} {vm vk : Value} (hm : R (Mut MX hp ρ) w ρ hp m vm) (hkk : R (Mut MX hp ρ) w ρ hp k vk) (hk : (lookupE P T m k).go b hp rs ws K = some r) :
    ∃ x v rs', K x b hp rs' ws = some r ∧ (Instr.lookup T vm vk false).run P w = .ok v w ∧ R (Mut MX hp ρ) w ρ hp x v := by
  unfold lookupE at hk
  split at hk
  case h_2 => cases hk
  rename_i mt i n hmt
  obtain ⟨KT, inf, z, hT, hK, hi, hz, hz0⟩ := mapTy_some hmt
  obtain ⟨hne, rfl, b0, hv⟩ := hm
  rw [show vk = _ from hkk]
  simp only [Eff.go] at hk
  have hok := H.ok i
  split at hk
  case h_2 => cases hk
  rename_i t f hmp
  rw [hmp] at hok
  obtain ⟨b1, g1, g2⟩ := hok
  rw [hv] at g1
  injection g1 with g1
  injection g1 with g1
  subst g1
  split at hk
  case h_2 => cases hk
  rename_i htt _
  subst htt
  split at hk
  case h_2 => cases hk
  rename_i c hc
  have hzv : (zeroValue mt.V).run P w = .ok z w := by simp [zeroValue, typeInfo, hi, hz]
  have hze := val1_enc mt.t hz0
  have hlook := g2.look (P := P) hT hK hzv n
  refine ⟨_, _, _, hk, by rw [hv]; exact hlook, ?_⟩
  have he : ((f n).map mt.t.enc1).getD z = mt.t.enc1 ((f n).getD mt.z) := by
    rw [hze]
    cases f n <;> rfl
  rw [he]
  have hcells : ∀ {y : mt.t.den}, mt.t.cells y = [c] → R (Mut MX hp ρ) w ρ hp c (mt.t.enc1 y) := by
    intro y hy
    obtain ⟨V, t, zz⟩ := mt
    cases t with
    | int k => have hy : [AV.v (.int k y)] = [c] := hy; injection hy with hy; subst hy; rfl
    | bool => have hy : [AV.bs false y] = [c] := hy; injection hy with hy; subst hy; rfl
    | str => have hy : [AV.v (.string y)] = [c] := hy; injection hy with hy; subst hy; rfl
    | sl t => cases z <;> cases hz0
    | pair a b => cases z <;> cases hz0
  exact hcells hc

theorem copyE_sound (H : HRel MX w ρ hp) {T T2 ty : TypeId} {d x : AV} {vd vx : Value} (hd : R (Mut MX hp ρ) w ρ hp d vd) (hx : R (Mut MX hp ρ) w ρ hp x vx) (hk : (copyE P T d x).go b hp rs ws K = some r) :
    ∃ x b' hp' rs' ws' v w' ρ', K x b' hp' rs' ws' = some r ∧ (Builtin.copy_ #[T, T2] ty #[vd, vx]).run P w = .ok v w' ∧ Step MX w ρ hp w' ρ' hp' ∧ R (Mut MX hp' ρ') w' ρ' hp' x v := by
  unfold copyE at hk
  split at hk
  case h_2 => cases hk
  rename_i e i lo s hT
  split at hk
  case h_2 => cases hk
  rename_i n hn
  split at hk
  case h_2 => cases hk
  rename_i hn1
  have hn1 := Nat.eq_of_beq_eq_true hn1
  subst hn1
  obtain ⟨hne, g, n0, c, c', A, hv, hlo, rfl, hA, _⟩ := hd
  rw [show vx = _ from hx]
  simp only [Eff.go] at hk
  have hok := H.ok i
  split at hk
  case h_2 => cases hk
  rename_i l hi
  rw [hi] at hok
  obtain ⟨g', c1, h1, hle, h3⟩ := hok
  rw [hv] at h1
  injection h1 with e1 e2 e3
  injection e1 with e1
  injection e1 with e1
  subst e1 e2
  simp only [Eff.go] at hk
  have hdat : List.take (Nat.min s.size (l.length - lo)) (List.map (fun b : UInt8 => Value.int .u8 b.toNat) s.data.toList) = ((numsOf s).take (l.length - lo)).map (Value.int .u8) := by
    have hl : (List.map (fun b : UInt8 => Value.int .u8 b.toNat) s.data.toList).length = s.size := by simp
    rw [List.map_take, numsOf, List.map_map]
    show List.take (min s.size (l.length - lo)) _ = List.take (l.length - lo) (List.map (fun b : UInt8 => Value.int .u8 b.toNat) s.data.toList)
    rw [Nat.min_comm, ← hl, ← List.take_eq_take_min]
  have hyl : ((numsOf s).take (l.length - lo)).length = min s.size (l.length - lo) := by rw [List.length_take, numsOf_length]; omega
  obtain ⟨W', r1, r2, r3, r4, r5, r6, r7⟩ := run_store_bytes (P := P) ((numsOf s).take (l.length - lo)) h3 lo 0 (by rw [hyl]; omega)
  rw [Nat.add_zero] at r2
  have hrun : (Builtin.copy_ #[T, T2] ty #[.slice (some A) (l.length - lo) c', .string s]).run P w = .ok (goInt ((min s.size (l.length - lo) : Nat) : Int)) W' := by
    by_cases hz : lo < l.length
    · rw [hA hz]
      have r1' := r1
      rw [List.map_take] at r1'
      simp only [Builtin.copy_]
      simp [run_underlying hT, Builtin.lenOf, run_sizeOf hn, Builtin.firstCells, hdat, r1', Result.andThen]
    · have h0 : l.length - lo = 0 := by omega
      have hW : W' = w := by
        have r1' := r1
        rw [h0] at r1'
        simp [storeCells] at r1'
        exact r1'.symm
      subst hW
      simp [Builtin.copy_, run_underlying hT, Builtin.lenOf, run_sizeOf hn, Builtin.firstCells, h0, storeCells]
  refine ⟨_, _, _, _, _, _, W', ρ, hk, hrun, Step.write H (fun _ => by rw [hi]; trivial) (by simp) (fun cs h => by rw [hi] at h; cases h) ?_ ?_, rfl⟩
  · exact ⟨r4, r5, r6, by rw [r3]; exact Nat.le_refl _, fun b _ hb => r7 b fun e => hb ⟨by rw [hi]; trivial, by rw [hv, e]; rfl⟩⟩
  · intro hp' hp'u M hM hMl _
    have hcp : l.take lo ++ ((numsOf s).take (l.length - lo) ++ l.drop (lo + ((numsOf s).take (l.length - lo)).length)) = cpy l lo s := by rw [hyl]; rfl
    rw [hcp] at r2
    have hcl : (cpy l lo s).length = l.length := by
      rw [← hcp]
      simp only [List.length_append, List.length_drop, hyl, List.length_take]
      omega
    exact ⟨g, c, by rw [hcl]; exact hv, by rw [hcl, e3]; exact hle, by rw [e3]; exact r2⟩
end
end Go.Proofs.YtommgpkeicpokaaGreatDoor.Abs
