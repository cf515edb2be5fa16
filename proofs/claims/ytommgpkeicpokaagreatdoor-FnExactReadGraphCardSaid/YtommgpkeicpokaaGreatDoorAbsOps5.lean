/- Make, slices, append, conversions. -/
import Derived.Test.YtommgpkeicpokaaGreatDoorAbsOps4
import Derived.Lib.FrozenHead
namespace Go.Proofs.YtommgpkeicpokaaGreatDoor.Abs
open Go Go.RowKit
set_option linter.unusedVariables false
set_option linter.unusedSectionVars false
set_option linter.unusedSimpArgs false

section
variable {Rt : Type} {P : Program} {MX : Nat → Prop} {w : World} {ρ : Nat → Value} {hp : Heap} {b : Nat} {rs ws : List Nat} {K : AV → Nat → Heap → List Nat → List Nat → Option Rt} {r : Rt}

theorem Els_replicate {M : Nat → Prop} {t : Ty} {z : t.den} {zs : List Value} (h : t.KR M w z zs) : (n : Nat) → Els (t.KR M w) (List.replicate n z) (replV n zs)
  | 0 => rfl
  | n + 1 => by
    rw [List.replicate_succ', replV]
    exact Els.append (Els_replicate h n) ⟨zs, [], by simp, h, rfl⟩

theorem Els_repl {α : Type} {K : α → List Value → Prop} {z : α} {zs : List Value} (h : K z zs) : (n : Nat) → Els K (List.replicate n z) (replV n zs)
  | 0 => rfl
  | n + 1 => by
    rw [List.replicate_succ', replV]
    exact Els.append (Els_repl h n) ⟨zs, [], by simp, h, rfl⟩

/-- A new row whose elements end in rows. -/
theorem nw_tre (H : HRel MX w ρ hp) {e be : TypeId} {t : Ty} {d : t.den} {n : Nat} {zs : List Value} {cap : Nat} {cur : Array Value} (hn : t.nest = true) (hz : KT (Mut MX hp ρ) w t d (.slice none 0 0) zs) (hd : t.get d = []) (hle : n ≤ cap) (hmax : cap ≤ maxLen) (hcur : cur.size = cap * t.sz) (htk : cur.toList.take (n * t.sz) = replV n zs)
    (hk : (Eff.nw (.tre 0 none e be t (List.replicate n d) none) fun i => .ret (.own i)).go b hp rs ws K = some r) :
    ∃ x b' hp' rs' ws' ρ', K x b' hp' rs' ws' = some r ∧ Step MX w ρ hp (w.alloc (.cells cur e)) ρ' hp' ∧ R (Mut MX hp' ρ') (w.alloc (.cells cur e)) ρ' hp' x (.slice (some ⟨w.heap.size, 0, none⟩) n cap) := by
  simp only [Eff.go] at hk
  split at hk
  case h_2 => cases hk
  rename_i hu
  have hat : At (.tuple (.slice (some ⟨w.heap.size, 0, none⟩) n cap :: List.replicate n (.slice none 0 0)).toArray) = fun b => (some w.heap.size : Option Nat) = some b := by
    funext x
    apply propext
    rw [at_tuple]
    constructor
    · rintro ⟨j, s, hj, hs⟩
      cases j with
      | zero =>
        have : Value.slice (some ⟨w.heap.size, 0, none⟩) n cap = s := by simpa using hj
        subst this
        exact hs
      | succ j =>
        rw [List.getElem?_cons_succ, List.getElem?_replicate] at hj
        split at hj
        · injection hj with hj
          subst hj
          cases hs
        · cases hj
    · intro h
      exact ⟨0, _, rfl, h⟩
  refine ⟨_, _, _, _, _, upd ρ b (.tuple (.slice (some ⟨w.heap.size, 0, none⟩) n cap :: List.replicate n (.slice none 0 0)).toArray), hk, Step.alloc H hu hat ?_, ?_⟩
  · intro M ρ' hp' old hv hM
    have hz' : KT M (w.alloc (.cells cur e)) t d (.slice none 0 0) zs := KT_step (D := fun _ => False) (Off.alloc _ _ _) (fun _ _ h => h.elim) hM t hz
    have hzip : (List.replicate n d).zip (List.replicate n (Value.slice none 0 0)) = List.replicate n (d, .slice none 0 0) := by
      rw [List.zip_replicate, Nat.min_self]
    refine ⟨_, List.replicate n (.slice none 0 0), List.replicate n (.slice none 0 0), replV n zs, hn, .inl rfl, .inl hv, by simp, by simp, ?_, ?_, fun j x s _ hx hs _ => ?_, fun j s hf => absurd hf (Nat.not_lt_zero _), fun j s u _ hs hu => (by rw [hs] at hu; injection hu with hu; exact hu.symm), fun j k s s' x hj hk' hs hs' => ?_, fun s hs => ?_, fun j q hc => by cases hc⟩
    · rw [List.length_replicate]
      have hl : (replV n zs).length = n * t.sz := by
        have h1 := Els.len (fun _ _ hk => KT_len t hk) (Els_repl (K := fun (p : t.den × Value) cs => KT M (w.alloc (.cells cur e)) t p.1 p.2 cs) (z := (d, .slice none 0 0)) hz' n)
        rw [List.length_replicate] at h1
        exact h1
      exact ⟨hl, .inr ⟨w.heap.size, cap, cur, rfl, Nat.zero_le _, heap_alloc_new w _, hle, hmax, hcur, htk⟩⟩
    · rw [hzip]
      exact Els_repl (K := fun (p : t.den × Value) cs => KT M (w.alloc (.cells cur e)) t p.1 p.2 cs) (z := (d, .slice none 0 0)) hz' n
    · rw [List.getElem?_replicate] at hx hs
      split at hx
      case isFalse => cases hx
      rename_i hjn
      rw [if_pos hjn] at hs
      injection hx with hx
      injection hs with hs
      subst hx hs
      unfold Inn
      rw [hd]
      exact ⟨[], World.ownsRow_nil _ _ _ _, rfl⟩
    · have z : ∀ (j : Nat) (s : Value), (Value.slice (some ⟨w.heap.size, 0, none⟩) n cap :: hole none (List.replicate n (.slice none 0 0)))[j]? = some s → blk s = some x → j = 0 := by
        intro j s hj hs
        cases j with
        | zero => rfl
        | succ j =>
          rw [List.getElem?_cons_succ] at hj
          unfold hole at hj
          simp only [List.getElem?_replicate] at hj
          split at hj
          · injection hj with hj
            subst hj
            cases hs
          · cases hj
      rw [z j s hj hs, z k s' hk' hs']
    · rw [List.eq_of_mem_replicate hs]
      exact ⟨_, _, _, rfl⟩
  · exact ⟨by rw [upd_same]; simp, by rw [upd_same]; rfl, _, _, _, rfl⟩

theorem makeSliceE_sound (H : HRel MX w ρ hp) {T : TypeId} {n : AV} {vn : Value} (hn : R (Mut MX hp ρ) w ρ hp n vn) (hk : (makeSliceE P T n).go b hp rs ws K = some r) :
    ∃ x b' hp' rs' ws' v w' ρ', K x b' hp' rs' ws' = some r ∧ (Instr.makeSlice T vn vn).run P w = .ok v w' ∧ Step MX w ρ hp w' ρ' hp' ∧ R (Mut MX hp' ρ') w' ρ' hp' x v := by
  unfold makeSliceE at hk
  split at hk
  case h_2 => cases hk
  rename_i e n hu
  rw [show vn = _ from hn]
  split at hk
  case h_2 => cases hk
  rename_i t s z by_ ht hs hz hby
  split at hk
  case h_2 => cases hk
  rename_i z0 h1 h2 h3 h4 h5
  have h1 := Nat.eq_of_beq_eq_true h1
  have h2 := Nat.le_of_ble_eq_true h2
  have h3 := Nat.le_of_ble_eq_true h3
  have h4 := Nat.eq_of_beq_eq_true h4
  simp only [Eff.go] at hk
  split at hk
  case isFalse => cases hk
  rename_i hn0
  split at hk
  case isFalse => cases hk
  rename_i hn1
  obtain ⟨i, z', hi, hz', hr⟩ := zeroCellsAt_some hz
  have hzl : z'.cells.size = s := by
    have := Rs_len (hr (fun _ => False) w ρ hp)
    simp at this; omega
  have hsi : i.size = s := by simpa [sizeAt, hi] using hs
  have hbi : i.bytes = by_ := by simpa [hi] using hby
  subst h1
  have hmul : by_ * n.toNat ≤ 281474976710656 := by
    have := Nat.mul_le_mul_left by_ hn1
    exact Nat.le_trans this (Nat.mul_div_le _ _)
  have hmul' : (i.bytes : Int) * n ≤ 281474976710656 := by
    rw [hbi]
    have e : n = (n.toNat : Int) := by omega
    rw [e, ← Int.natCast_mul]
    omega
  have hnn : n.toNat ≤ 281474976710656 := Nat.le_trans (Nat.le_mul_of_pos_left _ h3) hmul
  have hrun := run_make (P := P) w T e i z' hu hi hz' .i64 .i64 n n hn0 (Int.le_refl _) hmul' (by omega)
  have hkz := dec_sound (M := Mut MX hp ρ) (w := w) (ρ := ρ) (hp := hp) t h5 (hr _ _ _ _)
  have hmade := madeCells_repl z'.cells (by omega) n.toNat
  rw [hzl] at hmade
  rw [hsi] at hrun
  split at hk
  · rename_i be hnest hnil hinn
    obtain ⟨fs, hfs⟩ := nilLast_some hnil
    have hrz := hr (Mut MX hp ρ) w ρ hp
    rw [hfs] at hrz h5
    obtain ⟨us, us1, hus, hr0, hr1⟩ := Rs_split hrz
    obtain ⟨v1, _, rfl, hv1, rfl⟩ := hr1
    obtain rfl : v1 = .slice none 0 0 := hv1
    obtain ⟨hkt, hgd⟩ := decN_sound t hnest h5 hr0
    rw [← hus] at hkt
    obtain ⟨x, b', hp', rs', ws', ρ', hK, hst, hR⟩ := nw_tre (n := n.toNat) (cap := n.toNat) (cur := madeCells z'.cells (n.toNat * t.sz)) (zs := z'.cells.toList) H hnest hkt hgd (Nat.le_refl _) (by unfold maxLen; omega)
      (by rw [size_madeCells]) (by rw [hmade]; exact List.take_of_length_le (by rw [← hmade]; simp [size_madeCells])) hk
    exact ⟨x, b', hp', rs', ws', _, _, ρ', hK, hrun, hst, hR⟩
  obtain ⟨x, b', hp', rs', ws', ρ', hK, hst, hR⟩ := nw_row (cap := n.toNat) (cur := madeCells z'.cells (n.toNat * t.sz)) (us := replV n.toNat z'.cells.toList) H (Els_replicate hkz n.toNat) (by simp) (by unfold maxLen; omega)
    (by rw [size_madeCells]) (by rw [hmade, List.length_replicate]; exact List.take_of_length_le (by rw [← hmade]; simp [size_madeCells])) hk
  rw [List.length_replicate] at hR
  exact ⟨x, b', hp', rs', ws', _, _, ρ', hK, hrun, hst, hR⟩

/-- The bounds of a slice expression. -/
theorem cut_sound {M : Nat → Prop} {lo hi : Option AV} {vlo vhi : Option Value} {n : Nat} {k : Int → Int → Eff AV}
    (hlo : ∀ x, lo = some x → ∃ v, vlo = some v ∧ R M w ρ hp x v) (hlo' : lo = none → vlo = none) (hhi : ∀ x, hi = some x → ∃ v, vhi = some v ∧ R M w ρ hp x v) (hhi' : hi = none → vhi = none)
    (hk : (cutE lo hi (n : Int) k).go b hp rs ws K = some r) :
    ∃ l h : Int, (k l h).go b hp rs ws K = some r ∧ 0 ≤ l ∧ l ≤ h ∧ h ≤ n ∧ (hi = none → h = n) ∧ ∀ (isSlice : Bool) (cap : Nat), n ≤ cap → (Instr.sliceBounds isSlice n cap vlo vhi none).run P w = .ok (l.toNat, h.toNat, cap) w := by
  unfold cutE at hk
  split at hk
  case h_2 => cases hk
  rename_i h l hh hl
  have hi0 : (0 ≤ h ∧ h ≤ n ∧ (cutLo lo l h (k l h)).go b hp rs ws K = some r) ∧ (∀ (isSlice : Bool) (cap : Nat), n ≤ cap → (vhi = none ∧ h = n) ∨ ∃ k', vhi = some (.int k' h)) := by
    cases hi with
    | none =>
      simp only [boundOf] at hh
      injection hh with hh
      subst hh
      exact ⟨⟨by omega, by omega, hk⟩, fun _ _ _ => .inl ⟨hhi' rfl, rfl⟩⟩
    | some x =>
      obtain ⟨v, rfl, hv⟩ := hhi x rfl
      simp only [cutHi, Eff.go] at hk
      split at hk
      case isFalse => cases hk
      rename_i h0
      split at hk
      case isFalse => cases hk
      rename_i h1
      refine ⟨⟨h0, h1, hk⟩, fun isSlice cap hc => .inr ?_⟩
      unfold boundOf at hh
      split at hh
      · cases ‹some x = none›
      · rename_i k' m he
        injection hh with hh
        injection he with he
        subst hh he
        exact ⟨k', by rw [show v = _ from hv]⟩
      · cases hh
  obtain ⟨⟨h0, h1, hk⟩, hrun⟩ := hi0
  have hlo0 : 0 ≤ l ∧ l ≤ h ∧ (k l h).go b hp rs ws K = some r ∧ ((vlo = none ∧ l = 0) ∨ ∃ k', vlo = some (.int k' l)) := by
    cases lo with
    | none =>
      simp only [boundOf] at hl
      injection hl with hl
      subst hl
      exact ⟨by omega, h0, hk, .inl ⟨hlo' rfl, rfl⟩⟩
    | some x =>
      obtain ⟨v, rfl, hv⟩ := hlo x rfl
      simp only [cutLo, Eff.go] at hk
      split at hk
      case isFalse => cases hk
      rename_i l0
      split at hk
      case isFalse => cases hk
      rename_i l1
      refine ⟨l0, l1, hk, .inr ?_⟩
      unfold boundOf at hl
      split at hl
      · cases ‹some x = none›
      · rename_i k' m he
        injection hl with hl
        injection he with he
        subst hl he
        exact ⟨k', by rw [show v = _ from hv]⟩
      · cases hl
  obtain ⟨l0, l1, hk, hlr⟩ := hlo0
  refine ⟨l, h, hk, l0, l1, h1, fun he => ?_, fun isSlice cap hc => ?_⟩
  · rcases hrun true n (Nat.le_refl _) with ⟨_, e⟩ | ⟨k', e⟩
    · exact e
    · rw [hhi' he] at e; cases e
  rcases hrun isSlice cap hc with ⟨rfl, rfl⟩ | ⟨k1, rfl⟩ <;> rcases hlr with ⟨rfl, rfl⟩ | ⟨k2, rfl⟩
  · simp [Instr.sliceBounds]
  · have hb := run_sliceBound (P := P) w k2 l n .sliceB l0 l1
    simp [Instr.sliceBounds, hb]
  · have hb := run_sliceBound (P := P) w k1 h cap (if isSlice then .sliceAcap else .sliceAlen) h0 (by omega)
    simp [Instr.sliceBounds, hb]
  · have hb := run_sliceBound (P := P) w k1 h cap (if isSlice then .sliceAcap else .sliceAlen) h0 (by omega)
    have hb2 := run_sliceBound (P := P) w k2 l h.toNat .sliceB l0 (by omega)
    simp [Instr.sliceBounds, hb, hb2]

theorem run_sliceAt_sl {T e s : TypeId} (hu : P.underlying T = some (.slice e)) (hs : sizeAt P e = some s) {a : Option Addr} {n c l h m : Nat} {lo hi : Option Value} (hb : (Instr.sliceBounds true n c lo hi none).run P w = .ok (l, h, m) w) :
    (Instr.sliceAt T (.slice a n c) lo hi none).run P w = .ok (.slice (if m = l then a else a.map (·.add (l * s))) (h - l) (m - l)) w := by
  simp [Instr.sliceAt, run_underlying hu, Instr.slice, hb, run_sizeOf hs]
theorem run_sliceAt_str {T : TypeId} (hu : P.underlying T = some .string) {x : ByteArray} {l h m : Nat} {lo hi : Option Value} (hb : (Instr.sliceBounds false x.size x.size lo hi none).run P w = .ok (l, h, m) w) :
    (Instr.sliceAt T (.string x) lo hi none).run P w = .ok (.string (x.extract l h)) w := by
  simp [Instr.sliceAt, run_underlying hu, Instr.slice, hb]

/-- A part of a row that is read. -/
theorem con_part {M : Nat → Prop} {t : Ty} {c : List t.den} {A : Option Addr} {cap l h : Nat} (hr : RowR M w (t.KR M w) t.sz A c) (hl : l ≤ h) (hh : h ≤ c.length) (hc : c.length ≤ cap) :
    R M w ρ hp (.con t ((c.take h).drop l)) (.slice (if cap = l then A else A.map (·.add (l * t.sz))) (h - l) (cap - l)) := by
  have hlen : ((c.take h).drop l).length = h - l := by simp; omega
  refine ⟨_, _, by rw [hlen], by omega, fun i x hx => ?_⟩
  have hi : i < h - l := by
    have := (List.getElem?_eq_some_iff.1 hx).1
    omega
  rw [List.getElem?_drop, List.getElem?_take, if_pos (by omega)] at hx
  obtain ⟨g, o, cs, hA, hg, hcl, hkr, hcc⟩ := hr (l + i) x hx
  refine ⟨g, o + l * t.sz, cs, ?_, hg, hcl, hkr, fun j u hu => ?_⟩
  · rw [if_neg (by omega), hA, Option.map_some, add_at']
  · have := hcc j u hu
    rw [Nat.add_mul] at this
    rw [← this]
    congr 2
    omega

theorem sliceE_sound (H : HRel MX w ρ hp) {T : TypeId} {x : AV} {vx : Value} {lo hi : Option AV} {vlo vhi : Option Value} (hx : R (Mut MX hp ρ) w ρ hp x vx)
    (hlo : ∀ x, lo = some x → ∃ v, vlo = some v ∧ R (Mut MX hp ρ) w ρ hp x v) (hlo' : lo = none → vlo = none) (hhi : ∀ x, hi = some x → ∃ v, vhi = some v ∧ R (Mut MX hp ρ) w ρ hp x v) (hhi' : hi = none → vhi = none)
    (hk : (sliceE P T x lo hi).go b hp rs ws K = some r) :
    ∃ x b' hp' rs' ws' v w' ρ', K x b' hp' rs' ws' = some r ∧ (Instr.sliceAt T vx vlo vhi none).run P w = .ok v w' ∧ Step MX w ρ hp w' ρ' hp' ∧ R (Mut MX hp' ρ') w' ρ' hp' x v := by
  unfold sliceE at hk
  split at hk
  · rename_i s hu
    rw [show vx = _ from hx]
    obtain ⟨l, h, hK, h0, h1, h2, hn, hb⟩ := cut_sound (P := P) hlo hlo' hhi hhi' hk
    exact ⟨_, _, _, _, _, _, w, ρ, hK, run_sliceAt_str hu (hb false s.size (Nat.le_refl _)), Step.refl H, rfl⟩
  · rename_i e t c hu
    split at hk
    case h_2 => cases hk
    rename_i s hs
    split at hk
    case h_2 => cases hk
    rename_i hsz
    have hsz := Nat.eq_of_beq_eq_true hsz
    subst hsz
    obtain ⟨A, cap, rfl, hle, hr⟩ := hx
    obtain ⟨l, h, hK, h0, h1, h2, hn, hb⟩ := cut_sound (P := P) hlo hlo' hhi hhi' hk
    exact ⟨_, _, _, _, _, _, w, ρ, hK, run_sliceAt_sl hu hs (hb true cap hle), Step.refl H, con_part hr (by omega) (by omega) hle⟩
  · rename_i e i hu
    split at hk
    case h_2 => cases hk
    rename_i s hs
    obtain ⟨hne, rfl, A0, n0, c0, hv⟩ := hx
    simp only [Eff.go] at hk
    have hok := H.ok i
    split at hk
    · rename_i e' t c hi'
      split at hk
      case h_2 => cases hk
      rename_i hsz
      have hsz := Nat.eq_of_beq_eq_true hsz
      subst hsz
      split at hk
      · rename_i htail
        obtain ⟨rfl, ht1, rfl⟩ : lo = some (.v (.int .i64 1)) ∧ t.sz = 1 ∧ hi = none := by
          unfold tailOf at htail
          split at htail
          · exact ⟨rfl, rfl, rfl⟩
          · cases htail
        have h1c : 1 ≤ c.length := by
          have h2 := hk
          simp only [cutE, boundOf, cutHi, cutLo, Eff.go] at h2
          split at h2
          case isFalse => cases h2
          split at h2
          case isFalse => cases h2
          omega
        obtain rfl := hhi' rfl
        obtain ⟨l, h, hK, h0, h1, h2, hn, hb⟩ := cut_sound (P := P) (hi := none) (vhi := none) hlo hlo' (fun y hy => by cases hy) (fun _ => rfl) hk
        rw [hi'] at hok
        obtain ⟨xs, g1, g2⟩ := hok
        rcases g1.2 with ⟨g3, g4⟩ | ⟨g, cap, cur, g3, _, _, hle, _⟩
        · omega
        rw [g3]
        have hrun := run_sliceAt_sl hu hs (a := some ⟨g, 0, none⟩) (hb true cap hle)
        have hcl : h = (c.length : Int) := hn rfl
        subst hcl
        refine ⟨_, _, _, _, _, _, w, ρ, hK, hrun, Step.refl H, hne, g, c.length, cap, cap - l.toNat, (if cap = l.toNat then ⟨g, 0, none⟩ else ⟨g, l.toNat, none⟩), g3, by omega, ?_, fun hlt => by rw [if_neg (by omega)], by omega⟩
        rw [ht1]
        show Value.slice _ _ _ = _
        congr 1
        split
        · rfl
        · simp only [Option.map_some, Nat.mul_one]
          rw [add_at', Nat.zero_add]
      obtain ⟨l, h, hK, h0, h1, h2, hn, hb⟩ := cut_sound (P := P) hlo hlo' hhi hhi' hk
      simp only [Eff.go] at hK
      have hst := Step.freeze H hi'
      have hok' := hst.rel.ok i
      rw [upd_same] at hok'
      obtain ⟨A, cap, hv', hle, hr⟩ := hok'
      rw [hv']
      exact ⟨_, _, _, _, _, _, w, ρ, hK, run_sliceAt_sl hu hs (hb true cap hle), hst, con_part hr (by omega) (by omega) hle⟩
    · rename_i t c hi'
      split at hk
      case h_2 => cases hk
      rename_i hsz
      have hsz := Nat.eq_of_beq_eq_true hsz
      subst hsz
      rw [hi'] at hok
      obtain ⟨A, cap, hv', hle, hr⟩ := hok
      rw [hv']
      obtain ⟨l, h, hK, h0, h1, h2, hn, hb⟩ := cut_sound (P := P) hlo hlo' hhi hhi' hk
      exact ⟨_, _, _, _, _, _, w, ρ, hK, run_sliceAt_sl hu hs (hb true cap hle), Step.refl H, con_part hr (by omega) (by omega) hle⟩
    · rename_i c hi'
      split at hk
      case h_2 => cases hk
      rename_i hsz
      have hsz := Nat.eq_of_beq_eq_true hsz
      subst hsz
      rw [hi'] at hok
      obtain ⟨g, cap, hv', hle, hr⟩ := hok
      rw [hv']
      obtain rfl := hhi' rfl
      obtain ⟨l, h, hK, h0, h1, h2, hn, hb⟩ := cut_sound (P := P) (hi := none) (vhi := none) hlo hlo' (fun y hy => by cases hy) (fun _ => rfl) hk
      have hrun := run_sliceAt_sl hu hs (a := some ⟨g, 0, none⟩) (hb true cap hle)
      have hcl : h = (c.length : Int) := hn rfl
      subst hcl
      refine ⟨_, _, _, _, _, _, w, ρ, hK, hrun, Step.refl H, hne, g, c.length, cap, cap - l.toNat, (if cap = l.toNat then ⟨g, 0, none⟩ else ⟨g, l.toNat, none⟩), hv', by omega, ?_, ?_⟩
      · congr 1
        split
        · rfl
        · simp only [Option.map_some, Nat.mul_one]
          rw [add_at', Nat.zero_add]
      · refine ⟨fun hlt => ?_, by omega⟩
        rw [if_neg (by omega)]
    · cases hk
  · cases hk

/-- The cells of a row that is read, one behind the other. -/
theorem row_cells {M : Nat → Prop} {t : Ty} {g : Nat} : {l : List t.den} → {o : Nat} → (∀ (i : Nat) (x : t.den), l[i]? = some x → ∃ cs, cs.length = t.sz ∧ t.KR M w x cs ∧ ∀ (j : Nat) (u : Value), cs[j]? = some u → w.cell? ⟨g, o + (i * t.sz + j), none⟩ = some u) →
    ∃ xs, Els (t.KR M w) l xs ∧ ∀ (q : Nat) (u : Value), xs[q]? = some u → w.cell? ⟨g, o + q, none⟩ = some u
  | [], _, _ => ⟨[], rfl, fun q u h => by simp at h⟩
  | x :: l, o, h => by
    obtain ⟨cs, h1, h2, h3⟩ := h 0 x rfl
    obtain ⟨xs, h4, h5⟩ := row_cells (l := l) (o := o + t.sz) (fun i y hy => by
      obtain ⟨cs, g1, g2, g3⟩ := h (i + 1) y (by simpa using hy)
      refine ⟨cs, g1, g2, fun j u hu => ?_⟩
      have := g3 j u hu
      rw [← this]
      congr 2
      rw [Nat.add_mul, Nat.one_mul]; omega)
    refine ⟨cs ++ xs, ⟨cs, xs, rfl, h2, h4⟩, fun q u hq => ?_⟩
    by_cases hlt : q < cs.length
    · rw [List.getElem?_append_left hlt] at hq
      have := h3 q u hq
      rw [← this]
      congr 2
      omega
    · rw [List.getElem?_append_right (by omega)] at hq
      have := h5 _ u hq
      rw [← this]
      congr 2
      omega

theorem con_cells {M : Nat → Prop} {t : Ty} {l : List t.den} {A : Option Addr} (hr : RowR M w (t.KR M w) t.sz A l) :
    (A = none ∧ l = []) ∨ ∃ a xs, A = some a ∧ Els (t.KR M w) l xs ∧ ∀ (q : Nat) (u : Value), xs[q]? = some u → w.cell? (a.add q) = some u := by
  cases A with
  | none =>
    refine .inl ⟨rfl, ?_⟩
    cases l with
    | nil => rfl
    | cons x l => obtain ⟨b, o, cs, hA, _⟩ := hr 0 x rfl; cases hA
  | some a =>
    right
    cases l with
    | nil => exact ⟨a, [], rfl, rfl, fun q u h => by simp at h⟩
    | cons x l =>
      obtain ⟨g, o, cs, hA, _⟩ := hr 0 x rfl
      injection hA with hA
      subst hA
      obtain ⟨xs, h1, h2⟩ := row_cells (g := g) (o := o) (fun i y hy => by
        obtain ⟨g', o', cs, hA, _, h1, h2, h3⟩ := hr i y hy
        injection hA with hA
        injection hA with e1 e2
        subst e1 e2
        exact ⟨cs, h1, h2, h3⟩)
      exact ⟨_, xs, rfl, h1, fun q u hq => by rw [add_at']; exact h2 q u hq⟩

/-- A slice as it is read (out of a heap from which some entries have gone). -/
theorem Els_drop {α : Type} {K : α → List Value → Prop} (hK : ∀ x cs, K x cs → cs.length = 1) : {l : List α} → {xs : List Value} → Els K l xs → ∀ n, Els K (l.drop n) (xs.drop n)
  | [], _, h, n => by
    have h : _ = [] := h
    subst h
    simp [Els]
  | x :: l, _, h, 0 => h
  | x :: l, _, ⟨c, r, e, hc, hr⟩, n + 1 => by
    have hl := hK _ _ hc
    have : (c ++ r).drop (n + 1) = r.drop n := by
      rw [List.drop_append, hl, List.drop_eq_nil_of_le (by omega), List.nil_append]
      congr 1
    rw [e, this]
    exact Els_drop hK hr n
theorem readSl_sound (H : HRel MX w ρ hp) {hp1 : Heap} (hq : ∀ q, hp1 q = hp q ∨ hp1 q = .gone) {x : AV} {vx : Value} {k : (t : Ty) → List t.den → Eff AV} (hx : R (Mut MX hp ρ) w ρ hp x vx) (hk : (readSl x k).go b hp1 rs ws K = some r) :
    ∃ t l rs' A c, (k t l).go b hp1 rs' ws K = some r ∧ vx = .slice A l.length c ∧ l.length ≤ c ∧ ((A = none ∧ l = []) ∨ ∃ a xs, A = some a ∧ Els (t.KR (Mut MX hp ρ) w) l xs ∧ ∀ (q : Nat) (u : Value), xs[q]? = some u → w.cell? (a.add q) = some u) := by
  unfold readSl at hk
  split at hk
  · rename_i t l
    obtain ⟨A, c, rfl, hle, hr⟩ := hx
    exact ⟨t, l, rs, A, c, hk, rfl, hle, con_cells hr⟩
  · rename_i i
    obtain ⟨hne, rfl, A0, n0, c0, hv⟩ := hx
    simp only [Eff.go] at hk
    have hok := H.ok i
    split at hk
    · rename_i e t l hi
      rcases hq i with h | h
      case inr => rw [h] at hi; cases hi
      rw [h] at hi
      rw [hi] at hok
      obtain ⟨xs, h1, h2⟩ := hok
      rw [hd_own h1] at hv ⊢
      have hc := fun g hg => World.ownsRow.cells h1 (g := g) hg
      rcases h1.2 with ⟨h3, h4⟩ | ⟨g, cap, cur, h3, _, hh, hle, _⟩
      · exact ⟨t, l, _, none, 0, hk, by rw [h3, h4], by omega, .inl ⟨rfl, List.eq_nil_of_length_eq_zero h4⟩⟩
      · exact ⟨t, l, _, _, cap, hk, h3, hle, .inr ⟨_, xs, rfl, h2, fun q u hq => hc g (by rw [h3]; rfl) q u hq⟩⟩
    · rename_i t l hi
      rcases hq i with h | h
      case inr => rw [h] at hi; cases hi
      rw [h] at hi
      rw [hi] at hok
      obtain ⟨A, c, h1, hle, hr⟩ := hok
      exact ⟨t, l, _, A, c, hk, (hd_slice h1).trans h1, hle, con_cells hr⟩
    · cases hk
  · rename_i i lo
    simp only [Eff.go] at hk
    have hok := H.ok i
    split at hk
    · rename_i e t l hi
      rcases hq i with h | h
      case inr => rw [h] at hi; cases hi
      rw [h] at hi
      rw [hi] at hok
      split at hk
      case h_2 => cases hk
      rename_i hsz
      have hsz := Nat.eq_of_beq_eq_true hsz
      obtain ⟨xs, h1, h2⟩ := hok
      obtain ⟨_, g, n, c1, c', A', e1, hlo, rfl, hA, hc⟩ := hx
      rcases h1.2 with ⟨k1, k2⟩ | ⟨g2, cap, cur, k1, _, hh, _⟩
      · rw [k1] at e1; cases e1
      rw [k1] at e1
      injection e1 with e1 e2 e3
      injection e1 with e1
      injection e1 with e1
      subst e1 e2 e3
      refine ⟨t, l.drop lo, _, some A', c', hk, by rw [List.length_drop], by rw [List.length_drop]; exact hc, .inr ⟨A', xs.drop lo, rfl, Els_drop (fun _ _ hk => by rw [KR_len t hk, hsz]) h2 lo, fun q u hq => ?_⟩⟩
      rw [List.getElem?_drop] at hq
      have hl := World.ownsRow.cells h1 (g := g2) (by rw [k1]; rfl) _ u hq
      have hxl := Els.len (sz := 1) (fun _ _ hk => by rw [KR_len t hk, hsz]) h2
      have hlt := (List.getElem?_eq_some_iff.1 hq).1
      rw [hA (by omega), add_at', ← hl, add_at', Nat.zero_add]
    · rename_i t l hi
      rcases hq i with h | h
      case inr => rw [h] at hi; cases hi
      rw [h] at hi
      rw [hi] at hok
      split at hk
      case h_2 => cases hk
      rename_i hsz
      have hsz := Nat.eq_of_beq_eq_true hsz
      obtain ⟨A, c, h1, hle, hr⟩ := hok
      obtain ⟨A2, c2, q1, q2, q3⟩ := sub_con hsz h1 hr hx
      exact ⟨t, l.drop lo, _, A2, c2, hk, q1, q2, con_cells q3⟩
    · cases hk
  · cases hk

theorem moreE_sound (H : HRel MX w ρ hp) {hp1 : Heap} (hq : ∀ q, hp1 q = hp q ∨ hp1 q = .gone) {t : Ty} {x : AV} {vx : Value} {k : List t.den → Eff AV} (hx : R (Mut MX hp ρ) w ρ hp x vx) (hk : (moreE t x k).go b hp1 rs ws K = some r) :
    ∃ l rs' A c, (k l).go b hp1 rs' ws K = some r ∧ vx = .slice A l.length c ∧ l.length ≤ c ∧ ((A = none ∧ l = []) ∨ ∃ a xs, A = some a ∧ Els (t.KR (Mut MX hp ρ) w) l xs ∧ ∀ (q : Nat) (u : Value), xs[q]? = some u → w.cell? (a.add q) = some u) := by
  unfold moreE at hk
  split at hk
  · exact ⟨[], rs, none, 0, hk, hx, Nat.le_refl _, .inl ⟨rfl, rfl⟩⟩
  · obtain ⟨t', l, rs', A, c, hk, h1, h2, h3⟩ := readSl_sound H hq hx hk
    split at hk
    case h_2 => cases hk
    rename_i h _
    subst h
    exact ⟨l, rs', A, c, hk, h1, h2, h3⟩

theorem run_append_none' {T ty e : TypeId} {i : TypeInfo} {sz n c : Nat} {v : Value} {xs : List Value} (hu : P.underlying T = some (.slice e)) (hi : P.info? e = some i) (hown : w.ownsRow 0 e sz v n xs) :
    (Builtin.append_ #[T, T] ty #[v, .slice none 0 c]).run P w = .ok v w := by
  rcases hown.2 with ⟨rfl, rfl⟩ | ⟨g, cap, cur, rfl, _, _, hnc, _⟩
  · simp [Builtin.append_, run_underlying hu, sizeOf, typeInfo, hi, Builtin.lenOf, Builtin.firstCells]
  · simp [Builtin.append_, run_underlying hu, sizeOf, typeInfo, hi, Builtin.lenOf, Builtin.firstCells, hnc, storeCells]

/-! Words of the kit's print, for what is written in one go. -/
namespace Z
theorem add_plain (g j : Nat) : (⟨g, 0, none⟩ : Addr).add j = ⟨g, j, none⟩ := by unfold Addr.add; split <;> simp_all
theorem blk_frozen {w : World} {g : Nat} {t : TypeId} {cs : Array Value} (h : w.heap[g]? = some (.cells cs t (0, 0))) (i : Nat) : w.frozen? ⟨g, i, none⟩ = false := by simp [World.frozen?, h]
theorem blk_set {w : World} {g : Nat} {t : TypeId} {cs : Array Value} (h : w.heap[g]? = some (.cells cs t (0, 0))) (i : Nat) (u : Value) : (w.setCell ⟨g, i, none⟩ u).heap[g]? = some (.cells (cs.setIfInBounds i u) t (0, 0)) := by
  simp [World.setCell, Array.getElem?_modify, h]
theorem setCells_far {g : Nat} : ∀ (vs : List Value) (o : Nat) {w : World} (k : Nat), k ≠ g → (w.setCells g o vs).heap[k]? = w.heap[k]?
  | [], _, _, _, _ => rfl
  | v :: r, o, w, k, hk => by
    rw [World.setCells, setCells_far r (o + 1) k hk]
    exact Below.heap_setCell w ⟨g, o, none⟩ v k hk
theorem setCells_same (g : Nat) : ∀ (vs : List Value) (o : Nat) (w : World), (w.setCells g o vs).os = w.os ∧ (w.setCells g o vs).tape = w.tape ∧ (w.setCells g o vs).output = w.output ∧ (w.setCells g o vs).heap.size = w.heap.size
  | [], _, _ => ⟨rfl, rfl, rfl, rfl⟩
  | v :: r, o, w => by
    obtain ⟨h1, h2, h3, h4⟩ := setCells_same g r (o + 1) (w.setCell ⟨g, o, none⟩ v)
    rw [World.setCells]
    exact ⟨h1, h2, h3, by rw [h4]; simp [World.setCell]⟩
theorem setCells_row {g : Nat} {e : TypeId} : ∀ (vs : List Value) (o : Nat) (w : World) (cur : Array Value), w.heap[g]? = some (.cells cur e (0, 0)) → o + vs.length ≤ cur.size →
    ∃ cur', (w.setCells g o vs).heap[g]? = some (.cells cur' e (0, 0)) ∧ cur'.size = cur.size ∧ cur'.toList = cur.toList.take o ++ vs ++ cur.toList.drop (o + vs.length)
  | [], o, w, cur, h, _ => ⟨cur, h, rfl, by simp⟩
  | v :: r, o, w, cur, h, hl => by
    have h2 := blk_set h o v
    simp only [List.length_cons] at hl
    obtain ⟨cur', h3, h4, h5⟩ := setCells_row r (o + 1) (w.setCell ⟨g, o, none⟩ v) _ h2 (by simp; omega)
    refine ⟨cur', h3, by rw [h4]; simp, ?_⟩
    rw [h5, Array.toList_setIfInBounds]
    have ho : o < cur.toList.length := by rw [Array.length_toList]; omega
    rw [List.take_set, List.drop_set_of_lt (by omega)]
    simp only [List.length_cons]
    rw [show o + 1 + r.length = o + (r.length + 1) by omega]
    congr 1
    rw [List.take_succ_eq_append_getElem ho, List.set_append_right _ _ (by rw [List.length_take]; omega)]
    have ho' : o < cur.size := by omega
    simp [Nat.min_eq_left (Nat.le_of_lt ho')]
end Z
open Z in
theorem run_append_zeros (w : World) (base : Nat) (t ti ty e : TypeId) (i : TypeInfo) (z : Value) (size bytes : Nat) (ht : P.underlying t = some (.slice e)) {k : IntKind} (hti : P.underlying ti = some (.int k)) (hi : P.info? e = some i) (hz : i.zero = some z)
    (hsize : i.size = size) (hby : i.bytes = bytes) (hzs : z.cells.size = size) (hsz : 0 < size) (hb0 : 0 < bytes)
    (v : Value) (n : Nat) (xs : List Value) (hown : w.ownsRow base e size v n xs) (kx : IntKind) (m : Nat) (h1 : ∀ u ∈ (Builtin.zeroCells z.cells m).toList, u.oneCell' = true)
    (hbytes : (n + m) * bytes ≤ 140737488355328) (hbase : base ≤ w.heap.size) :
    ∃ v' w', (Builtin.append_ #[t, ti] ty #[v, .int kx m]).run P w = .ok v' w' ∧ w'.ownsRow base e size v' (n + m) (xs ++ (Builtin.zeroCells z.cells m).toList) ∧ w.grownBy w' v.ownBlock ∧
      (v'.ownBlock = v.ownBlock ∨ v'.ownBlock = some w.heap.size) := by
  subst hsize
  subst hby
  have hle : n + m ≤ 140737488355328 := Nat.le_trans (Nat.le_mul_of_pos_right _ hb0) hbytes
  have h63 : n + m ≤ maxLen := by simp only [maxLen]; omega
  have hw : IntKind.i64.wrap (m : Int) = m := by rw [IntKind.wrap_i64]; omega
  have hw0 : IntKind.i64.wrap 0 = 0 := by rw [IntKind.wrap_i64]; rfl
  have hneg : ¬ ((m : Int) < 0) := by omega
  have hmb : m * i.bytes ≤ 140737488355328 := Nat.le_trans (Nat.mul_le_mul_right _ (Nat.le_add_left m n)) hbytes
  have hbig : ¬ (281474976710656 < (m : Int) * (i.bytes : Int)) := by
    rw [← Int.natCast_mul]
    omega
  have hsn : i.size ≠ 0 := by omega
  obtain ⟨news, hnews⟩ : ∃ news, news = (Builtin.zeroCells z.cells m).toList := ⟨_, rfl⟩
  rw [← hnews] at h1 ⊢
  have hl : news.length = m * i.size := by rw [hnews, Array.length_toList, size_zeroCells, hzs]
  have hna : Builtin.zeroCells z.cells m = news.toArray := by rw [hnews]
  have hlen : (xs ++ news).length = (n + m) * i.size := by rw [List.length_append, hown.1, hl, Nat.add_mul]
  have hnil : m = 0 → news = [] := fun h => List.eq_nil_of_length_eq_zero (by rw [hl, h, Nat.zero_mul])
  have grown : ∀ (old : Nat), old < n + m → ∀ (row : Option Nat),
      (w.drew.alloc (.cells (xs.toArray ++ news.toArray ++ Builtin.zeroCells z.cells (grownCap w (n + m) old e - (n + m))) e)).ownsRow base e i.size
        (.slice (some ⟨w.heap.size, 0, none⟩) (n + m) (grownCap w (n + m) old e)) (n + m) (xs ++ news) ∧
      w.grownBy (w.drew.alloc (.cells (xs.toArray ++ news.toArray ++ Builtin.zeroCells z.cells (grownCap w (n + m) old e - (n + m))) e)) row := by
    intro old ho row
    have hge := grownCap_ge w (n + m) old e
    have hcm : grownCap w (n + m) old e ≤ maxLen := grownCap_le_maxLen w (n + m) old e h63
    refine ⟨⟨hlen, .inr ⟨w.heap.size, _, _, rfl, hbase, heap_alloc_new w.drew _, hge, hcm, ?_, ?_⟩⟩, ⟨rfl, rfl, rfl, by simp, fun k hk _ => heap_alloc_old w.drew _ hk⟩⟩
    · simp only [Array.size_append, List.size_toArray, size_zeroCells, hzs, hown.1, hl, ← Nat.add_mul]
      congr 1
      omega
    · simp only [Array.toList_append, List.append_assoc]
      rw [← List.append_assoc, ← hlen]
      exact List.take_left
  have runs : ∀ (A : Option Addr) (cap : Nat), cap < n + m → (Builtin.firstCells i.size n (.slice A n cap)).run P w.drew = .ok xs.toArray w.drew → (Builtin.append_ #[t, ti] ty #[.slice A n cap, .int kx m]).run P w =
      .ok (.slice (some ⟨w.heap.size, 0, none⟩) (n + m) (grownCap w (n + m) cap e)) (w.drew.alloc (.cells (xs.toArray ++ news.toArray ++ Builtin.zeroCells z.cells (grownCap w (n + m) cap e - (n + m))) e)) := by
    intro A cap hcap hfo
    have hn : ¬ (n + m ≤ cap) := by omega
    have h63' : ¬ (9223372036854775807 < ((n : Int) + (m : Int))) := by omega
    have hfit := growslice_fits hcap hbytes
    have h48' : ¬ (281474976710656 < Builtin.nextslicecap (n + m) cap * i.bytes) := by omega
    by_cases hm : m = 0
    · have hnl := hnil hm
      subst hm
      rw [hnl]
      simp only [Nat.add_zero] at hn h63' h48' ⊢
      have h63'' : ¬ (9223372036854775807 < (n : Int)) := by omega
      simp [Builtin.append_, run_underlying ht, run_underlying hti, sizeOf, typeInfo, zeroValue, hi, hz, asInt, asIntOf, hw0, hn, h63'', h48', Question.forced, hfo, newRow, grownCap]
    · have hmz : ¬ (m * i.size = 0) := Nat.mul_ne_zero hm hsn
      simp [Builtin.append_, run_underlying ht, run_underlying hti, sizeOf, typeInfo, zeroValue, hi, hz, asInt, asIntOf, hw, hneg, hbig, hn, h63', h48', Question.forced, hfo, newRow, grownCap, hmz, hna]
      congr 2
      apply Array.ext'
      simp [List.append_assoc]
  rcases hown.2 with ⟨rfl, rfl⟩ | ⟨g, cap, cur, rfl, hbg, hg, hnc, hcm, hcs, htake⟩
  · have hx : xs = [] := List.eq_nil_of_length_eq_zero (by simpa using hown.1)
    subst hx
    by_cases hm : m = 0
    · have hnl := hnil hm
      subst hm
      rw [hnl]
      refine ⟨.slice none 0 0, w, ?_, World.ownsRow_nil w base e i.size, ⟨rfl, rfl, rfl, Nat.le_refl _, fun _ _ _ => rfl⟩, Or.inl rfl⟩
      simp [Builtin.append_, run_underlying ht, run_underlying hti, sizeOf, typeInfo, hi, asInt, asIntOf, hw0]
    · have hgr := grown 0 (by omega) (Value.ownBlock (.slice none 0 0))
      exact ⟨_, _, runs none 0 (by omega) (by simp [Builtin.firstCells]), hgr.1, hgr.2, Or.inr rfl⟩
  · by_cases hroom : n + m ≤ cap
    · have hfit : n * i.size + news.length ≤ cur.size := by rw [hl, hcs, ← Nat.add_mul]; exact Nat.mul_le_mul_right _ hroom
      obtain ⟨cur', h3, h4, h5⟩ := setCells_row news (n * i.size) w cur hg hfit
      obtain ⟨s1, s2, s3, s4⟩ := setCells_same g news (n * i.size) w
      have hst := run_storeCells_cells (P := P) g (n * i.size) news 0 w (fun j hj => by rw [cell_of_row w g _ cur e (0, 0) hg]; simp; omega) (fun j _ => blk_frozen hg _) h1
      simp only [Nat.add_zero] at hst
      refine ⟨.slice (some ⟨g, 0, none⟩) (n + m) cap, w.setCells g (n * i.size) news, ?_, ⟨hlen, .inr ⟨g, cap, cur', rfl, hbg, h3, hroom, hcm, by rw [h4, hcs], ?_⟩⟩, ⟨s1, s2, s3, by rw [s4]; exact Nat.le_refl _, fun k _ hk => setCells_far news _ k (fun e => hk (by simp [Value.ownBlock, e]))⟩, Or.inl rfl⟩
      · by_cases hm : m = 0
        · have hnl := hnil hm
          subst hm
          rw [hnl] at hst ⊢
          simp [Builtin.append_, run_underlying ht, run_underlying hti, sizeOf, typeInfo, hi, asInt, asIntOf, hw0, hnc, add_plain, hst]
        · have hmz : ¬ (m * i.size = 0) := Nat.mul_ne_zero hm hsn
          simp [Builtin.append_, run_underlying ht, run_underlying hti, sizeOf, typeInfo, zeroValue, hi, hz, asInt, asIntOf, hw, hneg, hbig, hroom, hmz, hna, add_plain, hst]
      · rw [h5]
        have h6 : cur.toList.take (n * i.size) = xs := htake
        rw [h6, ← hlen]
        exact List.take_left
    · have holds : ∀ j u, xs[j]? = some u → w.cell? ((⟨g, 0, none⟩ : Addr).add j) = some u := hown.cells (g := g) rfl
      have hgr := grown cap (by omega) (Value.ownBlock (.slice (some ⟨g, 0, none⟩) n cap))
      exact ⟨_, _, runs (some ⟨g, 0, none⟩) cap (by omega) (run_firstCells_some (P := P) w.drew i.size n _ n cap xs hown.1 (by simpa using holds)), hgr.1, hgr.2, Or.inr rfl⟩

/-- What an append leaves. -/
theorem putRow_core (H : HRel MX w ρ hp) {hp1 : Heap} (hq : ∀ q, hp1 q = hp q ∨ (hp1 q = .gone ∧ hp q ≠ .unused)) (hqb : ∀ q, hp1 q = .gone → ∀ cs, hp q ≠ .box cs) {T ty e : TypeId} {t : Ty} {by_ : Nat} {l m : List t.den} {v : Value} {xs : List Value}
    (hels : Els (t.KR (Mut MX hp ρ) w) l xs) (hlv : ∀ g, v.ownBlock = some g → Lv hp ρ g ∧ ∀ j, live (hp1 j) → ¬ At (ρ j) g)
    {T2 : TypeId} {vx : Value} (main : l.length + m.length ≤ 140737488355328 / by_ → ∃ v' w' ys, (Builtin.append_ #[T, T2] ty #[v, vx]).run P w = .ok v' w' ∧ Els (t.KR (Mut MX hp ρ) w) m ys ∧ w'.ownsRow 0 e t.sz v' (l.length + m.length) (xs ++ ys) ∧ w.grownBy w' v.ownBlock ∧ (v'.ownBlock = v.ownBlock ∨ ∀ g, v'.ownBlock = some g → w.heap.size ≤ g))
    (hk : (putRow e t by_ l m).go b hp1 rs ws K = some r) :
    ∃ x b' hp' rs' ws' v' w' ρ', K x b' hp' rs' ws' = some r ∧ (Builtin.append_ #[T, T2] ty #[v, vx]).run P w = .ok v' w' ∧ Step MX w ρ hp w' ρ' hp' ∧ R (Mut MX hp' ρ') w' ρ' hp' x v' := by
  unfold putRow at hk
  simp only [Eff.go] at hk
  split at hk
  case isFalse => cases hk
  rename_i hle
  split at hk
  case h_2 => cases hk
  rename_i hu'
  obtain ⟨v', w', ys, hrun, hy, hown', hg, hat_⟩ := main hle
  have hbs : hp b = .unused := by
    rcases hq b with h | ⟨h, _⟩
    · rw [← h]; exact hu'
    · rw [hu'] at h; cases h
  have hsl : ∀ {x : Value} {n : Nat} {zs : List Value} {ww : World}, ww.ownsRow 0 e t.sz x n zs → (∃ A n c, x = .slice A n c) ∧ At x = fun b => x.ownBlock = some b := by
    intro x n zs ww h
    have : ∃ A n c, x = .slice A n c := by
      rcases h.2 with ⟨h2, _⟩ | ⟨g, cap, cur, h2, _⟩
      · exact ⟨_, _, _, h2⟩
      · exact ⟨_, _, _, h2⟩
    exact ⟨this, blk_own this⟩
  have hoff : Off (fun g => v.ownBlock = some g) w w' := Off.grown hg
  have hnew : ∀ g, At v' g → g < w.heap.size → Lv hp ρ g ∧ ∀ j, live (hp1 j) → ¬ At (ρ j) g := by
    intro g hg1 hg2
    rw [(hsl hown').2] at hg1
    rcases hat_ with h | h
    · exact hlv g (by rw [← h]; exact hg1)
    · have := h g hg1; omega
  have hl1 : ∀ j, live (hp1 j) → live (hp j) := by
    intro j hj
    rcases hq j with h | ⟨h, _⟩
    · rwa [h] at hj
    · rw [h] at hj; exact hj.elim
  have lvi : ∀ j g, live (upd hp1 b (.row e t (l ++ m)) j) → At (upd ρ b v' j) g → (j = b ∧ At v' g) ∨ (j ≠ b ∧ live (hp1 j) ∧ At (ρ j) g) := by
    intro j g hl hb'
    by_cases hjb : j = b
    · subst hjb; rw [upd_same] at hb'; exact .inl ⟨rfl, hb'⟩
    · rw [upd_ne _ _ hjb] at hl hb'; exact .inr ⟨hjb, hl, hb'⟩
  have old : ∀ j, hp j ≠ .unused → Old (ρ j) (upd ρ b v' j) ∧ upd hp1 b (.row e t (l ++ m)) j ≠ .unused := by
    intro j hj
    have hne : j ≠ b := fun e => hj (e ▸ hbs)
    rw [upd_ne _ _ hne, upd_ne _ _ hne]
    refine ⟨Old.refl _, ?_⟩
    rcases hq j with h | ⟨h, _⟩
    · rw [h]; exact hj
    · rw [h]; simp
  have nwl : ∀ g, g < w.heap.size → Lv (upd hp1 b (.row e t (l ++ m))) (upd ρ b v') g → Lv hp ρ g := by
    rintro g hlt ⟨j, hl, hbj⟩
    rcases lvi j g hl hbj with ⟨_, h⟩ | ⟨_, h1, h2⟩
    · exact (hnew g h hlt).1
    · exact ⟨j, hl1 j h1, h2⟩
  refine ⟨_, _, _, _, _, v', w', upd ρ b v', hk, hrun, ?_, by rw [upd_same]; simp, by rw [upd_same]; exact (hd_own hown').symm, (hsl hown').1⟩
  refine Step.mk' (D := fun g => v.ownBlock = some g) H hoff (fun g _ h => (hlv g h).1) old nwl ?_ ?_ ?_ (fun j cs hj => ?_)
  case refine_4 =>
    left
    have hjb : j ≠ b := fun e => by rw [e, hbs] at hj; cases hj
    rcases hq j with h | ⟨h, _⟩
    · exact ⟨by rw [upd_ne _ _ hjb, h], fun g hbg hD => (hlv g hD).2 j (by rw [h, hj]; trivial) hbg⟩
    · exact absurd hj (hqb j h cs)
  · intro j
    by_cases hjb : j = b
    · subst hjb
      right
      rw [upd_same]
      refine ⟨xs ++ ys, ?_, ?_⟩
      · rw [upd_same, List.length_append]; exact hown'
      · refine Els.append ?_ ?_
        · exact Els.imp (fun _ _ h => KR_step hoff (fun g _ h => .inr (hlv g h).1) (fun g hg hm => hm.imp id (nwl g hg)) t h) hels
        · exact Els.imp (fun _ _ h => KR_step hoff (fun g _ h => .inr (hlv g h).1) (fun g hg hm => hm.imp id (nwl g hg)) t h) hy
    · rcases hq j with h | ⟨h, _⟩
      · refine .inl ⟨by rw [upd_ne _ _ hjb, h], upd_ne _ _ hjb, fun hl g hbg hD => ?_⟩
        exact (hlv g hD).2 j (by rw [h]; exact hl) hbg
      · right
        rw [upd_ne _ _ hjb, h]
        trivial
  · intro j j' g hl hl' hbj hbj'
    rcases lvi j g hl hbj with ⟨rfl, e1⟩ | ⟨_, hl1', hb1⟩ <;> rcases lvi j' g hl' hbj' with ⟨rfl, e2⟩ | ⟨_, hl2', hb2⟩
    · rfl
    · by_cases hlt : g < w.heap.size
      · exact absurd hb2 ((hnew g e1 hlt).2 j' hl2')
      · exact absurd (H.lt (hl1 j' hl2') hb2) hlt
    · by_cases hlt : g < w.heap.size
      · exact absurd hb1 ((hnew g e2 hlt).2 j hl1')
      · exact absurd (H.lt (hl1 j hl1') hb1) hlt
    · exact H.sep j j' g (hl1 j hl1') (hl1 j' hl2') hb1 hb2
  · intro j g hl hbj hmx
    rcases lvi j g hl hbj with ⟨rfl, e1⟩ | ⟨_, hl1', hb1⟩
    · obtain ⟨j', h1, h2⟩ := (hnew g e1 (H.mx g hmx)).1
      exact H.ext j' g h1 h2 hmx
    · exact H.ext j g (hl1 j hl1') hb1 hmx


theorem putRow_sound (H : HRel MX w ρ hp) {hp1 : Heap} (hq : ∀ q, hp1 q = hp q ∨ (hp1 q = .gone ∧ hp q ≠ .unused)) (hqb : ∀ q, hp1 q = .gone → ∀ cs, hp q ≠ .box cs) {T ty e : TypeId} {t : Ty} {i : TypeInfo} {z : Value} {by_ : Nat} {l m : List t.den} {v : Value} {xs : List Value} {A : Option Addr} {c : Nat}
    (hu : P.underlying T = some (.slice e)) (hi : P.info? e = some i) (hz : i.zero = some z) (hsz : i.size = t.sz) (hby : i.bytes = by_) (hzs : z.cells.size = t.sz) (hby1 : 1 ≤ by_)
    (hown : w.ownsRow 0 e t.sz v l.length xs) (hels : Els (t.KR (Mut MX hp ρ) w) l xs) (hlv : ∀ g, v.ownBlock = some g → Lv hp ρ g ∧ ∀ j, live (hp1 j) → ¬ At (ρ j) g)
    (hm : (A = none ∧ m = []) ∨ ∃ a ys, A = some a ∧ Els (t.KR (Mut MX hp ρ) w) m ys ∧ ∀ (q : Nat) (u : Value), ys[q]? = some u → w.cell? (a.add q) = some u)
    (hk : (putRow e t by_ l m).go b hp1 rs ws K = some r) :
    ∃ x b' hp' rs' ws' v' w' ρ', K x b' hp' rs' ws' = some r ∧ (Builtin.append_ #[T, T] ty #[v, .slice A m.length c]).run P w = .ok v' w' ∧ Step MX w ρ hp w' ρ' hp' ∧ R (Mut MX hp' ρ') w' ρ' hp' x v' := by
  refine putRow_core (T := T) (T2 := T) (vx := .slice A m.length c) H hq hqb hels hlv (fun hle => ?_) hk
  have hbytes : (l.length + m.length) * by_ ≤ 140737488355328 := by
    have := Nat.mul_le_mul_right by_ hle
    exact Nat.le_trans this (Nat.div_mul_le_self _ _)
  have hmax : l.length + m.length ≤ maxLen := by
    have := Nat.le_trans (Nat.le_mul_of_pos_right (l.length + m.length) hby1) hbytes
    unfold maxLen
    omega
  rcases hm with ⟨rfl, rfl⟩ | ⟨a, ys, rfl, hy, hcell⟩
  · exact ⟨v, w, [], run_append_none' hu hi hown, rfl, by simpa using hown, ⟨rfl, rfl, rfl, Nat.le_refl _, fun _ _ _ => rfl⟩, .inl rfl⟩
  · have hyl := Els.len (fun _ _ h => KR_len t h) hy
    obtain ⟨v', w', h1, h2, h3, _, h5⟩ := run_append_own_at (P := P) (w := w) 0 T ty e i z t.sz by_ hu hi hz hsz hby hzs t.sz_pos v l.length xs hown a m.length c ys hyl hcell (Els.one (sz := t.sz) (fun _ _ h => KR_one t h) hy) hmax hbytes (Nat.zero_le _)
    exact ⟨v', w', ys, h1, hy, h2, h3, h5.imp id (fun h g hg => by rw [h] at hg; injection hg with hg; omega)⟩

theorem putZeros_sound (H : HRel MX w ρ hp) {hp1 : Heap} (hq : ∀ q, hp1 q = hp q ∨ (hp1 q = .gone ∧ hp q ≠ .unused)) (hqb : ∀ q, hp1 q = .gone → ∀ cs, hp q ≠ .box cs) {T T2 ty e : TypeId} {t : Ty} {i : TypeInfo} {z : Value} {d : t.den} {by_ : Nat} {l : List t.den} {v : Value} {xs : List Value}
    (hu : P.underlying T = some (.slice e)) {k : IntKind} (hu2 : P.underlying T2 = some (.int k)) (hi : P.info? e = some i) (hz : i.zero = some z) (hsz : i.size = t.sz) (hby : i.bytes = by_) (hzs : z.cells.size = t.sz) (hby1 : 1 ≤ by_) (hd : t.KR (Mut MX hp ρ) w d z.cells.toList)
    (hown : w.ownsRow 0 e t.sz v l.length xs) (hels : Els (t.KR (Mut MX hp ρ) w) l xs) (hlv : ∀ g, v.ownBlock = some g → Lv hp ρ g ∧ ∀ j, live (hp1 j) → ¬ At (ρ j) g)
    {kx : IntKind} {n : Int} (hn : 0 ≤ n)
    (hk : (putRow e t by_ l (List.replicate n.toNat d)).go b hp1 rs ws K = some r) :
    ∃ x b' hp' rs' ws' v' w' ρ', K x b' hp' rs' ws' = some r ∧ (Builtin.append_ #[T, T2] ty #[v, .int kx n]).run P w = .ok v' w' ∧ Step MX w ρ hp w' ρ' hp' ∧ R (Mut MX hp' ρ') w' ρ' hp' x v' := by
  refine putRow_core (T := T) (T2 := T2) (vx := .int kx n) H hq hqb hels hlv (fun hle => ?_) hk
  rw [List.length_replicate] at hle
  have hbytes : (l.length + n.toNat) * by_ ≤ 140737488355328 := by
    have := Nat.mul_le_mul_right by_ hle
    exact Nat.le_trans this (Nat.div_mul_le_self _ _)
  have hels2 : Els (t.KR (Mut MX hp ρ) w) (List.replicate n.toNat d) (Builtin.zeroCells z.cells n.toNat).toList := by
    have h := madeCells_repl z.cells (by rw [hzs]; exact t.sz_pos) n.toNat
    rw [show Builtin.zeroCells z.cells n.toNat = madeCells z.cells (n.toNat * z.cells.size) by unfold Builtin.zeroCells madeCells; rfl, h]
    exact Els_replicate hd n.toNat
  have hnn : (n.toNat : Int) = n := by omega
  obtain ⟨v', w', h1, h2, h3, h4⟩ := run_append_zeros (P := P) w 0 T T2 ty e i z t.sz by_ hu hu2 hi hz hsz hby hzs t.sz_pos hby1 v l.length xs hown kx n.toNat (Els.one (sz := t.sz) (fun _ _ h => KR_one t h) hels2) hbytes (Nat.zero_le _)
  rw [hnn] at h1
  rw [List.length_replicate]
  exact ⟨v', w', _, h1, hels2, h2, h3, h4.imp id (fun h g hg => by rw [h] at hg; injection hg with hg; omega)⟩

/-- A string appended to bytes of one's own. -/
theorem run_append_str (t u ty e : TypeId) (i : TypeInfo) (ht : P.underlying t = some (.slice e)) (hu : P.underlying u = some .string) (hi : P.info? e = some i) (hz : i.zero = some (.int .u8 0)) (hsize : i.size = 1) (hby : i.bytes = 1)
    (v : Value) (n : Nat) (xs : List Value) (hown : w.ownsRow 0 e 1 v n xs) (s : ByteArray) (hbytes : n + s.size ≤ 140737488355328) :
    ∃ v' w', (Builtin.append_ #[t, u] ty #[v, .string s]).run P w = .ok v' w' ∧ w'.ownsRow 0 e 1 v' (n + s.size) (xs ++ Lib.strCells s) ∧ w.grownBy w' v.ownBlock ∧ (v'.ownBlock = v.ownBlock ∨ ∀ g, v'.ownBlock = some g → w.heap.size ≤ g) := by
  have h63 : n + s.size ≤ maxLen := by simp only [maxLen]; omega
  rcases hown.2 with ⟨rfl, rfl⟩ | ⟨g, cap, cur, rfl, hbg, hg, hnc, hcm, hcs, htake⟩
  · obtain ⟨v', w', h1, h2, h3, h4⟩ := Lib.run_append_own_string (P := P) w w.heap.size t u ty e i ht hu hi hz hsize hby (.slice none 0 0) 0 xs ⟨hown.1, .inl ⟨rfl, rfl⟩⟩ s h63 hbytes (Nat.le_refl _)
    refine ⟨v', w', h1, ⟨h2.1, h2.2.imp id fun ⟨g, cap, cur, a, _, c⟩ => ⟨g, cap, cur, a, Nat.zero_le _, c⟩⟩, h3, .inr fun g hg => (h2.lt g hg).1⟩
  · have hxl : xs.length = n := by simpa using hown.1
    have hlen : (xs ++ Lib.strCells s).length = (n + s.size) * 1 := by rw [List.length_append, hxl, Lib.strCells_length, Nat.mul_one]
    by_cases hroom : n + s.size ≤ cap
    · have hcs' : cur.size = cap := by simpa using hcs
      have hr := Lib.run_append_room_stringF (P := P) w t u ty e i ht hu hi hsize g n cap cur (0, 0) hg (Nat.zero_le _) s hroom (by omega)
      refine ⟨_, _, hr, ⟨hlen, .inr ⟨g, cap, _, rfl, hbg, setRow_heap w g cur _ e _ hg, hroom, hcm, ?_, ?_⟩⟩, ⟨rfl, rfl, rfl, by simp, fun k _ hk => setRow_other w g k _ (fun e => hk (by simp [Value.ownBlock, e]))⟩, .inl rfl⟩
      · simp only [List.size_toArray, List.length_append, List.length_take, List.length_drop, Array.length_toList, Lib.strCells_length]
        omega
      · have ht' : cur.toList.take n = xs := by simpa using htake
        rw [ht', ← hlen]
        exact List.take_left
    · have holds : ∀ j u, xs[j]? = some u → w.cell? ((⟨g, 0, none⟩ : Addr).add j) = some u := hown.cells (g := g) rfl
      have hr := Lib.run_append_grow_string (P := P) w t u ty e i (.int .u8 0) ht hu hi hz ⟨g, 0, none⟩ n cap xs (by rw [hsize]; simpa using hxl) holds s (by omega) (by omega) (by rw [hby]; exact growslice_fits (by omega) (by omega))
      have hge := grownCap_ge w (n + s.size) cap e
      have hcm2 : grownCap w (n + s.size) cap e ≤ maxLen := grownCap_le_maxLen w (n + s.size) cap e h63
      refine ⟨_, _, hr, ⟨hlen, .inr ⟨w.heap.size, _, _, rfl, Nat.zero_le _, heap_alloc_new w.drew _, hge, hcm2, ?_, ?_⟩⟩, ⟨rfl, rfl, rfl, by simp, fun k hk _ => by first | exact heap_alloc_old w.drew _ k hk | exact heap_alloc_old w.drew _ hk⟩, .inr fun g hg => ?_⟩
      · have hz1 : (Value.int IntKind.u8 0).cells.size = 1 := rfl
        simp only [Array.size_append, List.size_toArray, size_zeroCells, hz1, hxl, Lib.strCells_length]
        omega
      · simp only [Array.toList_append, List.append_assoc]
        rw [← List.append_assoc, ← hlen]
        exact List.take_left
      · simp only [Value.ownBlock] at hg
        injection hg with hg
        omega

theorem strCells_els {M : Nat → Prop} (s : ByteArray) : Els (Ty.KR M w (.int .u8)) (numsOf s) (Lib.strCells s) := by
  have key : ∀ l : List UInt8, Els (Ty.KR M w (.int .u8)) (l.map fun b => (b.toNat : Int)) (l.map fun b => Value.int .u8 (b.toNat : Int)) := by
    intro l
    induction l with
    | nil => rfl
    | cons x l ih => exact ⟨[.int .u8 (x.toNat : Int)], _, rfl, rfl, ih⟩
  have h := key s.data.toList
  unfold numsOf
  have e : Lib.strCells s = s.data.toList.map fun b => Value.int .u8 (b.toNat : Int) := by
    simp [Lib.strCells]
  rw [e]
  exact h

theorem putStr_sound (H : HRel MX w ρ hp) {hp1 : Heap} (hq : ∀ q, hp1 q = hp q ∨ (hp1 q = .gone ∧ hp q ≠ .unused)) (hqb : ∀ q, hp1 q = .gone → ∀ cs, hp q ≠ .box cs) {T T2 ty e : TypeId} {i : TypeInfo} {l : List Int} {v : Value} {xs : List Value} {s : ByteArray}
    (hu : P.underlying T = some (.slice e)) (hu2 : P.underlying T2 = some .string) (hi : P.info? e = some i) (hz : i.zero = some (.int .u8 0)) (hsz : i.size = 1) (hby : i.bytes = 1)
    (hown : w.ownsRow 0 e 1 v l.length xs) (hels : Els (Ty.KR (Mut MX hp ρ) w (.int .u8)) l xs) (hlv : ∀ g, v.ownBlock = some g → Lv hp ρ g ∧ ∀ j, live (hp1 j) → ¬ At (ρ j) g)
    (hk : (putRow e (.int .u8) 1 l (numsOf s)).go b hp1 rs ws K = some r) :
    ∃ x b' hp' rs' ws' v' w' ρ', K x b' hp' rs' ws' = some r ∧ (Builtin.append_ #[T, T2] ty #[v, .string s]).run P w = .ok v' w' ∧ Step MX w ρ hp w' ρ' hp' ∧ R (Mut MX hp' ρ') w' ρ' hp' x v' := by
  refine putRow_core (t := .int .u8) (T := T) (T2 := T2) (vx := .string s) H hq hqb hels hlv (fun hle => ?_) hk
  have hl := numsOf_length s
  rw [Nat.div_one] at hle
  have hle : l.length + (numsOf s).length ≤ 140737488355328 := hle
  obtain ⟨v', w', h1, h2, h3, h4⟩ := run_append_str (P := P) (w := w) T T2 ty e i hu hu2 hi hz hsz hby v l.length xs hown s (by omega)
  refine ⟨v', w', _, h1, strCells_els s, ?_, h3, h4⟩
  have e1 : l.length + (numsOf s).length = l.length + s.size := by omega
  show w'.ownsRow 0 e 1 v' (l.length + (numsOf s).length) _
  rw [e1]
  exact h2

end
theorem els_byte {M : Nat → Prop} {w : World} : {l : List Int} → {xs : List Value} → Els (Ty.KR M w (.int .u8)) l xs → xs = l.map (Value.int .u8)
  | [], _, h => h
  | x :: l, _, ⟨c, r, e, hc, hr⟩ => by
    have hc : c = [.int .u8 x] := hc
    rw [e, hc, els_byte hr]
    rfl
theorem BRow.put {w : World} {g c : Nat} {l : List Int} (h : BRow w g l c) (m : List Int) (hm : l.length + m.length ≤ c) : BRow (w.setCells g l.length (m.map (Value.int .u8))) g (l ++ m) c := by
  obtain ⟨extra, e, fr, hc, hf, hh⟩ := h
  have key : ∀ (ys : List Value) (o : Nat) (W : World) (cur : Array Value), W.heap[g]? = some (.cells cur e fr) → o + ys.length ≤ cur.size → (W.setCells g o ys).heap[g]? = some (.cells (cur.toList.take o ++ ys ++ cur.toList.drop (o + ys.length)).toArray e fr) := by
    intro ys
    induction ys with
    | nil =>
      intro o W cur h _
      show W.heap[g]? = _
      rw [h]
      simp
    | cons y r ih =>
      intro o W cur h hl
      simp only [List.length_cons] at hl
      have h2 : (W.setCell ⟨g, o, none⟩ y).heap[g]? = some (.cells (cur.setIfInBounds o y) e fr) := by
        have hlt : g < W.heap.size := (Array.getElem?_eq_some_iff.1 h).1
        have hv : W.heap[g] = _ := (Array.getElem?_eq_some_iff.1 h).2
        simp only [World.setCell]
        rw [Array.getElem?_eq_getElem (by simpa using hlt), Array.getElem_modify]
        simp [hv]
      rw [World.setCells, ih (o + 1) _ _ h2 (by simp; omega)]
      congr 2
      apply Array.ext'
      have ho : o < cur.toList.length := by rw [Array.length_toList]; omega
      simp only [Array.toList_setIfInBounds, List.length_cons]
      rw [List.take_set, List.drop_set_of_lt (by omega), List.take_succ_eq_append_getElem ho, List.set_append_right _ _ (by rw [List.length_take]; omega), show o + 1 + r.length = o + (r.length + 1) by omega]
      have ho' : o < cur.size := by omega
      simp [Nat.min_eq_left (Nat.le_of_lt ho')]
  have hsz : (l.map (Value.int .u8) ++ extra).toArray.size = c := by simp; omega
  refine ⟨extra.drop m.length, e, fr, by simp; omega, hf, ?_⟩
  rw [key (m.map (Value.int .u8)) l.length w _ hh (by rw [hsz]; simpa using hm)]
  congr 2
  simp only [List.map_append, List.length_map, List.append_assoc]
  have e1 : (l.map (Value.int .u8) ++ extra).take l.length = l.map (Value.int .u8) := List.take_left' (by simp)
  have e2 : (l.map (Value.int .u8) ++ extra).drop (l.length + m.length) = extra.drop m.length := by
    rw [List.drop_append, List.drop_eq_nil_of_le (by simp), List.nil_append]
    congr 1
    simp
  rw [e1, e2]
section
variable {P : Program} {w : World}
set_option maxHeartbeats 1000000 in
/-- append of cells that are read once. -/
theorem run_append_bts (t u ty e : TypeId) (i : TypeInfo) (d : TypeDesc) (ht : P.underlying t = some (.slice e)) (hu : P.underlying u = some d) (hd : d = .string ∨ ∃ q, d = .slice q) (hi : P.info? e = some i) (hz : i.zero = some (.int .u8 0)) (hsize : i.size = 1) (hby : i.bytes = 1)
    {g c : Nat} {l m : List Int} (h : BRow w g l c) (hlc : l.length ≤ c) (x : Value) (hx : (Builtin.lenOf x).run P w = .ok m.length w) (hf : ∀ W, (∀ a, W.cell? a = w.cell? a) → (Builtin.firstCells 1 m.length x).run P W = .ok (m.map (Value.int .u8)).toArray W) (hbytes : l.length + m.length ≤ 140737488355328) :
    ∃ g' c' w', (Builtin.append_ #[t, u] ty #[.slice (some ⟨g, 0, none⟩) l.length c, x]).run P w = .ok (.slice (some ⟨g', 0, none⟩) (l.length + m.length) c') w' ∧ l.length + m.length ≤ c' ∧ BRow w' g' (l ++ m) c' ∧ w.grownBy w' (some g) ∧ (g' = g ∨ g' = w.heap.size) := by
  have hl := run_loadCells_list (P := P)
  by_cases hroom : l.length + m.length ≤ c
  · have hst := run_storeCells_cells (P := P) g l.length (m.map (Value.int .u8)) 0 w (fun j hj => by
        obtain ⟨extra, e0, fr, hc, hfr, hh⟩ := h
        simp only [List.length_map] at hj
        simp only [World.cell?, hh]
        rw [Array.getElem?_eq_getElem (by simp; omega)]
        rfl) (fun j hj => h.frozen' (by simp only [List.length_map] at hj; omega)) (fun v hv => by
        obtain ⟨y, _, rfl⟩ := List.mem_map.1 hv
        rfl)
    obtain ⟨s1, s2, s3, s4⟩ := Z.setCells_same g (m.map (Value.int .u8)) l.length w
    refine ⟨g, c, w.setCells g l.length (m.map (Value.int .u8)), ?_, hroom, h.put m hroom, ⟨s1, s2, s3, by rw [s4]; exact Nat.le_refl _, fun k _ hk => Z.setCells_far _ _ k (fun e => hk (by rw [e]))⟩, .inl rfl⟩
    have ha : (⟨g, 0, none⟩ : Addr).add l.length = ⟨g, l.length, none⟩ := Z.add_plain g _
    simp only [Nat.add_zero] at hst
    rcases hd with rfl | ⟨q, rfl⟩
    all_goals simp [Builtin.append_, run_underlying ht, run_underlying hu, sizeOf, typeInfo, hi, hsize, hx, hroom, hf w (fun _ => rfl), ha, hst]
  · have hfit := growslice_fits (old := c) (need := l.length + m.length) (bytes := 1) (by omega) (by omega)
    have h48 : ¬ (281474976710656 < Builtin.nextslicecap (l.length + m.length) c) := by omega
    have hfo := run_firstCells_some (P := P) w.drew 1 l.length ⟨g, 0, none⟩ l.length c (l.map (Value.int .u8)) (by simp) (fun j v hj => by
      rw [Z.add_plain]
      rw [List.getElem?_map] at hj
      cases hq : l[j]? with
      | none => rw [hq] at hj; cases hj
      | some y =>
        rw [hq] at hj
        have hjl := (List.getElem?_eq_some_iff.1 hq).1
        have := h.cell hjl
        rw [List.getD_eq_getElem?_getD, hq] at this
        rw [← hj]
        exact this)
    have hfx := hf w.drew (fun _ => rfl)
    have hge := grownCap_ge w (l.length + m.length) c e
    refine ⟨w.heap.size, grownCap w (l.length + m.length) c e, w.drew.alloc (.cells ((l.map (Value.int .u8)).toArray ++ (m.map (Value.int .u8)).toArray ++ Builtin.zeroCells (Value.int .u8 0).cells (grownCap w (l.length + m.length) c e - (l.length + m.length))) e), ?_, hge, ⟨(Builtin.zeroCells (Value.int .u8 0).cells (grownCap w (l.length + m.length) c e - (l.length + m.length))).toList, e, (0, 0), ?_, .inl rfl, ?_⟩, ⟨rfl, rfl, rfl, by simp, fun k hk _ => heap_alloc_old w.drew _ hk⟩, .inr rfl⟩
    · rcases hd with rfl | ⟨q, rfl⟩
      all_goals
        simp [Builtin.append_, run_underlying ht, run_underlying hu, sizeOf, typeInfo, zeroValue, hi, hz, hsize, hby, hx, hroom, h48, Question.forced, hfo, hfx, newRow, grownCap]
        congr 2
        apply Array.ext'
        simp
    · have hz1 : (Value.int IntKind.u8 0).cells.size = 1 := rfl
      simp [size_zeroCells, hz1]
      omega
    · refine (heap_alloc_new w.drew _).trans ?_
      congr 2
      apply Array.ext'
      simp
end
section
variable {P : Program} {MX : Nat → Prop} {w : World} {ρ : Nat → Value} {hp : Heap} {X : Type} {b : Nat} {rs ws : List Nat} {K : AV → Nat → Heap → List Nat → List Nat → Option X} {r : X}
theorem putBts_core (H : HRel MX w ρ hp) {q : Nat} {l m : List Int} (hq0 : hp q = .bts l) {T T2 ty : TypeId} {vx : Value}
    (main : ∀ g c, ρ q = .slice (some ⟨g, 0, none⟩) l.length c → l.length ≤ c → BRow w g l c → l.length + m.length ≤ 140737488355328 → ∃ g' c' w', (Builtin.append_ #[T, T2] ty #[.slice (some ⟨g, 0, none⟩) l.length c, vx]).run P w = .ok (.slice (some ⟨g', 0, none⟩) (l.length + m.length) c') w' ∧ l.length + m.length ≤ c' ∧ BRow w' g' (l ++ m) c' ∧ w.grownBy w' (some g) ∧ (g' = g ∨ g' = w.heap.size))
    (hk : (putBts l m).go b (upd hp q .gone) rs ws K = some r) :
    ∃ x b' hp' rs' ws' v' w' ρ', K x b' hp' rs' ws' = some r ∧ (Builtin.append_ #[T, T2] ty #[ρ q, vx]).run P w = .ok v' w' ∧ Step MX w ρ hp w' ρ' hp' ∧ R (Mut MX hp' ρ') w' ρ' hp' x v' := by
  unfold putBts at hk
  simp only [Eff.go] at hk
  split at hk
  case isFalse => cases hk
  rename_i hle
  split at hk
  case h_2 => cases hk
  rename_i hu'
  have hok := H.ok q
  rw [hq0] at hok
  obtain ⟨g, c, h1, h2, h3⟩ := hok
  obtain ⟨g', c', w', hrun, hc', hrow, hg, hat_⟩ := main g c h1 h2 h3 hle
  have hqb : q ≠ b := by
    intro e
    subst e
    rw [upd_same] at hu'
    cases hu'
  have hbs : hp b = .unused := by rw [upd_ne _ _ (Ne.symm hqb)] at hu'; exact hu'
  have hoff : Off (fun x => some g = some x) w w' := Off.grown hg
  have blkq : At (ρ q) = fun b => (some g : Option Nat) = some b := by rw [h1]; rfl
  have hlq : live (hp q) := by rw [hq0]; trivial
  have hlv : Lv hp ρ g := ⟨q, hlq, by rw [blkq]⟩
  have hsep : ∀ j, live (upd hp q .gone j) → ¬ At (ρ j) g := by
    intro j hj hbj
    by_cases hjq : j = q
    · subst hjq; rw [upd_same] at hj; exact hj
    · rw [upd_ne _ _ hjq] at hj
      exact hjq (H.sep j q g hj hlq hbj (by rw [blkq]))
  have hl1 : ∀ j, live (upd hp q .gone j) → live (hp j) := by
    intro j hj
    by_cases hjq : j = q
    · subst hjq; exact hlq
    · rwa [upd_ne _ _ hjq] at hj
  have lvi : ∀ j x, live (upd (upd hp q .gone) b (.bts (l ++ m)) j) → At (upd ρ b (.slice (some ⟨g', 0, none⟩) (l.length + m.length) c') j) x → (j = b ∧ x = g') ∨ (j ≠ b ∧ live (upd hp q .gone j) ∧ At (ρ j) x) := by
    intro j x hl hb'
    by_cases hjb : j = b
    · subst hjb
      rw [upd_same] at hb'
      injection hb' with hb'
      exact .inl ⟨rfl, hb'.symm⟩
    · rw [upd_ne _ _ hjb] at hl hb'
      exact .inr ⟨hjb, hl, hb'⟩
  have old : ∀ j, hp j ≠ .unused → Old (ρ j) (upd ρ b (.slice (some ⟨g', 0, none⟩) (l.length + m.length) c') j) ∧ upd (upd hp q .gone) b (.bts (l ++ m)) j ≠ .unused := by
    intro j hj
    have hne : j ≠ b := fun e => hj (e ▸ hbs)
    rw [upd_ne _ _ hne, upd_ne _ _ hne]
    refine ⟨Old.refl _, ?_⟩
    by_cases hjq : j = q
    · subst hjq; rw [upd_same]; simp
    · rw [upd_ne _ _ hjq]; exact hj
  have nwl : ∀ x, x < w.heap.size → Lv (upd (upd hp q .gone) b (.bts (l ++ m))) (upd ρ b (.slice (some ⟨g', 0, none⟩) (l.length + m.length) c')) x → Lv hp ρ x := by
    rintro x hlt ⟨j, hl, hbj⟩
    rcases lvi j x hl hbj with ⟨_, rfl⟩ | ⟨_, k1, k2⟩
    · rcases hat_ with e | e
      · rw [e]; exact hlv
      · omega
    · exact ⟨j, hl1 j k1, k2⟩
  refine ⟨_, _, _, _, _, _, w', upd ρ b (.slice (some ⟨g', 0, none⟩) (l.length + m.length) c'), hk, by rw [h1]; exact hrun, ?_, by rw [upd_same]; simp, by rw [upd_same]; rfl, ⟨_, _, _, rfl⟩⟩
  refine Step.mk' (D := fun x => some g = some x) H hoff (fun x _ h => by injection h with h; rw [← h]; exact hlv) old nwl ?_ ?_ ?_ (fun j cs hj => ?_)
  case refine_4 =>
    left
    have hjb : j ≠ b := fun e => by rw [e, hbs] at hj; cases hj
    have hjq : j ≠ q := fun e => by rw [e, hq0] at hj; cases hj
    refine ⟨by rw [upd_ne _ _ hjb, upd_ne _ _ hjq], fun x hbx hD => ?_⟩
    injection hD with hD
    exact hsep j (by rw [upd_ne _ _ hjq, hj]; trivial) (by rw [hD]; exact hbx)
  · intro j
    by_cases hjb : j = b
    · subst hjb
      right
      rw [upd_same]
      refine ⟨g', c', ?_, ?_, hrow⟩
      · rw [upd_same, List.length_append]
      · rw [List.length_append]; exact hc'
    · by_cases hjq : j = q
      · right
        rw [upd_ne _ _ hjb, hjq, upd_same]
        trivial
      · refine .inl ⟨by rw [upd_ne _ _ hjb, upd_ne _ _ hjq], upd_ne _ _ hjb, fun hl x hbx hD => ?_⟩
        injection hD with hD
        exact hsep j (by rw [upd_ne _ _ hjq]; exact hl) (by rw [hD]; exact hbx)
  · intro j j' x hl hl' hbj hbj'
    rcases lvi j x hl hbj with ⟨rfl, e1⟩ | ⟨_, k1, k2⟩ <;> rcases lvi j' x hl' hbj' with ⟨rfl, e2⟩ | ⟨_, k3, k4⟩
    · rfl
    · exfalso
      rcases hat_ with e | e
      · exact hsep j' k3 (by rw [← e, ← e1]; exact k4)
      · have := H.lt (hl1 j' k3) k4; omega
    · exfalso
      rcases hat_ with e | e
      · exact hsep j k1 (by rw [← e, ← e2]; exact k2)
      · have := H.lt (hl1 j k1) k2; omega
    · exact H.sep j j' x (hl1 j k1) (hl1 j' k3) k2 k4
  · intro j x hl hbj hmx
    rcases lvi j x hl hbj with ⟨rfl, e1⟩ | ⟨_, k1, k2⟩
    · rcases hat_ with e | e
      · exact H.ext q x hlq (by rw [blkq, e1, e]) hmx
      · have := H.mx x hmx; omega
    · exact H.ext j x (hl1 j k1) k2 hmx
end
theorem first_str {P : Program} (s : ByteArray) (W : World) : (Builtin.firstCells 1 (numsOf s).length (.string s)).run P W = .ok ((numsOf s).map (Value.int .u8)).toArray W := by
  have hl : (List.map (fun b : UInt8 => Value.int .u8 b.toNat) s.data.toList).length = s.size := by simp
  have hm : (numsOf s).map (Value.int .u8) = List.map (fun b : UInt8 => Value.int .u8 b.toNat) s.data.toList := by
    rw [numsOf, List.map_map]
    rfl
  rw [hm, numsOf_length]
  simp [Builtin.firstCells]
  apply Array.ext'
  simp
section
variable {Rt : Type} {P : Program} {MX : Nat → Prop} {w : World} {ρ : Nat → Value} {hp : Heap} {b : Nat} {rs ws : List Nat} {K : AV → Nat → Heap → List Nat → List Nat → Option Rt} {r : Rt}
theorem appendZE_sound (H : HRel MX w ρ hp) {T T2 ty e : TypeId} (hu : P.underlying T = some (.slice e)) {s x : AV} {vs vx : Value} (hs : R (Mut MX hp ρ) w ρ hp s vs) (hx : R (Mut MX hp ρ) w ρ hp x vx) (hk : (appendZE P T2 e s x).go b hp rs ws K = some r) :
    ∃ x b' hp' rs' ws' v' w' ρ', K x b' hp' rs' ws' = some r ∧ (Builtin.append_ #[T, T2] ty #[vs, vx]).run P w = .ok v' w' ∧ Step MX w ρ hp w' ρ' hp' ∧ R (Mut MX hp' ρ') w' ρ' hp' x v' := by
  unfold appendZE at hk
  split at hk
  case h_3 => cases hk
  case h_2 =>
    rename_i x hu2
    rw [show vx = _ from hx]
    split at hk
    case h_2 => cases hk
    rename_i hsz hz hby
    obtain ⟨i, hi, hz'⟩ : ∃ i, P.info? e = some i ∧ i.zero = some (.int .u8 0) := by
      cases hi : P.info? e with
      | none => rw [hi] at hz; cases hz
      | some i => rw [hi] at hz; exact ⟨i, rfl, hz⟩
    have hsi : i.size = 1 := by simpa [sizeAt, hi] using hsz
    have hbi : i.bytes = 1 := by simpa [hi] using hby
    split at hk
    · rw [show vs = _ from hs]
      exact putStr_sound (l := []) H (fun q => .inl rfl) (fun q h cs => by rw [h]; simp) hu hu2 hi hz' hsi hbi (World.ownsRow_nil w 0 e 1) rfl (fun g hg => by simp [Value.ownBlock] at hg) hk
    · rename_i q
      obtain ⟨hne, rfl, A0, n0, c0, hv⟩ := hs
      simp only [Eff.go] at hk
      have hok := H.ok q
      split at hk
      case h_3 => cases hk
      case h_2 =>
        rename_i l hq
        simp only [Eff.go] at hk
        rw [hq] at hok
        obtain ⟨gq, cq, eq_, _⟩ := hok
        rw [hd_slice eq_] at hv ⊢
        refine putBts_core H hq (fun g c q1 q2 q3 q4 => run_append_bts T T2 ty e i .string hu hu2 (.inl rfl) hi hz' hsi hbi q3 q2 (.string x) ?_ (fun W _ => first_str x W) q4) hk
        rw [numsOf_length]
        simp [Builtin.lenOf]
      rename_i e' l hq
      split at hk
      case h_2 => cases hk
      rename_i he
      have he := Nat.eq_of_beq_eq_true he
      subst he
      rw [hq] at hok
      obtain ⟨xs, g1, g2⟩ := hok
      rw [hd_own g1] at hv ⊢
      simp only [Eff.go] at hk
      have hqq : ∀ j, upd hp q .gone j = hp j ∨ (upd hp q .gone j = .gone ∧ hp j ≠ .unused) := by
        intro j
        by_cases hj : j = q
        · subst hj; exact .inr ⟨upd_same _ _ _, by rw [hq]; simp⟩
        · exact .inl (upd_ne _ _ hj)
      have hqb : ∀ j, upd hp q .gone j = .gone → ∀ cs, hp j ≠ .box cs := by
        intro j h cs hj
        by_cases hjq : j = q
        · subst hjq; rw [hq] at hj; cases hj
        · rw [upd_ne _ _ hjq, hj] at h; cases h
      refine putStr_sound H hqq hqb hu hu2 hi hz' hsi hbi g1 g2 (fun g hg => ?_) hk
      have hbg : At (ρ q) g := by rw [blk_own ⟨A0, n0, c0, hv⟩]; exact hg
      refine ⟨⟨q, by rw [hq]; trivial, hbg⟩, fun j hj hbj => ?_⟩
      by_cases hjq : j = q
      · subst hjq; rw [upd_same] at hj; exact hj
      · rw [upd_ne _ _ hjq] at hj
        exact hjq (H.sep j q g hj (by rw [hq]; trivial) hbj hbg)
    · cases hk
  rename_i k kx n hu2
  rw [show vx = _ from hx]
  split at hk
  case h_2 => cases hk
  rename_i t sz z by_ ht hsz hz hby
  split at hk
  case h_2 => cases hk
  rename_i d h1 h2 h3 h4 h5
  have h1 := Nat.eq_of_beq_eq_true h1
  have h3 := Nat.le_of_ble_eq_true h3
  have h4 := Nat.eq_of_beq_eq_true h4
  subst h1
  obtain ⟨i, z', hi, hz', hr⟩ := zeroCellsAt_some hz
  have hzl : z'.cells.size = t.sz := by
    have := Rs_len (hr (fun _ => False) w ρ hp)
    simp at this; omega
  have hsi : i.size = t.sz := by simpa [sizeAt, hi] using hsz
  have hbi : i.bytes = by_ := by simpa [hi] using hby
  have hkz := dec_sound (M := Mut MX hp ρ) (w := w) (ρ := ρ) (hp := hp) t h5 (hr _ _ _ _)
  simp only [Eff.go] at hk
  split at hk
  case isFalse => cases hk
  rename_i hn
  split at hk
  · rw [show vs = _ from hs]
    exact putZeros_sound (l := []) H (fun q => .inl rfl) (fun q h cs => by rw [h]; simp) hu hu2 hi hz' hsi hbi hzl h3 hkz (World.ownsRow_nil w 0 e t.sz) rfl (fun g hg => by simp [Value.ownBlock] at hg) hn hk
  · rename_i q
    obtain ⟨hne, rfl, A0, n0, c0, hv⟩ := hs
    simp only [Eff.go] at hk
    have hok := H.ok q
    split at hk
    case h_2 => cases hk
    rename_i e' t' l hq
    split at hk
    case h_2 => cases hk
    rename_i h he _
    have he := Nat.eq_of_beq_eq_true he
    subst he h
    rw [hq] at hok
    obtain ⟨xs, g1, g2⟩ := hok
    rw [hd_own g1] at hv ⊢
    simp only [Eff.go] at hk
    have hqq : ∀ j, upd hp q .gone j = hp j ∨ (upd hp q .gone j = .gone ∧ hp j ≠ .unused) := by
      intro j
      by_cases hj : j = q
      · subst hj; exact .inr ⟨upd_same _ _ _, by rw [hq]; simp⟩
      · exact .inl (upd_ne _ _ hj)
    have hqb : ∀ j, upd hp q .gone j = .gone → ∀ cs, hp j ≠ .box cs := by
      intro j h cs hj
      by_cases hjq : j = q
      · subst hjq; rw [hq] at hj; cases hj
      · rw [upd_ne _ _ hjq, hj] at h; cases h
    refine putZeros_sound H hqq hqb hu hu2 hi hz' hsi hbi hzl h3 hkz g1 g2 (fun g hg => ?_) hn hk
    have hbg : At (ρ q) g := by rw [blk_own ⟨A0, n0, c0, hv⟩]; exact hg
    refine ⟨⟨q, by rw [hq]; trivial, hbg⟩, fun j hj hbj => ?_⟩
    by_cases hjq : j = q
    · subst hjq; rw [upd_same] at hj; exact hj
    · rw [upd_ne _ _ hjq] at hj
      exact hjq (H.sep j q g hj (by rw [hq]; trivial) hbj hbg)
  · cases hk

theorem appendE_sound (H : HRel MX w ρ hp) {T T2 ty : TypeId} {s x : AV} {vs vx : Value} (hs : R (Mut MX hp ρ) w ρ hp s vs) (hx : R (Mut MX hp ρ) w ρ hp x vx) (hk : (appendE P T T2 s x).go b hp rs ws K = some r) :
    ∃ x b' hp' rs' ws' v' w' ρ', K x b' hp' rs' ws' = some r ∧ (Builtin.append_ #[T, T2] ty #[vs, vx]).run P w = .ok v' w' ∧ Step MX w ρ hp w' ρ' hp' ∧ R (Mut MX hp' ρ') w' ρ' hp' x v' := by
  unfold appendE at hk
  split at hk
  case h_3 => cases hk
  case h_2 => exact appendZE_sound H ‹_› hs hx hk
  rename_i e hT hu
  have hT := Nat.eq_of_beq_eq_true hT
  subst hT
  split at hk
  case h_2 => cases hk
  rename_i t sz z by_ ht hsz hz hby
  split at hk
  case h_2 => cases hk
  rename_i h1 h2 h3 h4
  have h1 := Nat.eq_of_beq_eq_true h1
  have h3 := Nat.le_of_ble_eq_true h3
  have h4 := Nat.eq_of_beq_eq_true h4
  subst h1
  obtain ⟨i, z', hi, hz', hr⟩ := zeroCellsAt_some hz
  have hzl : z'.cells.size = t.sz := by
    have := Rs_len (hr (fun _ => False) w ρ hp)
    simp at this; omega
  have hsi : i.size = t.sz := by simpa [sizeAt, hi] using hsz
  have hbi : i.bytes = by_ := by simpa [hi] using hby
  split at hk
  · rw [show vs = _ from hs]
    obtain ⟨m, rs', A, c, hk, rfl, hle, hm⟩ := moreE_sound H (fun q => .inl rfl) hx hk
    exact putRow_sound (l := []) H (fun q => .inl rfl) (fun q h cs => by rw [h]; simp) hu hi hz' hsi hbi hzl h3 (World.ownsRow_nil w 0 e t.sz) rfl (fun g hg => by simp [Value.ownBlock] at hg) hm hk
  · rename_i q
    obtain ⟨hne, rfl, A0, n0, c0, hv⟩ := hs
    simp only [Eff.go] at hk
    have hok := H.ok q
    split at hk
    case h_3 => cases hk
    case h_2 =>
      rename_i l hq
      split at hk
      case h_2 => cases hk
      rename_i ht8 hd8 hb1 hz9
      have hb1 := Nat.eq_of_beq_eq_true hb1
      subst ht8 hb1
      simp only [Eff.go] at hk
      have hqq : ∀ j, upd hp q .gone j = hp j ∨ (upd hp q .gone j = .gone ∧ hp j ≠ .unused) := by
        intro j
        by_cases hj : j = q
        · subst hj; exact .inr ⟨upd_same _ _ _, by rw [hq]; simp⟩
        · exact .inl (upd_ne _ _ hj)
      obtain ⟨m, rs', A, c, hk, rfl, hle, hm⟩ := moreE_sound H (fun j => (hqq j).imp id (·.1)) hx hk
      have hz8 : i.zero = some (.int .u8 0) := by
        rw [hi] at hz9
        exact hz9
      rw [hq] at hok
      obtain ⟨gq, cq, eq_, _⟩ := hok
      rw [hd_slice eq_]
      refine putBts_core H hq (fun g c' q1 q2 q3 q4 => run_append_bts T T ty e i (.slice e) hu hu (.inr ⟨_, rfl⟩) hi hz8 hsi hbi q3 q2 (.slice A m.length c) ?_ (fun W hW => ?_) q4) hk
      · simp [Builtin.lenOf]
        rfl
      · rcases hm with ⟨rfl, rfl⟩ | ⟨a, ys, rfl, hy, hcell⟩
        · show (Builtin.firstCells 1 0 (.slice none 0 c)).run P W = .ok #[] W
          simp [Builtin.firstCells]
        · have e0 := els_byte hy
          subst e0
          exact run_firstCells_some (P := P) W 1 m.length a m.length c (m.map (Value.int .u8)) (by exact Eq.trans (List.length_map (α := Int) (Value.int .u8)) (Nat.mul_one _).symm) (fun j v hj => by rw [hW]; exact hcell j v hj)
    rename_i e' t' l hq
    split at hk
    case h_2 => cases hk
    rename_i h he _
    have he := Nat.eq_of_beq_eq_true he
    subst he h
    rw [hq] at hok
    obtain ⟨xs, g1, g2⟩ := hok
    rw [hd_own g1] at hv ⊢
    simp only [Eff.go] at hk
    have hqq : ∀ j, upd hp q .gone j = hp j ∨ (upd hp q .gone j = .gone ∧ hp j ≠ .unused) := by
      intro j
      by_cases hj : j = q
      · subst hj; exact .inr ⟨upd_same _ _ _, by rw [hq]; simp⟩
      · exact .inl (upd_ne _ _ hj)
    obtain ⟨m, rs', A, c, hk, rfl, hle, hm⟩ := moreE_sound H (fun j => (hqq j).imp id (·.1)) hx hk
    have hqb : ∀ j, upd hp q .gone j = .gone → ∀ cs, hp j ≠ .box cs := by
      intro j h cs hj
      by_cases hjq : j = q
      · subst hjq; rw [hq] at hj; cases hj
      · rw [upd_ne _ _ hjq, hj] at h; cases h
    refine putRow_sound H hqq hqb hu hi hz' hsi hbi hzl h3 g1 g2 (fun g hg => ?_) hm hk
    have hbg : At (ρ q) g := by rw [blk_own ⟨A0, n0, c0, hv⟩]; exact hg
    refine ⟨⟨q, by rw [hq]; trivial, hbg⟩, fun j hj hbj => ?_⟩
    by_cases hjq : j = q
    · subst hjq; rw [upd_same] at hj; exact hj
    · rw [upd_ne _ _ hjq] at hj
      exact hjq (H.sep j q g hj (by rw [hq]; trivial) hbj hbg)
  · cases hk

theorem strOf_foldl (l : List Int) (s : ByteArray) : l.foldl (fun r n => r.push (UInt8.ofNat n.toNat)) s = ⟨s.data ++ (l.map fun n => UInt8.ofNat n.toNat).toArray⟩ := by
  induction l generalizing s with
  | nil => simp
  | cons x l ih =>
    rw [List.foldl_cons, ih]
    simp [ByteArray.push]

theorem run_bytes_str {S T e : TypeId} (hu : P.underlying S = some (.slice e)) (he : P.underlying e = some (.int .u8)) (hd : P.underlying T = some .string) {M : Nat → Prop} {l : List Int} {A : Option Addr} {c : Nat}
    (h : (A = none ∧ l = []) ∨ ∃ a xs, A = some a ∧ Els (Ty.KR M w (.int .u8)) l xs ∧ ∀ (q : Nat) (u : Value), xs[q]? = some u → w.cell? (a.add q) = some u) : (convert S T (.slice A l.length c)).run P w = .ok (.string (strOf l)) w := by
  rw [run_convert_bytes_string w S T e A l.length c hu he hd]
  rcases h with ⟨rfl, rfl⟩ | ⟨a, xs, rfl, hels, hc⟩
  · simp [Conv.bytesToString, strOf]; rfl
  · have hx : xs = l.map (Value.int .u8) := by
      clear hc
      induction l generalizing xs with
      | nil => exact hels
      | cons y l ih =>
        obtain ⟨c, q, rfl, hy, hq⟩ := hels
        rw [show c = [.int .u8 y] from hy, ih q hq]
        rfl
    subst hx
    have hl : (loadCells a l.length).run P w = .ok (l.map (Value.int .u8)).toArray w := by
      have := run_loadCells_list (P := P) w a _ hc
      simpa using this
    rw [run_bytesToString w a l.length c l hl, strOf_foldl]
    congr 2
    show ByteArray.mk (#[] ++ _) = _
    rw [Array.empty_append]
    rfl

theorem els_ints {k : IntKind} {M : Nat → Prop} {w : World} : (l : List Int) → Els (Ty.KR M w (.int k)) l (l.map (Value.int k))
  | [] => rfl
  | x :: l => ⟨[.int k x], l.map (Value.int k), rfl, rfl, els_ints l⟩
theorem lt_of_get' {α : Type} {l : List α} {k : Nat} {x : α} (h : l[k]? = some x) : k < l.length := (List.getElem?_eq_some_iff.1 h).1

theorem convE_sound (H : HRel MX w ρ hp) {S T : TypeId} {x : AV} {vx : Value} (hx : R (Mut MX hp ρ) w ρ hp x vx) (hk : (convE P S T x).go b hp rs ws K = some r) :
    ∃ x v rs', K x b hp rs' ws = some r ∧ (convert S T vx).run P w = .ok v w ∧ R (Mut MX hp ρ) w ρ hp x v := by
  unfold convE at hk
  split at hk
  · rename_i k0 k k1 n hS hT
    rw [show vx = _ from hx]
    exact ⟨_, _, _, hk, by simp [convert, run_underlying hS, run_underlying hT, Conv.intToInt, wrp_eq], rfl⟩
  · rename_i s hS hT
    rw [show vx = _ from hx]
    exact ⟨_, _, _, hk, by simp [convert, run_underlying hS, run_underlying hT], rfl⟩
  · rename_i e hS hT
    split at hk
    · rename_i l he
      obtain ⟨A, c, rfl, hle, hr⟩ := hx
      exact ⟨_, _, _, hk, run_bytes_str hS he hT (con_cells hr), rfl⟩
    · rename_i he
      rw [show vx = _ from hx]
      exact ⟨_, _, _, hk, run_bytes_str (M := Mut MX hp ρ) (l := []) hS he hT (.inl ⟨rfl, rfl⟩), rfl⟩
    · rename_i i he
      obtain ⟨hne, rfl, A0, n0, c0, hv⟩ := hx
      simp only [Eff.go] at hk
      have hok := H.ok i
      split at hk
      · rename_i e' l hi
        rw [hi] at hok
        obtain ⟨xs, h1, h2⟩ := hok
        have hc := fun g hg => World.ownsRow.cells h1 (g := g) hg
        rcases h1.2 with ⟨h3, h4⟩ | ⟨g, cap, cur, h3, _, hh, hle, _⟩
        · have hl := List.eq_nil_of_length_eq_zero h4
          subst hl
          rw [h3]
          exact ⟨_, _, _, hk, run_bytes_str (M := Mut MX hp ρ) (l := []) hS he hT (.inl ⟨rfl, rfl⟩), rfl⟩
        · rw [h3]
          exact ⟨_, _, _, hk, run_bytes_str hS he hT (.inr ⟨_, xs, rfl, h2, fun q u hq => hc g (by rw [h3]; rfl) q u hq⟩), rfl⟩
      · rename_i l hi
        rw [hi] at hok
        obtain ⟨A, c, h1, hle, hr⟩ := hok
        rw [h1]
        exact ⟨_, _, _, hk, run_bytes_str hS he hT (con_cells hr), rfl⟩
      · rename_i l hi
        rw [hi] at hok
        obtain ⟨g, c, h1, hle, hr⟩ := hok
        rw [h1]
        refine ⟨_, _, _, hk, run_bytes_str (M := Mut MX hp ρ) hS he hT (.inr ⟨_, l.map (Value.int .u8), rfl, els_ints l, fun q u hq => ?_⟩), rfl⟩
        rw [List.getElem?_map] at hq
        cases hlq : l[q]? with
        | none => rw [hlq] at hq; cases hq
        | some y =>
          rw [hlq] at hq
          injection hq with hq
          subst hq
          rw [add_at', Nat.zero_add, hr.cell (lt_of_get' hlq), List.getD_eq_getElem?_getD, hlq]
          rfl
      · cases hk
    · cases hk
  · cases hk

theorem lenE_sound (H : HRel MX w ρ hp) {T ty : TypeId} {x : AV} {vx : Value} (hx : R (Mut MX hp ρ) w ρ hp x vx) (hk : (lenE P T x).go b hp rs ws K = some r) :
    ∃ x v rs', K x b hp rs' ws = some r ∧ (Builtin.len_ #[T] ty #[vx]).run P w = .ok v w ∧ R (Mut MX hp ρ) w ρ hp x v := by
  unfold lenE at hk
  split at hk
  · rename_i s hu
    rw [show vx = _ from hx]
    exact ⟨_, _, _, hk, run_len_str w hu s, rfl⟩
  · rename_i e hu
    rw [show vx = _ from hx]
    exact ⟨_, _, _, hk, run_len_sl w hu _ _ _, rfl⟩
  · rename_i e t l hu
    obtain ⟨A, c, rfl, hle, hr⟩ := hx
    exact ⟨_, _, _, hk, run_len_sl w hu _ _ _, rfl⟩
  · rename_i e i hu
    obtain ⟨hne, rfl, A0, n0, c0, hv⟩ := hx
    simp only [Eff.go] at hk
    have hok := H.ok i
    split at hk
    · rename_i e t l hi
      have hi : hp i = .row e t l := by cases hh : hp i <;> rw [hh] at hi <;> simp [strip] at hi ⊢ <;> exact hi
      rw [hi] at hok
      obtain ⟨xs, h1, h2⟩ := hok
      rcases h1.2 with ⟨h3, h4⟩ | ⟨g, cap, cur, h3, _⟩
      · rw [h3]
        refine ⟨_, _, _, hk, run_len_sl w hu _ _ _, ?_⟩
        rw [h4]; rfl
      · rw [h3]
        exact ⟨_, _, _, hk, run_len_sl w hu _ _ _, rfl⟩
    · rename_i o fr e' be t l cur hi
      obtain ⟨cur, hi⟩ : ∃ cur, hp i = .tre o fr e' be t l cur := by
        cases hh : hp i <;> rw [hh] at hi <;> simp [strip] at hi
        obtain ⟨rfl, rfl, rfl, rfl, rfl, hl, _⟩ := hi
        exact ⟨_, by rw [eq_of_heq hl]⟩
      rw [hi] at hok
      obtain ⟨v0, ss, us, xs, ht⟩ := hok
      rw [ht.hd_]
      rcases ht.own.2 with ⟨h3, h4⟩ | ⟨g, cap, cur', h3, _⟩
      · rw [h3]
        refine ⟨_, _, _, hk, run_len_sl w hu _ _ _, ?_⟩
        rw [h4]; rfl
      · rw [h3]
        exact ⟨_, _, _, hk, run_len_sl w hu _ _ _, rfl⟩
    · rename_i t l hi
      have hi : hp i = .frz t l := by cases hh : hp i <;> rw [hh] at hi <;> simp [strip] at hi ⊢ <;> exact hi
      rw [hi] at hok
      obtain ⟨A, c, h1, hle, hr⟩ := hok
      rw [h1]
      exact ⟨_, _, _, hk, run_len_sl w hu _ _ _, rfl⟩
    · rename_i l hi
      have hi : hp i = .bts l := by cases hh : hp i <;> rw [hh] at hi <;> simp [strip] at hi ⊢ <;> exact hi
      rw [hi] at hok
      obtain ⟨g, c, h1, hle, hr⟩ := hok
      rw [h1]
      exact ⟨_, _, _, hk, run_len_sl w hu _ _ _, rfl⟩
    · cases hk
  · rename_i e q lo hu
    obtain ⟨hne, g0, n0, c0, c1, A0, hv, hlo, rfl, hA, hc1⟩ := hx
    simp only [Eff.go] at hk
    have hok := H.ok q
    split at hk
    case h_2 => cases hk
    rename_i e' t l hi
    have hi : hp q = .row e' t l := by cases hh : hp q <;> rw [hh] at hi <;> simp [strip] at hi ⊢ <;> exact hi
    rw [hi] at hok
    obtain ⟨xs, h1, h2⟩ := hok
    have hn0 : n0 = l.length := by
      rcases h1.2 with ⟨h3, h4⟩ | ⟨g, cap, cur, h3, _⟩
      · rw [hv] at h3; cases h3
      · rw [hv] at h3
        injection h3
    subst hn0
    exact ⟨_, _, _, hk, run_len_sl w hu _ _ _, rfl⟩
  · cases hk

theorem Vw_sl {o : Nat} {s u : Value} (hs : ∃ A n c, s = .slice A n c) (h : Vw o s u) : ∃ A n c, u = .slice A n c := by
  cases o with
  | zero =>
    have h : u = s := h
    rw [h]; exact hs
  | succ o =>
    obtain ⟨g, n, c, c', A, _, _, e, _⟩ := h
    exact ⟨_, _, _, e⟩

theorem KT_one {M : Nat → Prop} : (t : Ty) → {x : t.den} → {s : Value} → {cs : List Value} → KT M w t x s cs → (∃ A n c, s = .slice A n c) → ∀ u ∈ cs, u.oneCell' = true
  | .sl _, _, _, _, h, ⟨A, n, c, e⟩, u, hu => by
    cases h
    rw [List.mem_singleton.1 hu, e]; rfl
  | .pair a b, _, _, _, ⟨c0, c1, e, h0, h1⟩, hs, u, hu => by
    rw [e] at hu
    rcases List.mem_append.1 hu with hu | hu
    · exact KR_one a h0 u hu
    · exact KT_one b h1 hs u hu
  | .int _, _, _, _, h, _, _, _ => h.elim
  | .bool, _, _, _, h, _, _, _ => h.elim
  | .str, _, _, _, h, _, _, _ => h.elim

theorem appendT_sound (H : HRel MX w ρ hp) {T T2 ty : TypeId} {s : AV} {vs : Value} {p o e be : Nat} {t : Ty} {l' : List t.den} {q : Nat} (hp_ : hp p = .tre o none e be t l' (some (0, q))) (hs : R (Mut MX hp ρ) w ρ hp s vs)
    (hk : (appendT P T T2 s p o e be t l' q).go b hp rs ws K = some r) :
    ∃ x b' hp' rs' ws' v' w' ρ', K x b' hp' rs' ws' = some r ∧ (Builtin.append_ #[T, T2] ty #[vs, hd (ρ p)]).run P w = .ok v' w' ∧ Step MX w ρ hp w' ρ' hp' ∧ R (Mut MX hp' ρ') w' ρ' hp' x v' := by
  unfold appendT at hk
  split at hk
  case h_2 => cases hk
  rename_i e' y hT hu
  have hT := Nat.eq_of_beq_eq_true hT
  subst hT
  split at hk
  case h_2 => cases hk
  rename_i sz z by_ he hsz hz hby
  have he := Nat.eq_of_beq_eq_true he
  subst he
  split at hk
  case h_2 => cases hk
  rename_i h1 h3 h4
  have h1 := Nat.eq_of_beq_eq_true h1
  have h3 := Nat.le_of_ble_eq_true h3
  have h4 := Nat.eq_of_beq_eq_true h4
  subst h1
  obtain ⟨i, z', hi, hz', hr⟩ := zeroCellsAt_some hz
  have hzl : z'.cells.size = t.sz := by
    have := Rs_len (hr (fun _ => False) w ρ hp)
    simp at this; omega
  have hsi : i.size = t.sz := by simpa [sizeAt, hi] using hsz
  have hbi : i.bytes = by_ := by simpa [hi] using hby
  have hokp := H.ok p
  rw [hp_] at hokp
  obtain ⟨vp, ssp, usp, xsp, htp⟩ := hokp
  have lvp : live (hp p) := by rw [hp_]; trivial
  obtain ⟨_, hjp, hsq, hqu⟩ := htp.cur_ 0 q rfl
  have hssp : ssp = [ρ q] := by
    have hl1 : ssp.length = 1 := htp.len
    match ssp, hl1, hsq with
    | [a], _, h => simp at h; rw [h]
  subst hssp
  obtain ⟨uq, hussp⟩ : ∃ uq, usp = [uq] := by
    have hl1 : usp.length = 1 := htp.ulen
    match usp, hl1 with
    | [a], _ => exact ⟨a, rfl⟩
  subst hussp
  have huq : Vw o (ρ q) uq := htp.vw 0 _ _ (Nat.zero_le _) rfl rfl
  have hqs : ∃ A n c, ρ q = .slice A n c := htp.sl _ (by simp)
  obtain ⟨ys, rest, hxs, hy, hrest⟩ := htp.els
  have hrest : rest = [] := hrest
  subst hrest
  rw [List.append_nil] at hxs
  subst hxs
  have hyl := KT_len t hy
  have hpt : hd (ρ p) = vp := htp.hd_
  obtain ⟨gp, cp, hvp⟩ : ∃ gp cp, vp = .slice (some ⟨gp, 0, none⟩) 1 cp := by
    rcases htp.own.2 with ⟨_, h⟩ | ⟨g, cap, cur, h, _⟩
    · simp at h
    · exact ⟨g, cap, h⟩
  have hcells := fun g hg => World.ownsRow.cells htp.own (g := g) hg
  have hcell : ∀ (k : Nat) (u : Value), xsp[k]? = some u → w.cell? ((⟨gp, 0, none⟩ : Addr).add k) = some u := fun k u hk => hcells gp (by rw [hvp]; rfl) k u hk
  have hone := KT_one t hy (Vw_sl hqs huq)
  rw [hpt, hvp]
  split at hk
  · -- to no row
    rw [show vs = _ from hs]
    simp only [Eff.go] at hk
    split at hk
    case isFalse => cases hk
    rename_i hle
    split at hk
    case h_2 => cases hk
    rename_i hub
    have hbp : b ≠ p := fun e' => by rw [e', upd_same] at hub; cases hub
    have hbs : hp b = .unused := by rw [upd_ne _ _ hbp] at hub; exact hub
    have hbytes : (0 + 1) * by_ ≤ 140737488355328 := Nat.le_trans (Nat.mul_le_mul_right by_ hle) (Nat.div_mul_le_self _ _)
    obtain ⟨v', w', g1, g2, g3, _, g5⟩ := run_append_own_at (P := P) (w := w) 0 T ty e' i z' t.sz by_ hu hi hz' hsi hbi hzl t.sz_pos (.slice none 0 0) 0 [] (World.ownsRow_nil w 0 e' t.sz) ⟨gp, 0, none⟩ 1 cp xsp (by rw [hyl, Nat.one_mul]) hcell hone (by unfold maxLen; omega) hbytes (Nat.zero_le _)
    have hst := Step.appendOne (l := []) (ss := []) (us := []) (xs := []) (v := .slice none 0 0) (y := y) (be := be) H (hp1 := upd hp p .gone) (fun k => by
        by_cases hkp : k = p
        · subst hkp; exact .inr ⟨upd_same _ _ _, by rw [hp_]; simp⟩
        · exact .inl (upd_ne _ _ hkp)) (fun k hk cs hk' => by
        by_cases hkp : k = p
        · subst hkp; rw [hp_] at hk'; cases hk'
        · rw [upd_ne _ _ hkp, hk'] at hk; cases hk) hbs htp.nest htp.osz rfl rfl (World.ownsRow_nil w 0 e' t.sz) rfl (fun j s u hs => by simp at hs) (fun j x s hx => by simp at hx) (fun j k s s' g hj hk' hg => by
        cases j with
        | zero => simp at hj; subst hj; cases hg
        | succ j => simp at hj) (fun s hs => by cases hs) (fun j s g hj hg => by
        cases j with
        | zero => simp at hj; subst hj; cases hg
        | succ j => simp at hj) hqu (by
        by_cases hqp : q = p
        · subst hqp; rw [upd_same]; simp
        · rw [upd_ne _ _ hqp]; exact hqu) hqs huq hy g2 g3 (g5.imp id (fun h g hg => by rw [h] at hg; injection hg with hg; omega))
    refine ⟨_, _, _, _, _, v', w', _, hk, g1, hst, by rw [upd_same]; simp, by rw [upd_same]; rfl, ?_⟩
    rcases g2.2 with ⟨h, _⟩ | ⟨_, _, _, h, _⟩ <;> exact ⟨_, _, _, h⟩
  · rename_i i0
    obtain ⟨hne, rfl, A0, n0, c0, hv⟩ := hs
    simp only [Eff.go] at hk
    split at hk
    case h_2 => cases hk
    rename_i o2 e2 be2 t2 l hi0
    split at hk
    case h_2 => cases hk
    rename_i ht2 he2 hbe2 _ hip ho2
    have ho2 := Nat.eq_of_beq_eq_true ho2
    subst ho2
    have he2 := Nat.eq_of_beq_eq_true he2
    have hbe2 := Nat.eq_of_beq_eq_true hbe2
    subst he2 hbe2 ht2
    have hip' : i0 ≠ p := fun e' => by rw [e', Nat.beq_refl] at hip; cases hip
    simp only [Eff.go] at hk
    split at hk
    case isFalse => cases hk
    rename_i hle
    split at hk
    case h_2 => cases hk
    rename_i hub
    have hbp : b ≠ p := fun e' => by rw [e', upd_same] at hub; cases hub
    have hbi0 : b ≠ i0 := fun e' => by rw [e', upd_ne _ _ hip', upd_same] at hub; cases hub
    have hbs : hp b = .unused := by rw [upd_ne _ _ hbp, upd_ne _ _ hbi0] at hub; exact hub
    have hok0 := H.ok i0
    rw [hi0] at hok0
    obtain ⟨v0, ss, us, xs, ht0⟩ := hok0
    have lv0 : live (hp i0) := by rw [hi0]; trivial
    rw [ht0.hd_]
    have hbytes : (l.length + 1) * by_ ≤ 140737488355328 := Nat.le_trans (Nat.mul_le_mul_right by_ hle) (Nat.div_mul_le_self _ _)
    have hmax : l.length + 1 ≤ maxLen := by
      have := Nat.le_trans (Nat.le_mul_of_pos_right (l.length + 1) h3) hbytes
      unfold maxLen
      omega
    obtain ⟨v', w', g1, g2, g3, _, g5⟩ := run_append_own_at (P := P) (w := w) 0 T ty e2 i z' t2.sz by_ hu hi hz' hsi hbi hzl t2.sz_pos v0 l.length xs ht0.own ⟨gp, 0, none⟩ 1 cp xsp (by rw [hyl, Nat.one_mul]) hcell hone hmax hbytes (Nat.zero_le _)
    have hst := Step.appendOne (y := y) (be := be2) H (hp1 := upd (upd hp i0 .gone) p .gone) (fun k => by
        by_cases hkp : k = p
        · subst hkp; exact .inr ⟨upd_same _ _ _, by rw [hp_]; simp⟩
        · by_cases hki : k = i0
          · subst hki; exact .inr ⟨by rw [upd_ne _ _ hkp, upd_same], by rw [hi0]; simp⟩
          · exact .inl (by rw [upd_ne _ _ hkp, upd_ne _ _ hki])) (fun k hk cs hk' => by
        by_cases hkp : k = p
        · subst hkp; rw [hp_] at hk'; cases hk'
        · by_cases hki : k = i0
          · subst hki; rw [hi0] at hk'; cases hk'
          · rw [upd_ne _ _ hkp, upd_ne _ _ hki, hk'] at hk; cases hk) hbs ht0.nest ht0.osz ht0.len ht0.ulen ht0.own ht0.els (fun j s u hs hu => ht0.vw j s u (Nat.zero_le _) hs hu) (fun j x s hx hs => ht0.inn j x s (Nat.zero_le _) hx hs (fun _ e => by cases e)) ht0.dis ht0.sl (fun j s g hj hg => by
        have hat : At (ρ i0) g := ht0.at_.2 ⟨j, s, hj, hg⟩
        refine ⟨⟨i0, lv0, hat⟩, fun k hlk hbk => ?_⟩
        by_cases hkp : k = p
        · subst hkp; rw [upd_same] at hlk; exact hlk
        · rw [upd_ne _ _ hkp] at hlk
          by_cases hki : k = i0
          · subst hki; rw [upd_same] at hlk; exact hlk
          · rw [upd_ne _ _ hki] at hlk
            exact hki (H.sep k i0 g hlk lv0 hbk hat)) hqu (by
        by_cases hqp : q = p
        · subst hqp; rw [upd_same]; simp
        · rw [upd_ne _ _ hqp]
          by_cases hqi : q = i0
          · subst hqi; rw [upd_same]; simp
          · rw [upd_ne _ _ hqi]; exact hqu) hqs huq hy g2 g3 (g5.imp id (fun h g hg => by rw [h] at hg; injection hg with hg; omega))
    refine ⟨_, _, _, _, _, v', w', _, hk, g1, hst, by rw [upd_same]; simp, by rw [upd_same]; rfl, ?_⟩
    rcases g2.2 with ⟨h, _⟩ | ⟨_, _, _, h, _⟩ <;> exact ⟨_, _, _, h⟩
  · cases hk

theorem buildOneE_sound (H : HRel MX w ρ hp) {T n : Nat} {ps : List (Nat × AV)} {vs : List (Nat × Value)} {k : Eff AV} (hps : PartsR (Mut MX hp ρ) w ρ hp ps vs) (hk : (buildOneE P T n ps k).go b hp rs ws K = some r) :
    (∃ rs', k.go b hp rs' ws K = some r) ∨ ∃ x b' hp' rs' ws' v w' ρ', K x b' hp' rs' ws' = some r ∧ (Instr.buildSlice T n vs.toArray).run P w = .ok v w' ∧ Step MX w ρ hp w' ρ' hp' ∧ R (Mut MX hp' ρ') w' ρ' hp' x v := by
  unfold buildOneE at hk
  split at hk
  case h_2 => exact .inl ⟨_, hk⟩
  rename_i x0
  split at hk
  case h_2 => exact .inl ⟨_, hk⟩
  rename_i e cs0 hu hcs
  split at hk
  case h_2 => exact .inl ⟨_, hk⟩
  rename_i fs q o t s z hlast ht hs hz
  split at hk
  case h_2 => exact .inl ⟨_, hk⟩
  rename_i hnest h1 h2 h3 h4 hcell
  simp only [Eff.go] at hk
  split at hk
  case h_2 => exact .inl ⟨_, hk⟩
  rename_i be b0 m hq
  split at hk
  case h_2 => exact .inl ⟨_, hk⟩
  rename_i hb0 be' _ hinn hosz
  subst hb0
  have hosz : o = 0 ∨ t.inn.sz = 1 := by
    rcases Bool.or_eq_true_iff.1 hosz with h | h
    · exact .inl (Nat.eq_of_beq_eq_true h)
    · exact .inr (Nat.eq_of_beq_eq_true h)
  split at hk
  case h_2 => exact .inl ⟨_, hk⟩
  rename_i y hbe hdec
  right
  have h1 := Nat.eq_of_beq_eq_true h1
  have h2 := Nat.eq_of_beq_eq_true h2
  have h3 := Nat.le_of_ble_eq_true h3
  have h4 := Nat.le_of_ble_eq_true h4
  subst h1
  simp only [Eff.go] at hk
  split at hk
  case h_2 => cases hk
  rename_i hub
  have hvs := lastRow_some hlast
  have hdl := dec_len t hdec
  have hcl : cs0.length = t.sz := by rw [hvs, List.length_append]; rw [List.length_append] at hdl; exact hdl
  obtain ⟨i, z', hi, hz', hr⟩ := zeroCellsAt_some hz
  have hzl : z'.cells.size = t.sz := by
    have := Rs_len (hr (fun _ => False) w ρ hp)
    simp at this; omega
  have hf : fillA (fun i => some (i * t.sz, t.sz)) (repl 1 z) [(0, x0)] = some cs0 := by
    unfold fillA
    rw [hcs]
    simp only [repl, List.nil_append, Nat.zero_mul, Nat.zero_add]
    rw [show Nat.beq cs0.length t.sz = true by rw [hcl]; exact Nat.beq_refl _, show Nat.ble t.sz z.length = true by rw [h2]; exact Nat.ble_eq_true_of_le (Nat.le_refl _)]
    show some (z.take 0 ++ cs0 ++ z.drop (0 + cs0.length)) = some cs0
    rw [List.drop_eq_nil_of_le (by omega), List.append_nil]
    rfl
  obtain ⟨us, hfill, hrs, hlen⟩ := fill_sound (placeC := fun i => some (i * t.sz, t.sz)) (fun i p h => h) hps (Rs_repl (hr (Mut MX hp ρ) w ρ hp) 1) hf
  have hul : us.length = t.sz := by rw [Rs_len hrs, hcl]
  rw [hvs] at hrs
  obtain ⟨us0, us1, hus, hr0, hr1⟩ := Rs_split hrs
  obtain ⟨sq, _, rfl, hsq0, rfl⟩ := hr1
  have hqok := H.ok q
  rw [hq] at hqok
  obtain ⟨ys, y1, y2⟩ := hqok
  have hsl : ∃ A n c, ρ q = .slice A n c := by
    rcases y1.2 with ⟨h, _⟩ | ⟨_, _, _, h, _⟩ <;> exact ⟨_, _, _, h⟩
  have hvw : Vw o (ρ q) sq := by
    cases o with
    | zero => exact hsq0.2.1.trans (hd_own y1)
    | succ o => exact hsq0.2
  obtain ⟨hkt, hgy⟩ := decT_sound (s := sq) t hnest hdec hr0
  rw [← hus] at hkt
  have hqb : q ≠ b := fun e' => by rw [e', hub] at hq; cases hq
  have hat : At (.tuple [.slice (some ⟨w.heap.size, 0, none⟩) 1 1, .slice none 0 0].toArray) = fun x => (some w.heap.size : Option Nat) = some x := by
    funext x
    apply propext
    rw [at_tuple]
    constructor
    · rintro ⟨j, s, hj, hs⟩
      cases j with
      | zero =>
        have : Value.slice (some ⟨w.heap.size, 0, none⟩) 1 1 = s := by simpa using hj
        subst this
        exact hs
      | succ j =>
        cases j with
        | zero => simp at hj; subst hj; cases hs
        | succ j => simp at hj
    · intro h
      exact ⟨0, _, rfl, h⟩
  refine ⟨_, _, _, _, _, .slice (some ⟨w.heap.size, 0, none⟩) 1 1, w.alloc (.cells us.toArray e), upd ρ b (.tuple [.slice (some ⟨w.heap.size, 0, none⟩) 1 1, .slice none 0 0].toArray), hk, ?_, Step.alloc H hub hat ?_, ?_⟩
  · have hmade : (Array.range (1 * t.sz)).map (z'.cells[· % z'.cells.size]!) = (replV 1 z'.cells.toList).toArray := by
      have := madeCells_repl z'.cells (by omega) 1
      unfold madeCells at this
      rw [hzl] at this
      rw [hzl, ← this]
    have hbig : ¬ (2 ^ 24 < 1 * t.sz) := by omega
    have h0 : ¬ 1 * t.sz = 0 := by omega
    rw [Nat.one_mul] at hmade hbig h0
    simp [Instr.buildSlice, run_underlying hu, run_sizeOf hs, hbig, h0, zeroValue, typeInfo, hi, hz', newRow]
    rw [hmade, hfill]
    simp
  · intro M ρ' hp' old hv hM
    have hold := old q (by rw [hq]; simp)
    obtain ⟨A, n1, c1, hqs⟩ := hsl
    have hq' : ρ' q = ρ q := (hold.1.slice hqs).trans hqs.symm
    refine ⟨_, [ρ q], [sq], us, hnest, hosz, .inl hv, rfl, rfl, ⟨by rw [hul, show [y].length = 1 from rfl, Nat.one_mul], .inr ⟨w.heap.size, 1, us.toArray, rfl, Nat.zero_le _, heap_alloc_new w _, Nat.le_refl _, by unfold maxLen; omega, by simp [hul], by simp only [List.length_singleton, Nat.one_mul, ← hul, List.take_length]⟩⟩, ⟨us, [], by simp, KT_step (D := fun _ => False) (Off.alloc _ _ _) (fun _ _ h => h.elim) hM t hkt, rfl⟩, fun j x s _ hx hs hc => ?_, fun j s hf => absurd hf (Nat.not_lt_zero _), fun j s u _ hs hu => ?_, fun j k s s' x hj hk' hs hs' => ?_, fun s hs => ?_, fun j r hc => ?_⟩
    · cases j with
      | zero => exact absurd rfl (hc q)
      | succ j => simp at hx
    · cases j with
      | zero =>
        have e1 : ρ q = s := by simpa using hs
        have e2 : sq = u := by simpa using hu
        rw [← e1, ← e2]; exact hvw
      | succ j => simp at hs
    · have z : ∀ (j : Nat) (s : Value), (Value.slice (some ⟨w.heap.size, 0, none⟩) 1 1 :: hole (some (0, q)) [ρ q])[j]? = some s → blk s = some x → j = 0 := by
        intro j s hj hs
        cases j with
        | zero => rfl
        | succ j =>
          cases j with
          | zero =>
            simp [hole] at hj
            subst hj
            cases hs
          | succ j => simp [hole] at hj
      rw [z j s hj hs, z k s' hk' hs']
    · rw [List.mem_singleton.1 hs]
      exact ⟨A, n1, c1, hqs⟩
    · injection hc with hc
      injection hc with e1 e2
      subst e1 e2
      exact ⟨Nat.zero_le _, by simp, by rw [hq']; rfl, hold.2⟩
  · exact ⟨by rw [upd_same]; simp, by rw [upd_same]; rfl, _, _, _, rfl⟩

theorem appendXE_sound (H : HRel MX w ρ hp) {T T2 ty : TypeId} {s x : AV} {vs vx : Value} (hs : R (Mut MX hp ρ) w ρ hp s vs) (hx : R (Mut MX hp ρ) w ρ hp x vx) (hk : (appendXE P T T2 s x).go b hp rs ws K = some r) :
    ∃ x b' hp' rs' ws' v' w' ρ', K x b' hp' rs' ws' = some r ∧ (Builtin.append_ #[T, T2] ty #[vs, vx]).run P w = .ok v' w' ∧ Step MX w ρ hp w' ρ' hp' ∧ R (Mut MX hp' ρ') w' ρ' hp' x v' := by
  unfold appendXE at hk
  split at hk
  · rename_i p
    simp only [Eff.go] at hk
    split at hk
    · rename_i o e be t l' q hp_
      obtain ⟨_, e1, _⟩ := hx
      rw [e1]
      exact appendT_sound H hp_ hs hk
    · exact appendE_sound H hs hx hk
  · exact appendE_sound H hs hx hk

theorem minE_sound {M : Nat → Prop} {lt : Bool} {x y : AV} {vx vy : Value} {T1 : Array TypeId} {t0 : TypeId} (hx : R M w ρ hp x vx) (hy : R M w ρ hp y vy) (hk : (minE lt x y).go b hp rs ws K = some r) :
    ∃ z v, K z b hp rs ws = some r ∧ (match lt with | true => Builtin.min_ T1 t0 #[vx, vy] | false => Builtin.max_ T1 t0 #[vx, vy]).run P w = .ok v w ∧ R M w ρ hp z v := by
  unfold minE at hk
  split at hk
  case h_2 => cases hk
  rw [show vx = _ from hx, show vy = _ from hy]
  split at hk
  · exact ⟨_, _, hk, by simp [Builtin.min_, Builtin.min2], rfl⟩
  · exact ⟨_, _, hk, by simp [Builtin.max_, Builtin.max2], rfl⟩
end
end Go.Proofs.YtommgpkeicpokaaGreatDoor.Abs
