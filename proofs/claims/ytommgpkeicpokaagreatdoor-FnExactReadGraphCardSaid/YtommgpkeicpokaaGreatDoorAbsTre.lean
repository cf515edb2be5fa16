/- Rows whose elements end in rows of their own: taking one out, putting it back, reading the whole. -/
import Derived.Test.YtommgpkeicpokaaGreatDoorAbsHeap
namespace Go.Proofs.YtommgpkeicpokaaGreatDoor.Abs
open Go Go.RowKit
set_option linter.unusedVariables false
set_option linter.unusedSectionVars false
set_option linter.unusedSimpArgs false

section
variable {M : Nat → Prop} {w : World} {ρ : Nat → Value} {hp : Heap}

theorem own_elemK {α : Type} {K : α → List Value → Prop} {sz : Nat} (hK : ∀ x cs, K x cs → cs.length = sz) {e : TypeId} {l : List α} {v : Value} {xs : List Value} (h : w.ownsRow 0 e sz v l.length xs) (he : Els K l xs) {g n c : Nat} (hv : v = .slice (some ⟨g, 0, none⟩) n c) {j : Nat} (hj : j < n) :
    ∃ x vs, l[j]? = some x ∧ K x vs ∧ ∀ (q : Nat) (u : Value), vs[q]? = some u → w.cell? ⟨g, j * sz + q, none⟩ = some u := by
  rcases h.2 with ⟨h2, _⟩ | ⟨g', cap, cur, h2, _, hh, hle, _, hcs, htake⟩
  · rw [hv] at h2; cases h2
  · rw [hv] at h2
    injection h2 with e1 e2 e3
    injection e1 with e1
    injection e1 with e1
    subst e1 e2
    obtain ⟨vs, h1, h2, h3⟩ := Els.get hK he j (l[j]) (List.getElem?_eq_getElem hj)
    refine ⟨_, vs, List.getElem?_eq_getElem hj, h1, fun q u hq => ?_⟩
    have hq' : q < sz := by
      have := (List.getElem?_eq_some_iff.1 hq).1
      omega
    have hxs := h3 q hq'
    rw [hq, ← htake, List.getElem?_take] at hxs
    split at hxs
    · rw [cell_of_row w g _ cur e (0, 0) hh]
      simpa using hxs
    · cases hxs

theorem KT_len : (t : Ty) → {x : t.den} → {s : Value} → {cs : List Value} → KT M w t x s cs → cs.length = t.sz
  | .sl _, _, _, _, h => by cases h; rfl
  | .pair a b, _, _, _, ⟨c0, c1, e, h0, h1⟩ => by rw [e, List.length_append, KR_len a h0, KT_len b h1]; rfl
  | .int _, _, _, _, h => h.elim
  | .bool, _, _, _, h => h.elim
  | .str, _, _, _, h => h.elim

theorem KR_cells : (t : Ty) → {x : t.den} → {vs : List Value} → t.KR M w x vs → Rs M w ρ hp (t.cells x) vs
  | .int k, _, _, h => by cases h; exact ⟨_, _, rfl, rfl, rfl⟩
  | .bool, _, _, h => by cases h; exact ⟨_, _, rfl, rfl, rfl⟩
  | .str, _, _, h => by cases h; exact ⟨_, _, rfl, rfl, rfl⟩
  | .sl t, _, _, ⟨A, c, e, hl, hr⟩ => by subst e; exact ⟨_, _, rfl, ⟨A, c, rfl, hl, hr⟩, rfl⟩
  | .pair a b, _, _, ⟨c0, c1, e, h0, h1⟩ => by subst e; exact Rs_append (KR_cells a h0) (KR_cells b h1)

theorem KT_flat : (t : Ty) → {x : t.den} → {s : Value} → {cs : List Value} → KT M w t x s cs → ∃ c0, cs = c0 ++ [s] ∧ Rs M w ρ hp (t.flat x) c0
  | .sl _, _, _, _, h => ⟨[], h, rfl⟩
  | .pair a b, _, _, _, ⟨c0, c1, e, h0, h1⟩ => by
    obtain ⟨c2, e2, h2⟩ := KT_flat b h1
    exact ⟨c0 ++ c2, by rw [e, e2, List.append_assoc], Rs_append (KR_cells a h0) h2⟩
  | .int _, _, _, _, h => h.elim
  | .bool, _, _, _, h => h.elim
  | .str, _, _, _, h => h.elim

theorem KT_put : (t : Ty) → {x : t.den} → {s : Value} → {cs : List Value} → KT M w t x s cs → ∀ m, KT M w t (t.put x m) s cs
  | .sl _, _, _, _, h, _ => h
  | .pair a b, _, _, _, ⟨c0, c1, e, h0, h1⟩, m => ⟨c0, c1, e, h0, KT_put b h1 m⟩
  | .int _, _, _, _, h, _ => h.elim
  | .bool, _, _, _, h, _ => h.elim
  | .str, _, _, _, h, _ => h.elim

theorem get_put : (t : Ty) → t.nest = true → (x : t.den) → (m : List t.inn.den) → t.get (t.put x m) = m
  | .sl _, _, _, _ => rfl
  | .pair _ b, h, x, m => get_put b h x.2 m

/-- The cells of an element, the slice as one that is read. -/
theorem KT_KR {s : Value} : (t : Ty) → {x : t.den} → {cs : List Value} → KT M w t x s cs → (∃ A c, s = .slice A (t.get x).length c ∧ (t.get x).length ≤ c ∧ RowR M w (t.inn.KR M w) t.inn.sz A (t.get x)) → t.KR M w x cs
  | .sl _, _, _, h, ⟨A, c, e, h1, h2⟩ => ⟨A, c, by rw [h, e]; rfl, h1, h2⟩
  | .pair a b, _, _, ⟨c0, c1, e, h0, h1⟩, hs => ⟨c0, c1, e, h0, KT_KR b h1 hs⟩
  | .int _, _, _, h, _ => h.elim
  | .bool, _, _, h, _ => h.elim
  | .str, _, _, h, _ => h.elim

theorem Els.repl {α : Type} {K K' : α → List Value → Prop} : {l l' : List α} → {xs : List Value} → l'.length = l.length → (∀ (j : Nat) x x' cs, l[j]? = some x → l'[j]? = some x' → K x cs → K' x' cs) → Els K l xs → Els K' l' xs
  | [], [], _, _, _, h => h
  | [], _ :: _, _, hl, _, _ => by simp at hl
  | _ :: _, [], _, hl, _, _ => by simp at hl
  | x :: l, x' :: l', _, hl, hh, ⟨c, r, e, hc, hr⟩ => ⟨c, r, e, hh 0 x x' c rfl rfl hc, Els.repl (by simpa using hl) (fun j y y' cs h1 h2 => hh (j + 1) y y' cs (by simpa using h1) (by simpa using h2)) hr⟩

theorem zip_get {α β : Type} {l : List α} {m : List β} {j : Nat} {p : α × β} (h : (l.zip m)[j]? = some p) : l[j]? = some p.1 ∧ m[j]? = some p.2 := by
  rw [List.getElem?_zip_eq_some] at h
  exact h

/-- An element of such a row. -/
theorem TreOk.elem {i o : Nat} {fr : Option Nat} {e be : TypeId} {t : Ty} {l : List t.den} {cur : Option (Nat × Nat)} {v : Value} {ss us xs : List Value} (h : TreOk M w ρ hp i o fr e be t l cur v ss us xs) {g n c : Nat} (hv : v = .slice (some ⟨g, 0, none⟩) n c) {j : Nat} (hj : j < n) :
    n = l.length ∧ ∃ s u vs, ss[j]? = some s ∧ us[j]? = some u ∧ KT M w t (l.getD j t.zero) u vs ∧ ∀ (q : Nat) (u : Value), vs[q]? = some u → w.cell? ⟨g, j * t.sz + q, none⟩ = some u := by
  have hn : n = l.length := by
    rcases h.own.2 with ⟨h2, _⟩ | ⟨g', cap, cur, h2, _⟩
    · rw [hv] at h2; cases h2
    · rw [hv] at h2
      injection h2
  have hz : (l.zip us).length = l.length := by rw [List.length_zip, h.ulen]; omega
  obtain ⟨p, vs, h1, h2, h3⟩ := own_elemK (fun _ _ hk => KT_len t hk) (by rw [hz]; exact h.own) h.els hv hj
  obtain ⟨g1, g2⟩ := zip_get h1
  have hjs : j < ss.length := by rw [h.len]; omega
  refine ⟨hn, ss[j], p.2, vs, List.getElem?_eq_getElem hjs, g2, ?_, h3⟩
  rw [List.getD_eq_getElem?_getD, g1]
  exact h2

/-- A whole elsewhere, at the same place. -/
theorem TreOk.none_ {M' : Nat → Prop} {ρ' : Nat → Value} {hp' : Heap} {i k o : Nat} {fr : Option Nat} {e be : TypeId} {t : Ty} {l : List t.den} {v : Value} {ss us xs : List Value} (h : TreOk M w ρ hp i o fr e be t l none v ss us xs) (hM : ∀ b, b < w.heap.size → M' b → M b) (hk : ρ' k = ρ i) : TreOk M' w ρ' hp' k o fr e be t l none v ss us xs :=
  ⟨h.nest, h.osz, h.pl.imp (hk.trans ·) (fun ⟨a, b, c, d⟩ => ⟨a, b, c, hk.trans d⟩), h.len, h.ulen, h.own, Els.imp (fun _ _ hk => KT_step (D := fun _ => False) (Off.refl _ _) (fun _ _ hf => hf.elim) hM t hk) h.els, fun j x s hf hx hs hc => Inn_step (D := fun _ => False) (Off.refl _ _) (fun _ _ hf => hf.elim) hM (fun _ _ hf => hf) (h.inn j x s hf hx hs hc), h.dead, h.vw, h.dis, h.sl, fun _ _ hc => by cases hc⟩

/-- A part of a row of single cells, as it is read. -/
theorem row_drop {α : Type} {K : α → List Value → Prop} {g lo : Nat} {A : Addr} {l : List α} (h : RowR M w K 1 (some ⟨g, 0, none⟩) l) (hA : lo < l.length → A = ⟨g, lo, none⟩) : RowR M w K 1 (some A) (l.drop lo) := by
  intro j x hx
  rw [List.getElem?_drop] at hx
  have hlt := (List.getElem?_eq_some_iff.1 hx).1
  obtain ⟨b, o, cs, hb, hm, hl, hk, hcell⟩ := h _ x hx
  injection hb with hb
  injection hb with hb1 hb2
  subst hb1 hb2
  refine ⟨g, lo, cs, by rw [hA (by omega)], hm, hl, hk, fun q u hq => ?_⟩
  have := hcell q u hq
  rw [← this]
  congr 2
  omega

theorem lastCell_R {M : Nat → Prop} {o b : Nat} {s u : Value} (hb : hp b ≠ .unused) (hs : ρ b = s) (hsl : ∃ A n c, s = .slice A n c) (h : Vw o s u) : R M w ρ hp (lastCell o b) u := by
  cases o with
  | zero =>
    have h : u = s := h
    obtain ⟨A, n, c, e⟩ := hsl
    exact ⟨hb, by rw [hs, h, e]; rfl, A, n, c, h.trans e⟩
  | succ o =>
    obtain ⟨g, n, c, c', A, e, r⟩ := h
    exact ⟨hb, g, n, c, c', A, hs.trans e, r⟩

theorem needFr_go {α Rt : Type} {fr : Option Nat} {j : Nat} {e : Eff α} {b : Nat} {rs ws : List Nat} {K : α → Nat → Heap → List Nat → List Nat → Option Rt} {r : Rt} (h : (needFr fr j e).go b hp rs ws K = some r) : frN fr ≤ j ∧ e.go b hp rs ws K = some r := by
  unfold needFr at h
  split at h
  · exact ⟨Nat.zero_le _, h⟩
  · simp only [Eff.go] at h
    split at h
    · rename_i hj; exact ⟨hj, h⟩
    · cases h

theorem cut_len (t : Ty) (o : Nat) (l : List t.den) : (t.cut o l).length = l.length := by
  unfold Ty.cut
  split
  · rfl
  · rw [List.length_map]

theorem tup_hd (v : Value) (ss : List Value) : hd (.tuple (v :: ss).toArray) = v := rfl

/-- The whole as it is read. -/
theorem TreOk.view {i o : Nat} {e be : TypeId} {t : Ty} {l : List t.den} {v : Value} {ss us xs : List Value} (h : TreOk M w ρ hp i o none e be t l none v ss us xs) :
    ∃ A c, hd (ρ i) = .slice A (t.cut o l).length c ∧ (t.cut o l).length ≤ c ∧ ∀ M' : Nat → Prop, (∀ b, b < w.heap.size → M' b → M b ∧ ¬ At (ρ i) b) → RowR M' w (t.KR M' w) t.sz A (t.cut o l) := by
  have hat : ∀ (j : Nat) (s : Value) (b : Nat), (v :: ss)[j]? = some s → blk s = some b → At (ρ i) b := fun j s b hj hb => h.at_.2 ⟨j, s, hj, hb⟩
  rw [h.hd_, cut_len]
  rcases h.own.2 with ⟨hv, hn⟩ | ⟨g, cap, cur, hv, _, hh, hle, _⟩
  · refine ⟨none, 0, by rw [hv, hn], by omega, fun M' _ k x hx => ?_⟩
    have hx := (List.getElem?_eq_some_iff.1 hx).1
    rw [cut_len] at hx
    omega
  · refine ⟨_, cap, hv, hle, fun M' hM k x' hx' => ?_⟩
    have hk : k < l.length := by
      have := (List.getElem?_eq_some_iff.1 hx').1
      rwa [cut_len] at this
    have hx : l[k]? = some l[k] := List.getElem?_eq_getElem hk
    generalize l[k] = x at hx
    have hlt : g < w.heap.size := (Array.getElem?_eq_some_iff.1 hh).1
    obtain ⟨_, s, u, vs, h1, h1u, h2, h3⟩ := h.elem hv hk
    rw [List.getD_eq_getElem?_getD, hx] at h2
    refine ⟨g, 0, vs, rfl, fun hm => (hM g hlt hm).2 (hat 0 v g rfl (by rw [hv]; rfl)), KT_len t h2, ?_, fun j u hu => by rw [Nat.zero_add]; exact h3 j u hu⟩
    have hM1 : ∀ b, b < w.heap.size → M' b → M b := fun b hb hm => (hM b hb hm).1
    obtain ⟨ys, q1, q2⟩ := h.inn k x s (Nat.zero_le _) hx h1 (fun q e => by cases e)
    obtain ⟨A, c, q3, q4, q5⟩ := own_reads q1 q2
    have q6 := q5 M' fun b hb hm => ⟨hM1 b hb hm, fun ha => (hM b hb hm).2 (hat (k + 1) s b (by simpa using h1) (by rw [at_own q1] at ha; exact ha))⟩
    have h2 := KT_step (D := fun _ => False) (Off.refl _ _) (fun _ _ hf => hf.elim) hM1 t h2
    have hvw := h.vw k s u (Nat.zero_le _) h1 h1u
    have hosz := h.osz
    cases o with
    | zero =>
      have : x' = x := by
        have : some x' = some x := hx'.symm.trans hx
        exact Option.some.inj this
      subst this
      have hvw : u = s := hvw
      subst hvw
      exact KT_KR t h2 ⟨A, c, q3, q4, q6⟩
    | succ o =>
      have : x' = t.put x ((t.get x).drop (o + 1)) := by
        have h9 : (l.map fun x => t.put x ((t.get x).drop (o + 1)))[k]? = some x' := hx'
        rw [List.getElem?_map, hx] at h9
        exact (Option.some.inj h9).symm
      subst this
      obtain ⟨g', n, c', c'', A', e1, hle', rfl, hA, hc⟩ := hvw
      rw [e1] at q3
      injection q3 with q3a q3b q3c
      subst q3a q3b q3c
      have hsz : t.inn.sz = 1 := hosz.resolve_left (by omega)
      refine KT_KR t (KT_put t h2 _) ⟨some A', c'', ?_, ?_, ?_⟩
      · rw [get_put t h.nest, List.length_drop]
      · rw [get_put t h.nest, List.length_drop]; exact hc
      · rw [get_put t h.nest, hsz]
        rw [hsz] at q6
        exact row_drop q6 hA
end

section
variable {MX : Nat → Prop} {w : World} {ρ : Nat → Value} {hp : Heap}

/-- An element's row is taken out. -/
theorem Step.takeOut (H : HRel MX w ρ hp) {i o : Nat} {fr : Option Nat} {e be : TypeId} {t : Ty} {l : List t.den} {v : Value} {ss us xs : List Value} (hi : hp i = .tre o fr e be t l none) (h : TreOk (Mut MX hp ρ) w ρ hp i o fr e be t l none v ss us xs) {q : Nat} (hq : hp q = .unused) {j : Nat} (hfr : frN fr ≤ j) {s : Value} (hs : ss[j]? = some s) :
    Step MX w ρ hp w (upd (upd ρ q s) i (.tuple (v :: ss.set j (.slice none 0 0)).toArray)) (upd (upd hp q (.row be t.inn (t.get (l.getD j t.zero)))) i (.tre o fr e be t l (some (j, q)))) := by
  have hqi : q ≠ i := fun e' => by rw [e', hi] at hq; cases hq
  have hjl : j < ss.length := (List.getElem?_eq_some_iff.1 hs).1
  have hjl' : j < l.length := by rw [← h.len]; exact hjl
  have hne0 : 0 < l.length := by omega
  have hx : l[j]? = some (l.getD j t.zero) := by rw [List.getD_eq_getElem?_getD, List.getElem?_eq_getElem hjl']; rfl
  have hinn := h.inn j _ s hfr hx hs (fun q e => by cases e)
  have old : ∀ k, hp k ≠ .unused → Old (ρ k) (upd (upd ρ q s) i (.tuple (v :: ss.set j (.slice none 0 0)).toArray) k) ∧ upd (upd hp q (.row be t.inn (t.get (l.getD j t.zero)))) i (.tre o fr e be t l (some (j, q))) k ≠ .unused := by
    intro k hk
    have hkq : k ≠ q := fun e' => hk (by rw [e']; exact hq)
    by_cases hki : k = i
    · subst hki
      rw [upd_same, upd_same]
      exact ⟨.inr ⟨⟨_, h.tup hne0⟩, ⟨_, rfl⟩, by rw [h.hd_]; rfl⟩, by simp⟩
    · rw [upd_ne _ _ hki, upd_ne _ _ hki, upd_ne _ _ hkq, upd_ne _ _ hkq]
      exact ⟨Old.refl _, hk⟩
  have ai : ∀ b, At (.tuple (v :: ss.set j (.slice none 0 0)).toArray) b → ∃ (m : Nat) (u : Value), m ≠ j + 1 ∧ (v :: ss)[m]? = some u ∧ blk u = some b := by
    intro b hb
    obtain ⟨m, u, hm, hu⟩ := at_tuple.1 hb
    refine ⟨m, u, fun e' => ?_, ?_, hu⟩
    · subst e'
      rw [List.getElem?_cons_succ, List.getElem?_set_self hjl] at hm
      injection hm with hm
      subst hm
      cases hu
    · cases m with
      | zero => exact hm
      | succ m =>
        rw [List.getElem?_cons_succ] at hm ⊢
        by_cases hmj : m = j
        · subst hmj
          rw [List.getElem?_set_self hjl] at hm
          injection hm with hm
          subst hm
          cases hu
        · rw [List.getElem?_set_ne (fun e' => hmj e'.symm)] at hm
          exact hm
  have oldAt : ∀ (m : Nat) (u : Value) (b : Nat), (v :: ss)[m]? = some u → blk u = some b → At (ρ i) b := fun m u b hm hu => h.at_.2 ⟨m, u, hm, hu⟩
  have sAt : ∀ b, At s b → blk s = some b := fun b hb => by
    obtain ⟨ys, h1, _⟩ := hinn
    rw [at_own h1] at hb
    exact hb
  have cl : ∀ k b, live (upd (upd hp q (.row be t.inn (t.get (l.getD j t.zero)))) i (.tre o fr e be t l (some (j, q))) k) → At (upd (upd ρ q s) i (.tuple (v :: ss.set j (.slice none 0 0)).toArray) k) b →
      (k = i ∧ ∃ (m : Nat) (u : Value), m ≠ j + 1 ∧ (v :: ss)[m]? = some u ∧ blk u = some b) ∨ (k = q ∧ blk s = some b) ∨ (k ≠ i ∧ k ≠ q ∧ live (hp k) ∧ At (ρ k) b) := by
    intro k b hl hb
    by_cases hki : k = i
    · subst hki
      rw [upd_same] at hb
      exact .inl ⟨rfl, ai b hb⟩
    · rw [upd_ne _ _ hki] at hl hb
      by_cases hkq : k = q
      · subst hkq
        rw [upd_same] at hb
        exact .inr (.inl ⟨rfl, sAt b hb⟩)
      · rw [upd_ne _ _ hkq] at hl hb
        exact .inr (.inr ⟨hki, hkq, hl, hb⟩)
  have lvi : live (hp i) := by rw [hi]; trivial
  have nwl : ∀ b, b < w.heap.size → Lv (upd (upd hp q (.row be t.inn (t.get (l.getD j t.zero)))) i (.tre o fr e be t l (some (j, q)))) (upd (upd ρ q s) i (.tuple (v :: ss.set j (.slice none 0 0)).toArray)) b → Lv hp ρ b := by
    rintro b _ ⟨k, hl, hb⟩
    rcases cl k b hl hb with ⟨_, m, u, _, hm, hu⟩ | ⟨_, hu⟩ | ⟨_, _, h1, h2⟩
    · exact ⟨i, lvi, oldAt m u b hm hu⟩
    · exact ⟨i, lvi, oldAt (j + 1) s b (by simpa using hs) hu⟩
    · exact ⟨k, h1, h2⟩
  have hM : ∀ b, b < w.heap.size → Mut MX (upd (upd hp q (.row be t.inn (t.get (l.getD j t.zero)))) i (.tre o fr e be t l (some (j, q)))) (upd (upd ρ q s) i (.tuple (v :: ss.set j (.slice none 0 0)).toArray)) b → Mut MX hp ρ b := fun b hb hm => hm.imp id (nwl b hb)
  refine Step.mk' (D := fun _ => False) H (Off.refl _ _) (fun _ _ hf => hf.elim) old nwl ?_ ?_ ?_ ?_
  · intro k
    by_cases hki : k = i
    · subst hki
      refine .inr ?_
      rw [upd_same]
      refine ⟨v, ss, us, xs, h.nest, h.osz, .inl (by rw [upd_same]; rfl), h.len, h.ulen, h.own, Els.imp (fun _ _ hk => KT_step (D := fun _ => False) (Off.refl _ _) (fun _ _ hf => hf.elim) hM t hk) h.els, fun m x u hf hx' hu hc => ?_, h.dead, h.vw, ?_, h.sl, fun m r hc => ?_⟩
      · exact Inn_step (D := fun _ => False) (Off.refl _ _) (fun _ _ hf => hf.elim) hM (fun _ _ hf => hf) (h.inn m x u hf hx' hu (fun _ e => by cases e))
      · intro a c u u' b ha hc hu hu'
        have conv : ∀ {a : Nat} {u : Value}, (v :: hole (some (j, q)) ss)[a]? = some u → blk u = some b → (v :: ss)[a]? = some u := by
          intro a u ha hu
          cases a with
          | zero => exact ha
          | succ a =>
            rw [List.getElem?_cons_succ] at ha ⊢
            unfold hole at ha
            by_cases haj : a = j
            · subst haj
              rw [List.getElem?_set_self hjl] at ha
              injection ha with ha
              subst ha
              cases hu
            · rw [List.getElem?_set_ne (fun e' => haj e'.symm)] at ha
              exact ha
        exact h.dis a c u u' b (conv ha hu) (conv hc hu') hu hu'
      · injection hc with hc
        injection hc with e1 e2
        subst e1 e2
        refine ⟨hfr, hjl, by rw [upd_ne _ _ hqi, upd_same]; exact hs, by rw [upd_ne _ _ hqi, upd_same]; simp⟩
    · by_cases hkq : k = q
      · subst hkq
        refine .inr ?_
        rw [upd_ne _ _ hki, upd_same]
        obtain ⟨ys, h1, h2⟩ := hinn
        exact ⟨ys, by rw [upd_ne _ _ hki, upd_same]; exact h1, Els.imp (fun _ _ hk => KR_step (D := fun _ => False) (Off.refl _ _) (fun _ _ hf => hf.elim) hM t.inn hk) h2⟩
      · exact .inl ⟨by rw [upd_ne _ _ hki, upd_ne _ _ hkq], by rw [upd_ne _ _ hki, upd_ne _ _ hkq], fun _ _ _ hf => hf⟩
  · intro k k' b hl hl' hb hb'
    rcases cl k b hl hb with ⟨rfl, m, u, hm0, hm, hu⟩ | ⟨rfl, hu⟩ | ⟨a1, a2, h1, h2⟩ <;> rcases cl k' b hl' hb' with ⟨rfl, m', u', hm0', hm', hu'⟩ | ⟨rfl, hu'⟩ | ⟨a1', a2', h1', h2'⟩
    · rfl
    · exact absurd (h.dis m (j + 1) u s b hm (by simpa [hole] using hs) hu hu') hm0
    · exact absurd (H.sep _ _ b lvi h1' (oldAt m u b hm hu) h2') (fun e' => a1' e'.symm)
    · exact absurd (h.dis m' (j + 1) u' s b hm' (by simpa [hole] using hs) hu' hu) hm0'
    · rfl
    · exact absurd (H.sep _ _ b lvi h1' (oldAt (j + 1) s b (by simpa using hs) hu) h2') (fun e' => a1' e'.symm)
    · exact absurd (H.sep _ _ b h1 lvi h2 (oldAt m' u' b hm' hu')) a1
    · exact absurd (H.sep _ _ b h1 lvi h2 (oldAt (j + 1) s b (by simpa using hs) hu')) a1
    · exact H.sep _ _ b h1 h1' h2 h2'
  · intro k b hl hb hm
    rcases cl k b hl hb with ⟨rfl, m, u, _, hm', hu⟩ | ⟨rfl, hu⟩ | ⟨_, _, h1, h2⟩
    · exact H.ext _ b lvi (oldAt m u b hm' hu) hm
    · exact H.ext _ b lvi (oldAt (j + 1) s b (by simpa using hs) hu) hm
    · exact H.ext k b h1 h2 hm
  · intro k cs hk
    have hki : k ≠ i := fun e' => by rw [e', hi] at hk; cases hk
    have hkq : k ≠ q := fun e' => by rw [e', hq] at hk; cases hk
    exact .inl ⟨by rw [upd_ne _ _ hki, upd_ne _ _ hkq], fun _ _ hf => hf⟩

/-- It goes back. -/
theorem Step.putBack (H : HRel MX w ρ hp) {i o : Nat} {fr : Option Nat} {e be : TypeId} {t : Ty} {l : List t.den} {v : Value} {ss us xs : List Value} {j q : Nat} (hi : hp i = .tre o fr e be t l (some (j, q))) (h : TreOk (Mut MX hp ρ) w ρ hp i o fr e be t l (some (j, q)) v ss us xs) {m : List t.inn.den} (hq : hp q = .row be t.inn m) :
    Step MX w ρ hp w (upd ρ i (.tuple (v :: ss).toArray)) (upd (upd hp q .gone) i (.tre o fr e be t (l.set j (t.put (l.getD j t.zero) m)) none)) := by
  have hqi : q ≠ i := fun e' => by rw [e', hi] at hq; cases hq
  obtain ⟨hfr, hjl, hs, _⟩ := h.cur_ j q rfl
  have hjl' : j < l.length := by rw [← h.len]; exact hjl
  have hne0 : 0 < l.length := by omega
  have hqok := H.ok q
  rw [hq] at hqok
  obtain ⟨ys, y1, y2⟩ := hqok
  have lvi : live (hp i) := by rw [hi]; trivial
  have lvq : live (hp q) := by rw [hq]; trivial
  have hx : l[j]? = some (l.getD j t.zero) := by rw [List.getD_eq_getElem?_getD, List.getElem?_eq_getElem hjl']; rfl
  have old : ∀ k, hp k ≠ .unused → Old (ρ k) (upd ρ i (.tuple (v :: ss).toArray) k) ∧ upd (upd hp q .gone) i (.tre o fr e be t (l.set j (t.put (l.getD j t.zero) m)) none) k ≠ .unused := by
    intro k hk
    by_cases hki : k = i
    · subst hki
      rw [upd_same, upd_same]
      exact ⟨.inr ⟨⟨_, h.tup hne0⟩, ⟨_, rfl⟩, by rw [h.hd_]; rfl⟩, by simp⟩
    · rw [upd_ne _ _ hki, upd_ne _ _ hki]
      refine ⟨Old.refl _, ?_⟩
      by_cases hkq : k = q
      · subst hkq; rw [upd_same]; simp
      · rw [upd_ne _ _ hkq]; exact hk
  -- a block of the whole is one of what stood here, or of what was taken out
  have ai : ∀ (a : Nat) (u : Value) (b : Nat), (v :: ss)[a]? = some u → blk u = some b → (a ≠ j + 1 ∧ At (ρ i) b ∧ (v :: hole (some (j, q)) ss)[a]? = some u) ∨ (a = j + 1 ∧ u = ρ q ∧ At (ρ q) b) := by
    intro a u b ha hu
    by_cases haj : a = j + 1
    · subst haj
      rw [List.getElem?_cons_succ, hs] at ha
      injection ha with ha
      exact .inr ⟨rfl, ha.symm, by rw [at_own y1, ha]; exact hu⟩
    · have h2 : (v :: hole (some (j, q)) ss)[a]? = some u := by
        cases a with
        | zero => exact ha
        | succ a =>
          rw [List.getElem?_cons_succ] at ha ⊢
          unfold hole
          rw [List.getElem?_set_ne (fun e' => haj (by rw [e']))]
          exact ha
      exact .inl ⟨haj, h.at_.2 ⟨a, u, h2, hu⟩, h2⟩
  have cl : ∀ k b, live (upd (upd hp q .gone) i (.tre o fr e be t (l.set j (t.put (l.getD j t.zero) m)) none) k) → At (upd ρ i (.tuple (v :: ss).toArray) k) b →
      (k = i ∧ (At (ρ i) b ∨ At (ρ q) b)) ∨ (k ≠ i ∧ k ≠ q ∧ live (hp k) ∧ At (ρ k) b) := by
    intro k b hl hb
    by_cases hki : k = i
    · subst hki
      rw [upd_same] at hb
      obtain ⟨a, u, ha, hu⟩ := at_tuple.1 hb
      rcases ai a u b ha hu with ⟨_, h1, _⟩ | ⟨_, _, h1⟩
      · exact .inl ⟨rfl, .inl h1⟩
      · exact .inl ⟨rfl, .inr h1⟩
    · rw [upd_ne _ _ hki] at hl hb
      have hkq : k ≠ q := fun e' => by rw [e', upd_same] at hl; exact hl
      rw [upd_ne _ _ hkq] at hl
      exact .inr ⟨hki, hkq, hl, hb⟩
  have nwl : ∀ b, b < w.heap.size → Lv (upd (upd hp q .gone) i (.tre o fr e be t (l.set j (t.put (l.getD j t.zero) m)) none)) (upd ρ i (.tuple (v :: ss).toArray)) b → Lv hp ρ b := by
    rintro b _ ⟨k, hl, hb⟩
    rcases cl k b hl hb with ⟨_, h1 | h1⟩ | ⟨_, _, h1, h2⟩
    · exact ⟨i, lvi, h1⟩
    · exact ⟨q, lvq, h1⟩
    · exact ⟨k, h1, h2⟩
  have hM : ∀ b, b < w.heap.size → Mut MX (upd (upd hp q .gone) i (.tre o fr e be t (l.set j (t.put (l.getD j t.zero) m)) none)) (upd ρ i (.tuple (v :: ss).toArray)) b → Mut MX hp ρ b := fun b hb hm => hm.imp id (nwl b hb)
  refine Step.mk' (D := fun _ => False) H (Off.refl _ _) (fun _ _ hf => hf.elim) old nwl ?_ ?_ ?_ ?_
  · intro k
    by_cases hki : k = i
    · subst hki
      refine .inr ?_
      rw [upd_same]
      refine ⟨v, ss, us, xs, h.nest, h.osz, .inl (by rw [upd_same]; rfl), by rw [List.length_set]; exact h.len, by rw [List.length_set]; exact h.ulen, by rw [List.length_set]; exact h.own, ?_, fun a x u hf hx' hu _ => ?_, h.dead, h.vw, ?_, h.sl, fun a r hc => by cases hc⟩
      · refine Els.repl (by simp) (fun a p p' cs g1 g2 hk => ?_) h.els
        obtain ⟨z1, z2⟩ := zip_get g1
        obtain ⟨z3, z4⟩ := zip_get g2
        rw [z2] at z4
        injection z4 with z4
        have hk := KT_step (D := fun _ => False) (Off.refl _ _) (fun _ _ hf => hf.elim) hM t hk
        rw [← z4]
        by_cases haj : a = j
        · subst haj
          rw [List.getElem?_set_self hjl'] at z3
          injection z3 with z3
          rw [hx] at z1
          injection z1 with z1
          rw [← z3]
          exact (show t.put p.1 m = t.put (l.getD a t.zero) m by rw [z1]) ▸ KT_put t hk m
        · rw [List.getElem?_set_ne (fun e' => haj e'.symm), z1] at z3
          injection z3 with z3
          rw [← z3]
          exact hk
      · by_cases haj : a = j
        · subst haj
          rw [List.getElem?_set_self hjl'] at hx'
          injection hx' with hx'
          rw [hs] at hu
          injection hu with hu
          subst hx' hu
          unfold Inn
          rw [get_put t h.nest]
          exact ⟨ys, y1, Els.imp (fun _ _ hk => KR_step (D := fun _ => False) (Off.refl _ _) (fun _ _ hf => hf.elim) hM t.inn hk) y2⟩
        · rw [List.getElem?_set_ne (fun e' => haj e'.symm)] at hx'
          exact Inn_step (D := fun _ => False) (Off.refl _ _) (fun _ _ hf => hf.elim) hM (fun _ _ hf => hf) (h.inn a x u hf hx' hu (fun r e' => haj (by injection e' with e'; injection e' with e1 _; exact e1.symm)))
      · intro a c u u' b ha hc hu hu'
        rcases ai a u b ha hu with ⟨_, p1, p2⟩ | ⟨p0, _, p1⟩ <;> rcases ai c u' b hc hu' with ⟨_, p1', p2'⟩ | ⟨p0', _, p1'⟩
        · exact h.dis a c u u' b p2 p2' hu hu'
        · exact absurd (H.sep _ _ b lvi lvq p1 p1') (fun e' => hqi e'.symm)
        · exact absurd (H.sep _ _ b lvq lvi p1 p1') hqi
        · rw [p0, p0']
    · by_cases hkq : k = q
      · subst hkq
        exact .inr (by rw [upd_ne _ _ hki, upd_same]; trivial)
      · exact .inl ⟨by rw [upd_ne _ _ hki, upd_ne _ _ hkq], by rw [upd_ne _ _ hki], fun _ _ _ hf => hf⟩
  · intro k k' b hl hl' hb hb'
    rcases cl k b hl hb with ⟨rfl, h1 | h1⟩ | ⟨a1, a2, h1, h2⟩ <;> rcases cl k' b hl' hb' with ⟨rfl, h1' | h1'⟩ | ⟨a1', a2', h1', h2'⟩
    · rfl
    · rfl
    · exact absurd (H.sep _ _ b lvi h1' h1 h2') (fun e' => a1' e'.symm)
    · rfl
    · rfl
    · exact absurd (H.sep _ _ b lvq h1' h1 h2') (fun e' => a2' e'.symm)
    · exact absurd (H.sep _ _ b h1 lvi h2 h1') a1
    · exact absurd (H.sep _ _ b h1 lvq h2 h1') a2
    · exact H.sep _ _ b h1 h1' h2 h2'
  · intro k b hl hb hm
    rcases cl k b hl hb with ⟨rfl, h1 | h1⟩ | ⟨_, _, h1, h2⟩
    · exact H.ext _ b lvi h1 hm
    · exact H.ext _ b lvq h1 hm
    · exact H.ext k b h1 h2 hm
  · intro k cs hk
    have hki : k ≠ i := fun e' => by rw [e', hi] at hk; cases hk
    have hkq : k ≠ q := fun e' => by rw [e', hq] at hk; cases hk
    exact .inl ⟨by rw [upd_ne _ _ hki, upd_ne _ _ hkq], fun _ _ hf => hf⟩

theorem zip_set {α β : Type} : {l : List α} → {m : List β} → {j : Nat} → {y : α} → {s : β} → m[j]? = some s → (l.set j y).zip m = (l.zip m).set j (y, s)
  | [], _, _, _, _, _ => by simp
  | _ :: _, [], _, _, _, h => by simp at h
  | _ :: _, _ :: _, 0, _, _, h => by simp at h; subst h; rfl
  | _ :: l, _ :: m, j + 1, y, s, h => by
    simp only [List.set_cons_succ, List.zip_cons_cons]
    rw [zip_set (by simpa using h)]

theorem zip_set2 {α β : Type} : {l : List α} → {m : List β} → {j : Nat} → {y : α} → {s : β} → (l.set j y).zip (m.set j s) = (l.zip m).set j (y, s)
  | [], _, _, _, _ => by simp
  | _ :: _, [], _, _, _ => by simp
  | _ :: _, _ :: _, 0, _, _ => rfl
  | _ :: l, _ :: m, j + 1, y, s => by
    simp only [List.set_cons_succ, List.zip_cons_cons]
    rw [zip_set2]

theorem TreOk.at0 {M : Nat → Prop} {i o : Nat} {fr : Option Nat} {e be : TypeId} {t : Ty} {l : List t.den} {cur : Option (Nat × Nat)} {v : Value} {ss us xs : List Value} (h : TreOk M w ρ hp i o fr e be t l cur v ss us xs) {b : Nat} (hb : blk v = some b) : At (ρ i) b := by
  exact h.at_.2 ⟨0, v, rfl, hb⟩

/-- Of an element's own cells some are written. -/
theorem Step.storeFlat (H : HRel MX w ρ hp) {i o : Nat} {fr : Option Nat} {e be : TypeId} {t : Ty} {l : List t.den} {cur : Option (Nat × Nat)} {v : Value} {ss us xs : List Value} (hi : hp i = .tre o fr e be t l cur) (h : TreOk (Mut MX hp ρ) w ρ hp i o fr e be t l cur v ss us xs) {g n c : Nat} (hv : v = .slice (some ⟨g, 0, none⟩) n c) (hn : n = l.length) {j : Nat} (hj : j < n)
    {w' : World} (hoff : Off (fun b => b = g) w w') {s : Value} (hs : us[j]? = some s) {vs : List Value} (hown : w'.ownsRow 0 e t.sz v n (xs.take (j * t.sz) ++ vs ++ xs.drop (j * t.sz + t.sz))) {y : t.den} (hy : KT (Mut MX hp ρ) w t y s vs) (hget : t.get y = t.get (l.getD j t.zero)) :
    Step MX w ρ hp w' ρ (upd hp i (.tre o fr e be t (l.set j y) cur)) := by
  have lvi : live (hp i) := by rw [hi]; trivial
  have hbv : blk v = some g := by rw [hv]; rfl
  refine Step.write H (fun _ => lvi) (by simp) (fun cs h => by rw [hi] at h; cases h) (hoff.mono fun b _ hb => ⟨lvi, hb ▸ h.at0 hbv⟩) ?_
  intro hp' hp'u M hM hMl _
  have hMe := hMl trivial
  subst hMe
  have hD : ∀ b, b < w.heap.size → b = g → Mut MX hp ρ b := fun b _ hb => .inr ⟨i, lvi, hb ▸ h.at0 hbv⟩
  have hz : (l.zip us).length = l.length := by rw [List.length_zip, h.ulen]; omega
  refine ⟨v, ss, us, _, h.nest, h.osz, .inl (h.tup (by omega)), by rw [List.length_set]; exact h.len, by rw [List.length_set]; exact h.ulen, by rw [List.length_set, ← hn]; exact hown, ?_, fun a x u hf hx hu hc => ?_, h.dead, h.vw, h.dis, h.sl, fun a q hc => ?_⟩
  · rw [zip_set hs]
    refine Els.set (fun _ _ hk => KT_len t hk) (Els.imp (fun _ _ hk => KT_step hoff hD (fun _ _ h => h) t hk) h.els) j (y, s) vs (by omega) (KT_step hoff hD (fun _ _ h => h) t hy)
  · have hng : ∀ b, blk u = some b → ¬ b = g := fun b hb e' => by
      have := h.dis 0 (a + 1) v u b rfl (by rw [List.getElem?_cons_succ, hole_get hc]; exact hu) (by rw [e']; exact hbv) hb
      omega
    by_cases haj : a = j
    · subst haj
      rw [List.getElem?_set_self (by omega)] at hx
      injection hx with hx
      subst hx
      have := h.inn a (l.getD a t.zero) u hf (by rw [List.getD_eq_getElem?_getD, List.getElem?_eq_getElem (by omega)]; rfl) hu hc
      unfold Inn at this ⊢
      rw [hget]
      exact Inn_step hoff hD (fun _ _ h => h) (x := l.getD a t.zero) hng this
    · rw [List.getElem?_set_ne (fun e' => haj e'.symm)] at hx
      exact Inn_step hoff hD (fun _ _ h => h) hng (h.inn a x u hf hx hu hc)
  · obtain ⟨h0, h1, h2, h3⟩ := h.cur_ a q hc
    exact ⟨h0, h1, h2, (hp'u q h3).2⟩

/-- The slice of a row of one's own is written into an element: as if the row had been taken out of it. -/
theorem Step.storeHole (H : HRel MX w ρ hp) {i : Nat} {e be : TypeId} {t : Ty} {l : List t.den} {cur : Option (Nat × Nat)} {v : Value} {ss us xs : List Value} (hi : hp i = .tre 0 none e be t l cur) (h : TreOk (Mut MX hp ρ) w ρ hp i 0 none e be t l cur v ss us xs) {g n c : Nat} (hv : v = .slice (some ⟨g, 0, none⟩) n c) (hn : n = l.length) {j : Nat} (hj : j < n) (hcur : ∀ a q0, cur = some (a, q0) → a = j)
    {w' : World} (hoff : Off (fun b => b = g) w w') {q : Nat} {e' : TypeId} {t' : Ty} {m : List t'.den} (hq : hp q = .row e' t' m) (hsl : ∃ A n c, ρ q = .slice A n c) {vs : List Value} (hown : w'.ownsRow 0 e t.sz v n (xs.take (j * t.sz) ++ vs ++ xs.drop (j * t.sz + t.sz))) {y : t.den} (hy : KT (Mut MX hp ρ) w t y (ρ q) vs) :
    Step MX w ρ hp w' (upd ρ i (.tuple (v :: ss.set j (.slice none 0 0)).toArray)) (upd hp i (.tre 0 none e be t (l.set j y) (some (j, q)))) := by
  have hqi : q ≠ i := fun e' => by rw [e', hi] at hq; cases hq
  have lvi : live (hp i) := by rw [hi]; trivial
  have hbv : blk v = some g := by rw [hv]; rfl
  have hjl : j < ss.length := by rw [h.len]; omega
  have hne0 : 0 < l.length := by omega
  have ai : ∀ b, At (.tuple (v :: ss.set j (.slice none 0 0)).toArray) b → At (ρ i) b := by
    intro b hb
    obtain ⟨a, u, ha, hu⟩ := at_tuple.1 hb
    refine h.at_.2 ⟨a, u, ?_, hu⟩
    cases a with
    | zero => exact ha
    | succ a =>
      rw [List.getElem?_cons_succ] at ha ⊢
      by_cases haj : a = j
      · subst haj
        rw [List.getElem?_set_self hjl] at ha
        injection ha with ha
        subst ha
        cases hu
      · rw [List.getElem?_set_ne (fun e' => haj e'.symm)] at ha
        rw [hole_get (fun q0 e => haj (hcur a q0 e))]
        exact ha
  have old : ∀ k, hp k ≠ .unused → Old (ρ k) (upd ρ i (.tuple (v :: ss.set j (.slice none 0 0)).toArray) k) ∧ upd hp i (.tre 0 none e be t (l.set j y) (some (j, q))) k ≠ .unused := by
    intro k hk
    by_cases hki : k = i
    · subst hki
      rw [upd_same, upd_same]
      exact ⟨.inr ⟨⟨_, h.tup hne0⟩, ⟨_, rfl⟩, by rw [h.hd_]; rfl⟩, by simp⟩
    · rw [upd_ne _ _ hki, upd_ne _ _ hki]
      exact ⟨Old.refl _, hk⟩
  have cl : ∀ k b, live (upd hp i (.tre 0 none e be t (l.set j y) (some (j, q))) k) → At (upd ρ i (.tuple (v :: ss.set j (.slice none 0 0)).toArray) k) b → live (hp k) ∧ At (ρ k) b := by
    intro k b hl hb
    by_cases hki : k = i
    · subst hki
      rw [upd_same] at hb
      exact ⟨lvi, ai b hb⟩
    · rw [upd_ne _ _ hki] at hl hb
      exact ⟨hl, hb⟩
  have nwl : ∀ b, b < w.heap.size → Lv (upd hp i (.tre 0 none e be t (l.set j y) (some (j, q)))) (upd ρ i (.tuple (v :: ss.set j (.slice none 0 0)).toArray)) b → Lv hp ρ b := fun b _ ⟨k, hl, hb⟩ => ⟨k, cl k b hl hb⟩
  have hM : ∀ b, b < w.heap.size → Mut MX (upd hp i (.tre 0 none e be t (l.set j y) (some (j, q)))) (upd ρ i (.tuple (v :: ss.set j (.slice none 0 0)).toArray)) b → Mut MX hp ρ b := fun b hb hm => hm.imp id (nwl b hb)
  have hDl : ∀ b, b < w.heap.size → b = g → Lv hp ρ b := fun b _ hb => ⟨i, lvi, hb ▸ h.at0 hbv⟩
  have hD : ∀ b, b < w.heap.size → b = g → Mut MX hp ρ b := fun b hb hg => .inr (hDl b hb hg)
  have hz : (l.zip us).length = l.length := by rw [List.length_zip, h.ulen]; omega
  refine Step.mk' (D := fun b => b = g) H hoff hDl old nwl ?_ ?_ ?_ ?_
  · intro k
    by_cases hki : k = i
    · subst hki
      refine .inr ?_
      rw [upd_same]
      refine ⟨v, ss.set j (ρ q), us.set j (ρ q), _, h.nest, h.osz, .inl (by rw [upd_same]; unfold hole; simp only [List.set_set]), by rw [List.length_set, List.length_set]; exact h.len, by rw [List.length_set, List.length_set]; exact h.ulen, by rw [List.length_set, ← hn]; exact hown, ?_, fun a x u hf hx hu hc => ?_, fun a s hf => absurd hf (Nat.not_lt_zero _), fun a s u hf hs hu => ?_, ?_, ?_, fun a r hc => ?_⟩
      · rw [zip_set2]
        exact Els.set (fun _ _ hk => KT_len t hk) (Els.imp (fun _ _ hk => KT_step hoff hD hM t hk) h.els) j (y, ρ q) vs (by omega) (KT_step hoff hD hM t hy)
      · have haj : a ≠ j := fun e' => hc q (by rw [e'])
        rw [List.getElem?_set_ne (fun e' => haj e'.symm)] at hx hu
        have hng : ∀ b, blk u = some b → ¬ b = g := fun b hb e' => by
          have := h.dis 0 (a + 1) v u b rfl (by rw [List.getElem?_cons_succ, hole_get (fun q0 e => haj (hcur a q0 e))]; exact hu) (by rw [e']; exact hbv) hb
          omega
        exact Inn_step hoff hD hM hng (h.inn a x u hf hx hu (fun q0 e => haj (hcur a q0 e)))
      · show u = s
        by_cases haj : a = j
        · subst haj
          rw [List.getElem?_set_self hjl] at hs
          rw [List.getElem?_set_self (by rw [h.ulen, ← h.len]; exact hjl)] at hu
          injection hs with hs
          injection hu with hu
          rw [← hs, ← hu]
        · rw [List.getElem?_set_ne (fun e' => haj e'.symm)] at hs hu
          exact h.vw a s u hf hs hu
      · intro a c' u u' b ha hc hu hu'
        have conv : ∀ {a : Nat} {u : Value}, (v :: hole (some (j, q)) (ss.set j (ρ q)))[a]? = some u → blk u = some b → (v :: hole cur ss)[a]? = some u := by
          intro a u ha hu
          cases a with
          | zero => exact ha
          | succ a =>
            rw [List.getElem?_cons_succ] at ha ⊢
            unfold hole at ha
            simp only [List.set_set] at ha
            by_cases haj : a = j
            · subst haj
              rw [List.getElem?_set_self hjl] at ha
              injection ha with ha
              subst ha
              cases hu
            · rw [List.getElem?_set_ne (fun e' => haj e'.symm)] at ha
              rw [hole_get (fun q0 e => haj (hcur a q0 e))]
              exact ha
        exact h.dis a c' u u' b (conv ha hu) (conv hc hu') hu hu'
      · intro u hu
        rcases List.mem_or_eq_of_mem_set hu with hu | hu
        · exact h.sl u hu
        · rw [hu]; exact hsl
      · injection hc with hc
        injection hc with e1 e2
        subst e1 e2
        exact ⟨Nat.zero_le _, by rw [List.length_set]; exact hjl, by rw [upd_ne _ _ hqi, List.getElem?_set_self hjl], by rw [upd_ne _ _ hqi, hq]; simp⟩
    · refine .inl ⟨upd_ne _ _ hki, upd_ne _ _ hki, fun hl b hb e' => ?_⟩
      exact hki (H.sep k i b hl lvi hb (e' ▸ h.at0 hbv))
  · intro k k' b hl hl' hb hb'
    exact H.sep k k' b (cl k b hl hb).1 (cl k' b hl' hb').1 (cl k b hl hb).2 (cl k' b hl' hb').2
  · intro k b hl hb hm
    exact H.ext k b (cl k b hl hb).1 (cl k b hl hb).2 hm
  · intro k cs hk
    have hki : k ≠ i := fun e' => by rw [e', hi] at hk; cases hk
    refine .inl ⟨upd_ne _ _ hki, fun b hb e' => ?_⟩
    exact hki (H.sep k i b (by rw [hk]; trivial) lvi hb (e' ▸ h.at0 hbv))

/-- An element that ends in a row of one's own is appended: the row stays outside. -/
theorem Step.appendOne (H : HRel MX w ρ hp) {hp1 : Heap} (hq : ∀ k, hp1 k = hp k ∨ (hp1 k = .gone ∧ hp k ≠ .unused)) (hqb : ∀ k, hp1 k = .gone → ∀ cs, hp k ≠ .box cs) {b : Nat} (hbs : hp b = .unused)
    {o : Nat} {e be : TypeId} {t : Ty} {l : List t.den} {y : t.den} {v uq : Value} {ss us xs ys : List Value} {q : Nat}
    (hnest : t.nest = true) (hosz : o = 0 ∨ t.inn.sz = 1) (hlen : ss.length = l.length) (hulen : us.length = l.length) (hown : w.ownsRow 0 e t.sz v l.length xs) (hels : Els (fun (p : t.den × Value) cs => KT (Mut MX hp ρ) w t p.1 p.2 cs) (l.zip us) xs) (hvw : ∀ (j : Nat) (s u : Value), ss[j]? = some s → us[j]? = some u → Vw o s u)
    (hinn : ∀ (j : Nat) (x : t.den) (s : Value), l[j]? = some x → ss[j]? = some s → Inn (Mut MX hp ρ) w be t x s) (hdis : Dis (v :: ss)) (hsl : ∀ s ∈ ss, ∃ A n c, s = .slice A n c)
    (hlv : ∀ (j : Nat) (s : Value) (g : Nat), (v :: ss)[j]? = some s → blk s = some g → Lv hp ρ g ∧ ∀ k, live (hp1 k) → ¬ At (ρ k) g)
    (hqr : hp q ≠ .unused) (hq1 : hp1 q ≠ .unused) (hqs : ∃ A n c, ρ q = .slice A n c) (huq : Vw o (ρ q) uq) (hy : KT (Mut MX hp ρ) w t y uq ys)
    {w' : World} {v' : Value} (hown' : w'.ownsRow 0 e t.sz v' (l.length + 1) (xs ++ ys)) (hg : w.grownBy w' v.ownBlock) (hat : v'.ownBlock = v.ownBlock ∨ ∀ g, v'.ownBlock = some g → w.heap.size ≤ g) :
    Step MX w ρ hp w' (upd ρ b (.tuple (v' :: (ss ++ [.slice none 0 0])).toArray)) (upd hp1 b (.tre o none e be t (l ++ [y]) (some (l.length, q)))) := by
  have hqb' : q ≠ b := fun e' => hqr (by rw [e', hbs])
  have hvb : ∀ g, blk v = some g ↔ v.ownBlock = some g := fun g => by rw [← show At v g ↔ blk v = some g from by rw [at_own hown]]; rw [blk_own (by rcases hown.2 with ⟨h, _⟩ | ⟨_, _, _, h, _⟩ <;> exact ⟨_, _, _, h⟩)]
  have hvb' : ∀ g, blk v' = some g ↔ v'.ownBlock = some g := fun g => by rw [← show At v' g ↔ blk v' = some g from by rw [at_own hown']]; rw [blk_own (by rcases hown'.2 with ⟨h, _⟩ | ⟨_, _, _, h, _⟩ <;> exact ⟨_, _, _, h⟩)]
  have hoff : Off (fun g => v.ownBlock = some g) w w' := Off.grown hg
  have hl1 : ∀ k, live (hp1 k) → live (hp k) := by
    intro k hk
    rcases hq k with h | ⟨h, _⟩
    · rwa [h] at hk
    · rw [h] at hk; exact hk.elim
  -- a block of the new row
  have ab : ∀ (a : Nat) (u : Value) (g : Nat), (v' :: (ss ++ [.slice none 0 0]))[a]? = some u → blk u = some g → (∃ s, (v :: ss)[a]? = some s ∧ blk s = some g) ∨ (a = 0 ∧ w.heap.size ≤ g) := by
    intro a u g ha hu
    cases a with
    | zero =>
      have : v' = u := by simpa using ha
      subst this
      rcases hat with h | h
      · exact .inl ⟨v, rfl, (hvb g).2 (by rw [← h]; exact (hvb' g).1 hu)⟩
      · exact .inr ⟨rfl, h g ((hvb' g).1 hu)⟩
    | succ a =>
      rw [List.getElem?_cons_succ] at ha
      by_cases hal : a < ss.length
      · rw [List.getElem?_append_left hal] at ha
        exact .inl ⟨u, by rw [List.getElem?_cons_succ]; exact ha, hu⟩
      · rw [List.getElem?_append_right (by omega)] at ha
        have : u = .slice none 0 0 := by
          have := List.mem_of_getElem? ha
          exact List.mem_singleton.1 this
        rw [this] at hu
        cases hu
  have anew : ∀ g, At (.tuple (v' :: (ss ++ [.slice none 0 0])).toArray) g → g < w.heap.size → Lv hp ρ g ∧ ∀ k, live (hp1 k) → ¬ At (ρ k) g := by
    intro g hg1 hlt
    obtain ⟨a, u, ha, hu⟩ := at_tuple.1 hg1
    rcases ab a u g ha hu with ⟨s, hs, hb⟩ | ⟨_, h⟩
    · exact hlv a s g hs hb
    · omega
  have lvi : ∀ k g, live (upd hp1 b (.tre o none e be t (l ++ [y]) (some (l.length, q))) k) → At (upd ρ b (.tuple (v' :: (ss ++ [.slice none 0 0])).toArray) k) g → (k = b ∧ At (.tuple (v' :: (ss ++ [.slice none 0 0])).toArray) g) ∨ (k ≠ b ∧ live (hp1 k) ∧ At (ρ k) g) := by
    intro k g hl hb'
    by_cases hkb : k = b
    · subst hkb; rw [upd_same] at hb'; exact .inl ⟨rfl, hb'⟩
    · rw [upd_ne _ _ hkb] at hl hb'; exact .inr ⟨hkb, hl, hb'⟩
  have old : ∀ k, hp k ≠ .unused → Old (ρ k) (upd ρ b (.tuple (v' :: (ss ++ [.slice none 0 0])).toArray) k) ∧ upd hp1 b (.tre o none e be t (l ++ [y]) (some (l.length, q))) k ≠ .unused := by
    intro k hk
    have hne : k ≠ b := fun e => hk (e ▸ hbs)
    rw [upd_ne _ _ hne, upd_ne _ _ hne]
    refine ⟨Old.refl _, ?_⟩
    rcases hq k with h | ⟨h, _⟩
    · rw [h]; exact hk
    · rw [h]; simp
  have nwl : ∀ g, g < w.heap.size → Lv (upd hp1 b (.tre o none e be t (l ++ [y]) (some (l.length, q)))) (upd ρ b (.tuple (v' :: (ss ++ [.slice none 0 0])).toArray)) g → Lv hp ρ g := by
    rintro g hlt ⟨k, hl, hbj⟩
    rcases lvi k g hl hbj with ⟨_, h⟩ | ⟨_, h1, h2⟩
    · exact (anew g h hlt).1
    · exact ⟨k, hl1 k h1, h2⟩
  have hD : ∀ g, v.ownBlock = some g → Lv hp ρ g ∧ ∀ k, live (hp1 k) → ¬ At (ρ k) g := fun g h => hlv 0 v g rfl ((hvb g).2 h)
  have hM : ∀ g, g < w.heap.size → Mut MX (upd hp1 b (.tre o none e be t (l ++ [y]) (some (l.length, q)))) (upd ρ b (.tuple (v' :: (ss ++ [.slice none 0 0])).toArray)) g → Mut MX hp ρ g := fun g hg hm => hm.imp id (nwl g hg)
  have hDM : ∀ g, g < w.heap.size → v.ownBlock = some g → Mut MX hp ρ g := fun g _ h => .inr (hD g h).1
  refine Step.mk' (D := fun g => v.ownBlock = some g) H hoff (fun g _ h => (hD g h).1) old nwl ?_ ?_ ?_ (fun k cs hk => ?_)
  case refine_4 =>
    left
    have hkb : k ≠ b := fun e => by rw [e, hbs] at hk; cases hk
    rcases hq k with h | ⟨h, _⟩
    · exact ⟨by rw [upd_ne _ _ hkb, h], fun g hbg hDg => (hD g hDg).2 k (by rw [h, hk]; trivial) hbg⟩
    · exact absurd hk (hqb k h cs)
  · intro k
    by_cases hkb : k = b
    · subst hkb
      right
      rw [upd_same]
      have hz : (l ++ [y]).zip (us ++ [uq]) = l.zip us ++ [(y, uq)] := by rw [List.zip_append hulen.symm]; rfl
      refine ⟨v', ss ++ [ρ q], us ++ [uq], xs ++ ys, hnest, hosz, ?_, by simp [hlen], by simp [hulen], by rw [List.length_append]; exact hown', ?_, fun a x s _ hx hs hc => ?_, fun a s hf => absurd hf (Nat.not_lt_zero _), fun a s u _ hs hu => ?_, ?_, ?_, fun a r hc => ?_⟩
      · left
        rw [upd_same]
        unfold hole
        simp only [← hlen]
        rw [List.set_append_right _ _ (Nat.le_refl _)]
        simp
      · rw [hz]
        refine Els.append (Els.imp (fun _ _ hk => KT_step hoff hDM hM t hk) hels) ⟨ys, [], by simp, KT_step hoff hDM hM t hy, rfl⟩
      · have hal : a < l.length := by
          have h1 := (List.getElem?_eq_some_iff.1 hx).1
          rw [List.length_append] at h1
          have : a ≠ l.length := fun e => hc q (by rw [e])
          simp at h1
          omega
        rw [List.getElem?_append_left hal] at hx
        rw [List.getElem?_append_left (by omega)] at hs
        refine Inn_step hoff hDM hM (fun g hgs hDg => ?_) (hinn a x s hx hs)
        have := hdis 0 (a + 1) v s g rfl (by rw [List.getElem?_cons_succ]; exact hs) ((hvb g).2 hDg) hgs
        omega
      · by_cases hal : a < l.length
        · rw [List.getElem?_append_left (by omega)] at hs hu
          exact hvw a s u hs hu
        · have h1 := (List.getElem?_eq_some_iff.1 hs).1
          simp only [List.length_append, List.length_singleton] at h1
          obtain rfl : a = l.length := by omega
          rw [List.getElem?_append_right (by omega), hlen, Nat.sub_self] at hs
          rw [List.getElem?_append_right (by omega), hulen, Nat.sub_self] at hu
          injection hs with hs
          injection hu with hu
          rw [← hs, ← hu]
          exact huq
      · have conv : ∀ (a : Nat) (u : Value), (v' :: hole (some (l.length, q)) (ss ++ [ρ q]))[a]? = some u → (v' :: (ss ++ [.slice none 0 0]))[a]? = some u := by
          intro a u ha
          unfold hole at ha
          simp only [← hlen] at ha
          rw [List.set_append_right _ _ (Nat.le_refl _)] at ha
          simpa using ha
        intro a c u u' g ha hc hu hu'
        rcases ab a u g (conv a u ha) hu with ⟨s, hs, hb⟩ | ⟨h0, h⟩ <;> rcases ab c u' g (conv c u' hc) hu' with ⟨s', hs', hb'⟩ | ⟨h0', h'⟩
        · exact hdis a c s s' g hs hs' hb hb'
        · obtain ⟨k2, hk2, hk3⟩ := (hlv a s g hs hb).1
          have := H.lt hk2 hk3; omega
        · obtain ⟨k2, hk2, hk3⟩ := (hlv c s' g hs' hb').1
          have := H.lt hk2 hk3; omega
        · rw [h0, h0']
      · intro s hs
        rcases List.mem_append.1 hs with hs | hs
        · exact hsl s hs
        · rw [List.mem_singleton.1 hs]; exact hqs
      · injection hc with hc
        injection hc with e1 e2
        subst e1 e2
        refine ⟨Nat.zero_le _, by simp [hlen], ?_, ?_⟩
        · rw [upd_ne _ _ hqb', List.getElem?_append_right (by omega), hlen, Nat.sub_self]
          rfl
        · rw [upd_ne _ _ hqb']; exact hq1
    · rcases hq k with h | ⟨h, _⟩
      · refine .inl ⟨by rw [upd_ne _ _ hkb, h], upd_ne _ _ hkb, fun hl g hbg hDg => ?_⟩
        exact (hD g hDg).2 k (by rw [h]; exact hl) hbg
      · right
        rw [upd_ne _ _ hkb, h]
        trivial
  · intro k k' g hl hl' hb hb'
    rcases lvi k g hl hb with ⟨rfl, e1⟩ | ⟨_, hl1', hb1⟩ <;> rcases lvi k' g hl' hb' with ⟨rfl, e2⟩ | ⟨_, hl2', hb2⟩
    · rfl
    · by_cases hlt : g < w.heap.size
      · exact absurd hb2 ((anew g e1 hlt).2 k' hl2')
      · exact absurd (H.lt (hl1 k' hl2') hb2) hlt
    · by_cases hlt : g < w.heap.size
      · exact absurd hb1 ((anew g e2 hlt).2 k hl1')
      · exact absurd (H.lt (hl1 k hl1') hb1) hlt
    · exact H.sep k k' g (hl1 k hl1') (hl1 k' hl2') hb1 hb2
  · intro k g hl hb hmx
    rcases lvi k g hl hb with ⟨rfl, e1⟩ | ⟨_, hl1', hb1⟩
    · obtain ⟨k2, h1, h2⟩ := (anew g e1 (H.mx g hmx)).1
      exact H.ext k2 g h1 h2 hmx
    · exact H.ext k g (hl1 k hl1') hb1 hmx

/-- A row that was taken out is no more one's own: the elements up to it are forgotten. -/
theorem Step.forget (H : HRel MX w ρ hp) {i o : Nat} {fr : Option Nat} {e be : TypeId} {t : Ty} {l : List t.den} {v : Value} {ss us xs : List Value} {j q : Nat} (hi : hp i = .tre o fr e be t l (some (j, q))) (h : TreOk (Mut MX hp ρ) w ρ hp i o fr e be t l (some (j, q)) v ss us xs) :
    Step MX w ρ hp w (upd ρ i (.tuple (v :: (List.replicate (j + 1) (.slice none 0 0) ++ ss.drop (j + 1))).toArray)) (upd hp i (.tre o (some (j + 1)) e be t l none)) := by
  obtain ⟨hfr, hjl, hs, _⟩ := h.cur_ j q rfl
  have hjl' : j < l.length := by rw [← h.len]; exact hjl
  have hne0 : 0 < l.length := by omega
  have lvi : live (hp i) := by rw [hi]; trivial
  have hget : ∀ (a : Nat), j + 1 ≤ a → (List.replicate (j + 1) (.slice none 0 0) ++ ss.drop (j + 1))[a]? = ss[a]? := fun a ha => by
    rw [List.getElem?_append_right (by simpa using ha), List.length_replicate, List.getElem?_drop]
    congr 1
    omega
  have hget2 : ∀ (a : Nat) (u : Value), a < j + 1 → (List.replicate (j + 1) (Value.slice none 0 0) ++ ss.drop (j + 1))[a]? = some u → u = .slice none 0 0 := fun a u ha hu => by
    rw [List.getElem?_append_left (by simpa using ha)] at hu
    exact (List.mem_replicate.1 (List.mem_of_getElem? hu)).2
  have conv : ∀ (a : Nat) (u : Value) (b : Nat), (v :: (List.replicate (j + 1) (.slice none 0 0) ++ ss.drop (j + 1)))[a]? = some u → blk u = some b → (v :: hole (some (j, q)) ss)[a]? = some u := by
    intro a u b ha hu
    cases a with
    | zero => exact ha
    | succ a =>
      rw [List.getElem?_cons_succ] at ha ⊢
      by_cases haj : a < j + 1
      · rw [hget2 a u haj ha] at hu
        cases hu
      · rw [hget a (by omega)] at ha
        rw [hole_get (fun q' e => haj (by injection e with e; injection e with e1 _; omega))]
        exact ha
  have old : ∀ k, hp k ≠ .unused → Old (ρ k) (upd ρ i (.tuple (v :: (List.replicate (j + 1) (.slice none 0 0) ++ ss.drop (j + 1))).toArray) k) ∧ upd hp i (.tre o (some (j + 1)) e be t l none) k ≠ .unused := by
    intro k hk
    by_cases hki : k = i
    · subst hki
      rw [upd_same, upd_same]
      exact ⟨.inr ⟨⟨_, h.tup hne0⟩, ⟨_, rfl⟩, by rw [h.hd_]; rfl⟩, by simp⟩
    · rw [upd_ne _ _ hki, upd_ne _ _ hki]
      exact ⟨Old.refl _, hk⟩
  have cl : ∀ k b, live (upd hp i (.tre o (some (j + 1)) e be t l none) k) → At (upd ρ i (.tuple (v :: (List.replicate (j + 1) (.slice none 0 0) ++ ss.drop (j + 1))).toArray) k) b → live (hp k) ∧ At (ρ k) b := by
    intro k b hl hb
    by_cases hki : k = i
    · subst hki
      rw [upd_same] at hb
      obtain ⟨a, u, ha, hu⟩ := at_tuple.1 hb
      exact ⟨lvi, h.at_.2 ⟨a, u, conv a u b ha hu, hu⟩⟩
    · rw [upd_ne _ _ hki] at hl hb
      exact ⟨hl, hb⟩
  have nwl : ∀ b, b < w.heap.size → Lv (upd hp i (.tre o (some (j + 1)) e be t l none)) (upd ρ i (.tuple (v :: (List.replicate (j + 1) (.slice none 0 0) ++ ss.drop (j + 1))).toArray)) b → Lv hp ρ b := fun b _ ⟨k, hl, hb⟩ => ⟨k, cl k b hl hb⟩
  have hM : ∀ b, b < w.heap.size → Mut MX (upd hp i (.tre o (some (j + 1)) e be t l none)) (upd ρ i (.tuple (v :: (List.replicate (j + 1) (.slice none 0 0) ++ ss.drop (j + 1))).toArray)) b → Mut MX hp ρ b := fun b hb hm => hm.imp id (nwl b hb)
  refine Step.mk' (D := fun _ => False) H (Off.refl _ _) (fun _ _ hf => hf.elim) old nwl ?_ ?_ ?_ ?_
  · intro k
    by_cases hki : k = i
    · subst hki
      refine .inr ?_
      rw [upd_same]
      refine ⟨v, List.replicate (j + 1) (.slice none 0 0) ++ ss.drop (j + 1), us, xs, h.nest, h.osz, .inl (by rw [upd_same]; rfl), ?_, h.ulen, h.own, Els.imp (fun _ _ hk => KT_step (D := fun _ => False) (Off.refl _ _) (fun _ _ hf => hf.elim) hM t hk) h.els, fun a x u (hf : j + 1 ≤ a) hx hu _ => ?_, fun a s hf hs => hget2 a s hf hs, fun a s u (hf : j + 1 ≤ a) hs hu => ?_, ?_, ?_, fun a r hc => by cases hc⟩
      · rw [List.length_append, List.length_replicate, List.length_drop, ← h.len]
        omega
      · rw [hget a hf] at hu
        exact Inn_step (D := fun _ => False) (Off.refl _ _) (fun _ _ hf => hf.elim) hM (fun _ _ hf => hf) (h.inn a x u (by omega) hx hu (fun r e' => by injection e' with e'; injection e' with e1 _; omega))
      · rw [hget a hf] at hs
        exact h.vw a s u (by omega) hs hu
      · intro a c u u' b ha hc hu hu'
        exact h.dis a c u u' b (conv a u b ha hu) (conv c u' b hc hu') hu hu'
      · intro s hs
        rcases List.mem_append.1 hs with hs | hs
        · exact ⟨_, _, _, (List.mem_replicate.1 hs).2⟩
        · exact h.sl s (List.mem_of_mem_drop hs)
    · exact .inl ⟨upd_ne _ _ hki, upd_ne _ _ hki, fun _ _ _ hf => hf⟩
  · intro k k' b hl hl' hb hb'
    exact H.sep k k' b (cl k b hl hb).1 (cl k' b hl' hb').1 (cl k b hl hb).2 (cl k' b hl' hb').2
  · intro k b hl hb hm
    exact H.ext k b (cl k b hl hb).1 (cl k b hl hb).2 hm
  · intro k cs hk
    have hki : k ≠ i := fun e' => by rw [e', hi] at hk; cases hk
    exact .inl ⟨upd_ne _ _ hki, fun _ _ hf => hf⟩
end
end Go.Proofs.YtommgpkeicpokaaGreatDoor.Abs
