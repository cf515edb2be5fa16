/- The abstract heap and the machine's. -/
import Derived.Test.YtommgpkeicpokaaGreatDoorAbsRel
import Derived.Lib.ItoaNum
namespace Go.Proofs.YtommgpkeicpokaaGreatDoor.Abs
open Go Go.RowKit
set_option linter.unusedVariables false
set_option linter.unusedSectionVars false
set_option linter.unusedSimpArgs false

def live : HE → Prop
  | .box _ => True
  | .row _ _ _ => True
  | .mp _ _ => True
  | .bts _ => True
  | .bld _ _ => True
  | .tre _ _ _ _ _ _ _ => True
  | _ => False

def blk : Value → Option Nat
  | .pointer (some a) => some a.block
  | .slice (some a) _ _ => some a.block
  | .map (some b) => some b
  | _ => none

/-- The blocks of what stands at an entry: of a value, or of several. -/
def At : Value → Nat → Prop
  | .tuple a => fun b => ∃ x ∈ a.toList, blk x = some b
  | v => fun b => blk v = some b

theorem blk_own {v : Value} (h : ∃ a n c, v = .slice a n c) : At v = fun b => v.ownBlock = some b := by
  obtain ⟨a, n, c, rfl⟩ := h
  cases a <;> rfl

/-- The blocks of what is live. -/
def Lv (hp : Heap) (ρ : Nat → Value) (b : Nat) : Prop := ∃ i, live (hp i) ∧ At (ρ i) b
/-- What may be written, here or by those who called. -/
def Mut (MX : Nat → Prop) (hp : Heap) (ρ : Nat → Value) (b : Nat) : Prop := MX b ∨ Lv hp ρ b

/-- Tables of the program: blocks that nobody writes, and what is known of their cells. -/
def isTab (l : List Value) : Array Value → Prop := fun C => C = l.toArray
def someInt : Array Value → Prop := fun C => ∃ m, C[0]? = some (.int .i64 m)
def someErr : Array Value → Prop := fun C => ∃ ev, C[0]? = some ev ∧ (ev = .nilIface ∨ ∃ te pe, ev = .iface te pe)
def tabs : List (Nat × (Array Value → Prop)) := [(1, isTab (Go.Lib.pow10Tab.map fun z => Value.int .u64 z)), (0, someInt), (4, someErr), (5, someErr)]
def Tb (w : World) (L : Nat → Prop) : Prop := ∀ p ∈ tabs, (∃ C T f, w.heap[p.1]? = some (.cells C T f) ∧ p.2 C) ∧ ¬ L p.1

theorem Tb.next {D L L' : Nat → Prop} {w w' : World} (h : Tb w L) (off : Off D w w') (hD : ∀ b, b < w.heap.size → D b → L b) (nwl : ∀ b, b < w.heap.size → L' b → L b) : Tb w' L' := by
  intro p hp
  obtain ⟨⟨C, T, f, h1, hC⟩, h2⟩ := h p hp
  have hlt : p.1 < w.heap.size := (Array.getElem?_eq_some_iff.1 h1).1
  exact ⟨⟨C, T, f, (off.block p.1 hlt fun hd => h2 (hD _ hlt hd)).trans h1, hC⟩, fun hl => h2 (nwl _ hlt hl)⟩

/-- The cells of an element whose last cell is a slice. -/
def KT (M : Nat → Prop) (w : World) : (t : Ty) → t.den → Value → List Value → Prop
  | .sl _, _, s, cs => cs = [s]
  | .pair a b, x, s, cs => ∃ c0 c1, cs = c0 ++ c1 ∧ a.KR M w x.1 c0 ∧ KT M w b x.2 s c1
  | .int _, _, _, _ => False
  | .bool, _, _, _ => False
  | .str, _, _, _ => False
/-- The row to which that slice leads. -/
def Inn (M : Nat → Prop) (w : World) (be : TypeId) (t : Ty) (x : t.den) (s : Value) : Prop :=
  ∃ ys, w.ownsRow 0 be t.inn.sz s (t.get x).length ys ∧ Els (t.inn.KR M w) (t.get x) ys
/-- What of the slices is the entry's own: all but the one that was taken out. -/
def hole (cur : Option (Nat × Nat)) (ss : List Value) : List Value :=
  match cur with
  | none => ss
  | some (j, _) => ss.set j (.slice none 0 0)
def Dis (ss : List Value) : Prop := ∀ (j k : Nat) (s s' : Value) (b : Nat), ss[j]? = some s → ss[k]? = some s' → blk s = some b → blk s' = some b → j = k

/-- What an element's last cell holds of a row: the row; or its numbers from a place on. -/
def Vw (o : Nat) (s u : Value) : Prop := match o with
  | 0 => u = s
  | o + 1 => ∃ g n c c' A, s = .slice (some ⟨g, 0, none⟩) n c ∧ o + 1 ≤ n ∧ u = .slice (some A) (n - (o + 1)) c' ∧ (o + 1 < n → A = ⟨g, o + 1, none⟩) ∧ n - (o + 1) ≤ c'

structure TreOk (M : Nat → Prop) (w : World) (ρ : Nat → Value) (hp : Heap) (i : Nat) (o : Nat) (fr : Option Nat) (e be : TypeId) (t : Ty) (l : List t.den) (cur : Option (Nat × Nat)) (v : Value) (ss us xs : List Value) : Prop where
  nest : t.nest = true
  osz : o = 0 ∨ t.inn.sz = 1
  pl : ρ i = .tuple (v :: hole cur ss).toArray ∨ (l = [] ∧ cur = none ∧ v = .slice none 0 0 ∧ ρ i = .slice none 0 0)
  len : ss.length = l.length
  ulen : us.length = l.length
  own : w.ownsRow 0 e t.sz v l.length xs
  els : Els (fun (p : t.den × Value) cs => KT M w t p.1 p.2 cs) (l.zip us) xs
  inn : ∀ (j : Nat) (x : t.den) (s : Value), frN fr ≤ j → l[j]? = some x → ss[j]? = some s → (∀ q, cur ≠ some (j, q)) → Inn M w be t x s
  dead : ∀ (j : Nat) (s : Value), j < frN fr → ss[j]? = some s → s = .slice none 0 0
  vw : ∀ (j : Nat) (s u : Value), frN fr ≤ j → ss[j]? = some s → us[j]? = some u → Vw o s u
  dis : Dis (v :: hole cur ss)
  sl : ∀ s ∈ ss, ∃ A n c, s = .slice A n c
  cur_ : ∀ j q, cur = some (j, q) → frN fr ≤ j ∧ j < ss.length ∧ ss[j]? = some (ρ q) ∧ hp q ≠ .unused

def HEok (M : Nat → Prop) (w : World) (ρ : Nat → Value) (hp : Heap) (i : Nat) : HE → Prop
  | .unused => True
  | .gone => True
  | .box cs => ∃ g o C e vs, ρ i = .pointer (some ⟨g, o, none⟩) ∧ w.heap[g]? = some (.cells C e (0, 0)) ∧ Rs M w ρ hp cs vs ∧ ∀ (j : Nat) (v : Value), vs[j]? = some v → C[o + j]? = some v
  | .row e t l => ∃ xs, w.ownsRow 0 e t.sz (ρ i) l.length xs ∧ Els (t.KR M w) l xs
  | .frz t l => ∃ A c, ρ i = .slice A l.length c ∧ l.length ≤ c ∧ RowR M w (t.KR M w) t.sz A l
  | .mp t f => ∃ b, ρ i = .map (some b) ∧ MapI w b t.enc1 f
  | .bts l => ∃ g c, ρ i = .slice (some ⟨g, 0, none⟩) l.length c ∧ l.length ≤ c ∧ BRow w g l c
  | .bld T c => ∃ g p v, ρ i = .pointer (some ⟨g, 0, none⟩) ∧ w.heap[g]? = some (.cells #[p, v] T (0, 0)) ∧ (p = .pointer none ∨ p = .pointer (some ⟨g, 0, none⟩)) ∧ R M w ρ hp c v
  | .tre o fr e be t l cur => ∃ v ss us xs, TreOk M w ρ hp i o fr e be t l cur v ss us xs

structure HRel (MX : Nat → Prop) (w : World) (ρ : Nat → Value) (hp : Heap) : Prop where
  ok : ∀ i, HEok (Mut MX hp ρ) w ρ hp i (hp i)
  sep : ∀ i j b, live (hp i) → live (hp j) → At (ρ i) b → At (ρ j) b → i = j
  ext : ∀ i b, live (hp i) → At (ρ i) b → ¬ MX b
  mx : ∀ b, MX b → b < w.heap.size
  tb : Tb w (Lv hp ρ)

theorem own_kept {w w' : World} {e sz n : Nat} {v : Value} {xs : List Value} (h : w.ownsRow 0 e sz v n xs) (hb : ∀ b, At v b → b < w.heap.size → w'.heap[b]? = w.heap[b]?) : w'.ownsRow 0 e sz v n xs := by
  refine ⟨h.1, ?_⟩
  rcases h.2 with h2 | ⟨g, cap, cur, rfl, hg, hh, r⟩
  · exact .inl h2
  · exact .inr ⟨g, cap, cur, rfl, hg, (hb g rfl (Array.getElem?_eq_some_iff.1 hh).1).trans hh, r⟩

theorem KT_step {M M' D : Nat → Prop} {w w' : World} (off : Off D w w') (hD : ∀ b, b < w.heap.size → D b → M b) (hM : ∀ b, b < w.heap.size → M' b → M b) :
    (t : Ty) → {x : t.den} → {s : Value} → {cs : List Value} → KT M w t x s cs → KT M' w' t x s cs
  | .sl _, _, _, _, h => h
  | .pair a b, _, _, _, ⟨c0, c1, e, h0, h1⟩ => ⟨c0, c1, e, KR_step off hD hM a h0, KT_step off hD hM b h1⟩
  | .int _, _, _, _, h => h.elim
  | .bool, _, _, _, h => h.elim
  | .str, _, _, _, h => h.elim

theorem hole_len (cur : Option (Nat × Nat)) (ss : List Value) : (hole cur ss).length = ss.length := by
  unfold hole
  split
  · rfl
  · rw [List.length_set]

theorem hole_get {cur : Option (Nat × Nat)} {ss : List Value} {j : Nat} (h : ∀ q, cur ≠ some (j, q)) : (hole cur ss)[j]? = ss[j]? := by
  unfold hole
  split
  · rfl
  · rename_i j' q
    rw [List.getElem?_set_ne (fun e => h q (by rw [e]))]

theorem at_tuple {v : Value} {ss : List Value} {b : Nat} : At (.tuple (v :: ss).toArray) b ↔ ∃ (j : Nat) (s : Value), (v :: ss)[j]? = some s ∧ blk s = some b := by
  constructor
  · rintro ⟨x, hx, hb⟩
    obtain ⟨j, hj, rfl⟩ := List.mem_iff_getElem.1 hx
    exact ⟨j, _, List.getElem?_eq_getElem hj, hb⟩
  · rintro ⟨j, s, hj, hb⟩
    exact ⟨s, List.mem_of_getElem? hj, hb⟩

theorem TreOk.hd_ {M : Nat → Prop} {w : World} {ρ : Nat → Value} {hp : Heap} {i o : Nat} {fr : Option Nat} {e be : TypeId} {t : Ty} {l : List t.den} {cur : Option (Nat × Nat)} {v : Value} {ss us xs : List Value} (h : TreOk M w ρ hp i o fr e be t l cur v ss us xs) : hd (ρ i) = v := by
  rcases h.pl with e | ⟨_, _, e1, e2⟩
  · rw [e]; rfl
  · rw [e2, e1]; rfl
theorem TreOk.tup {M : Nat → Prop} {w : World} {ρ : Nat → Value} {hp : Heap} {i o : Nat} {fr : Option Nat} {e be : TypeId} {t : Ty} {l : List t.den} {cur : Option (Nat × Nat)} {v : Value} {ss us xs : List Value} (h : TreOk M w ρ hp i o fr e be t l cur v ss us xs) (hne : 0 < l.length) : ρ i = .tuple (v :: hole cur ss).toArray :=
  h.pl.resolve_right fun h => by rw [h.1] at hne; simp at hne
theorem TreOk.at_ {M : Nat → Prop} {w : World} {ρ : Nat → Value} {hp : Heap} {i o : Nat} {fr : Option Nat} {e be : TypeId} {t : Ty} {l : List t.den} {cur : Option (Nat × Nat)} {v : Value} {ss us xs : List Value} (h : TreOk M w ρ hp i o fr e be t l cur v ss us xs) {b : Nat} : At (ρ i) b ↔ ∃ (j : Nat) (s : Value), (v :: hole cur ss)[j]? = some s ∧ blk s = some b := by
  rcases h.pl with e | ⟨e0, e1, e2, e3⟩
  · rw [e]; exact at_tuple
  · have hs : ss = [] := List.eq_nil_of_length_eq_zero (by rw [h.len, e0]; rfl)
    rw [e3]
    subst e1 e2 hs
    constructor
    · intro hb; cases hb
    · rintro ⟨j, s, hj, hb⟩
      cases j with
      | zero => simp at hj; subst hj; cases hb
      | succ j => simp [hole] at hj

theorem at_own {w : World} {e sz n : Nat} {v : Value} {xs : List Value} (h : w.ownsRow 0 e sz v n xs) : At v = fun b => blk v = some b := by
  rcases h.2 with ⟨h2, _⟩ | ⟨g, cap, cur, h2, _⟩ <;> rw [h2] <;> rfl
theorem Inn_step {M M' D : Nat → Prop} {w w' : World} (off : Off D w w') (hD : ∀ b, b < w.heap.size → D b → M b) (hM : ∀ b, b < w.heap.size → M' b → M b) {be : TypeId} {t : Ty} {x : t.den} {s : Value} (hb : ∀ b, blk s = some b → ¬ D b) (h : Inn M w be t x s) : Inn M' w' be t x s := by
  obtain ⟨ys, h1, h2⟩ := h
  exact ⟨ys, own_kept h1 fun b hbs hlt => off.block b hlt (hb b (by rw [at_own h1] at hbs; exact hbs)), Els.imp (fun _ _ h => KR_step off hD hM t.inn h) h2⟩

theorem TreOk.step {M M' D : Nat → Prop} {w w' : World} {ρ ρ' : Nat → Value} {hp hp' : Heap} (off : Off D w w') (hD : ∀ b, b < w.heap.size → D b → M b) (hM : ∀ b, b < w.heap.size → M' b → M b)
    (hρ : ∀ i, hp i ≠ .unused → Old (ρ i) (ρ' i) ∧ hp' i ≠ .unused) {i o : Nat} {fr : Option Nat} {e be : TypeId} {t : Ty} {l : List t.den} {cur : Option (Nat × Nat)} {v : Value} {ss us xs : List Value} (hi : ρ' i = ρ i) (hd : ∀ b, At (ρ i) b → ¬ D b) (h : TreOk M w ρ hp i o fr e be t l cur v ss us xs) : TreOk M' w' ρ' hp' i o fr e be t l cur v ss us xs := by
  have hat : ∀ (j : Nat) (s : Value), (v :: hole cur ss)[j]? = some s → ∀ b, blk s = some b → ¬ D b := fun j s hj b hb => hd b (h.at_.2 ⟨j, s, hj, hb⟩)
  refine ⟨h.nest, h.osz, by rw [hi]; exact h.pl, h.len, h.ulen, own_kept h.own fun b hb hlt => off.block b hlt (hat 0 v rfl b (by rw [at_own h.own] at hb; exact hb)), Els.imp (fun _ _ hk => KT_step off hD hM t hk) h.els, fun j x s hf hx hs hc => ?_, h.dead, h.vw, h.dis, h.sl, fun j q hc => ?_⟩
  · refine Inn_step off hD hM (hat (j + 1) s ?_) (h.inn j x s hf hx hs hc)
    rw [List.getElem?_cons_succ, hole_get hc]
    exact hs
  · obtain ⟨h0, h1, h2, h3⟩ := h.cur_ j q hc
    obtain ⟨A, n, c, e'⟩ := h.sl _ (List.mem_of_getElem? h2)
    exact ⟨h0, h1, by rw [(hρ q h3).1.slice e', ← e']; exact h2, (hρ q h3).2⟩

theorem HEok_step {M M' D : Nat → Prop} {w w' : World} {ρ ρ' : Nat → Value} {hp hp' : Heap} (off : Off D w w') (hD : ∀ b, b < w.heap.size → D b → M b) (hM : ∀ b, b < w.heap.size → M' b → M b)
    (hρ : ∀ i, hp i ≠ .unused → Old (ρ i) (ρ' i) ∧ hp' i ≠ .unused) {i : Nat} {h : HE} (hi : ρ' i = ρ i) (hd : live h → ∀ b, At (ρ i) b → ¬ D b) (hk : HEok M w ρ hp i h) : HEok M' w' ρ' hp' i h := by
  cases h with
  | unused => trivial
  | gone => trivial
  | box cs =>
    obtain ⟨g, o, C, e, vs, h1, h2, h3, h4⟩ := hk
    have hlt : g < w.heap.size := (Array.getElem?_eq_some_iff.1 h2).1
    refine ⟨g, o, C, e, vs, by rw [hi]; exact h1, ?_, Rs_step off hD hM hρ cs h3, h4⟩
    rw [off.block g hlt (hd trivial g (by rw [h1]; rfl))]; exact h2
  | row e t l =>
    obtain ⟨xs, h1, h2⟩ := hk
    refine ⟨xs, ?_, Els.imp (fun _ _ h => KR_step off hD hM t h) h2⟩
    rw [hi]
    exact own_kept h1 fun b hb hlt => off.block b hlt (hd trivial b hb)
  | mp t f =>
    obtain ⟨b, h1, h2⟩ := hk
    exact ⟨b, by rw [hi]; exact h1, h2.kept (off.block b h2.lt (hd trivial b (by rw [h1]; rfl)))⟩
  | bld T c =>
    obtain ⟨g, p, v, h1, h2, h3, h4⟩ := hk
    have hlt : g < w.heap.size := (Array.getElem?_eq_some_iff.1 h2).1
    exact ⟨g, p, v, by rw [hi]; exact h1, (off.block g hlt (hd trivial g (by rw [h1]; rfl))).trans h2, h3, R_step off hD hM hρ c h4⟩
  | bts l =>
    obtain ⟨g, c, h1, h2, h3⟩ := hk
    exact ⟨g, c, by rw [hi]; exact h1, h2, h3.same (off.block g h3.lt (hd trivial g (by rw [h1]; rfl)))⟩
  | tre o fr e be t l cur =>
    obtain ⟨v, ss, us, xs, h⟩ := hk
    exact ⟨v, ss, us, xs, h.step off hD hM hρ hi (hd trivial)⟩
  | frz t l =>
    obtain ⟨A, c, h1, h2, h3⟩ := hk
    exact ⟨A, c, by rw [hi]; exact h1, h2, RowR_step t.sz_pos off hD hM (fun _ _ h => KR_step off hD hM t h) h3⟩

theorem hd_slice {v : Value} {A : Option Addr} {n c : Nat} (h : v = .slice A n c) : hd v = v := by rw [h]; rfl
theorem hd_v {v : Value} (h : ∃ A n c, v = .slice A n c) : hd v = v := by
  obtain ⟨A, n, c, rfl⟩ := h
  rfl
theorem hd_own {w : World} {e sz n : Nat} {v : Value} {xs : List Value} (h : w.ownsRow 0 e sz v n xs) : hd v = v := by
  rcases h.2 with ⟨h, _⟩ | ⟨g, cap, cur, h, _⟩ <;> rw [h] <;> rfl

theorem own_lt {w : World} {e sz n b : Nat} {v : Value} {xs : List Value} (h : w.ownsRow 0 e sz v n xs) (hb : blk v = some b) : b < w.heap.size := by
  rcases h.2 with ⟨h2, _⟩ | ⟨g, cap, cur, h2, _, hh, _⟩
  · rw [h2] at hb; cases hb
  · rw [h2] at hb
    have : g = b := by simpa [blk] using hb
    subst this
    exact (Array.getElem?_eq_some_iff.1 hh).1
theorem TreOk.lt {M : Nat → Prop} {w : World} {ρ : Nat → Value} {hp : Heap} {i o : Nat} {fr : Option Nat} {e be : TypeId} {t : Ty} {l : List t.den} {cur : Option (Nat × Nat)} {v : Value} {ss us xs : List Value} (h : TreOk M w ρ hp i o fr e be t l cur v ss us xs) {b : Nat} (hb : At (ρ i) b) : b < w.heap.size := by
  obtain ⟨j, s, hj, hbs⟩ := h.at_.1 hb
  cases j with
  | zero =>
    have : v = s := by simpa using hj
    subst this
    exact own_lt h.own hbs
  | succ j =>
    rw [List.getElem?_cons_succ] at hj
    by_cases hc : ∃ q, cur = some (j, q)
    · obtain ⟨q, rfl⟩ := hc
      have hlt := (h.cur_ j q rfl).2.1
      unfold hole at hj
      rw [List.getElem?_set_self hlt] at hj
      injection hj with hj
      subst hj
      cases hbs
    · have hc' : ∀ q, cur ≠ some (j, q) := fun q e => hc ⟨q, e⟩
      rw [hole_get hc'] at hj
      have hjl : j < l.length := by
        have := (List.getElem?_eq_some_iff.1 hj).1
        rw [h.len] at this
        exact this
      by_cases hf : frN fr ≤ j
      · obtain ⟨ys, h1, _⟩ := h.inn j _ s hf (List.getElem?_eq_getElem hjl) hj hc'
        exact own_lt h1 hbs
      · rw [h.dead j s (by omega) hj] at hbs
        cases hbs
/-- Of the block at p nothing has changed but the n cells from p on. -/
def Inside (w w' : World) (p : Value) (n : Nat) : Prop :=
  ∀ g o, p = .pointer (some ⟨g, o, none⟩) → ∃ C C' e, w.heap[g]? = some (.cells C e (0, 0)) ∧ w'.heap[g]? = some (.cells C' e (0, 0)) ∧ C'.size = C.size ∧ ∀ j : Nat, (j < o ∨ o + n ≤ j) → C'[j]? = C[j]?

theorem Inside.trans {w w1 w2 : World} {p : Value} {n : Nat} (h : Inside w w1 p n) (g : Inside w1 w2 p n) : Inside w w2 p n := by
  intro b o e
  obtain ⟨C, C1, e1, h1, h2, h3, h4⟩ := h b o e
  obtain ⟨C1', C2, e2, g1, g2, g3, g4⟩ := g b o e
  rw [h2] at g1
  injection g1 with g1
  injection g1 with ec ee
  subst ec ee
  exact ⟨C, C2, e1, h1, g2, g3.trans h3, fun j hj => (g4 j hj).trans (h4 j hj)⟩

theorem HEok.inside {M : Nat → Prop} {w w' : World} {ρ : Nat → Value} {hp : Heap} {i : Nat} {cs : List AV} (h : HEok M w ρ hp i (.box cs)) (hb : ∀ b, At (ρ i) b → b < w.heap.size → w'.heap[b]? = w.heap[b]?) (n : Nat) : Inside w w' (ρ i) n := by
  intro g o e
  obtain ⟨g', o', C, ty, vs, h1, h2, _⟩ := h
  rw [e] at h1
  injection h1 with h1
  injection h1 with h1
  injection h1 with e1 e2
  subst e1 e2
  exact ⟨C, C, ty, h2, (hb g (by rw [e]; rfl) (Array.getElem?_eq_some_iff.1 h2).1).trans h2, rfl, fun _ _ => rfl⟩

/-- From one state to a later one. -/
structure Step (MX : Nat → Prop) (w : World) (ρ : Nat → Value) (hp : Heap) (w' : World) (ρ' : Nat → Value) (hp' : Heap) : Prop where
  rel : HRel MX w' ρ' hp'
  off : Off (Lv hp ρ) w w'
  old : ∀ i, hp i ≠ .unused → Old (ρ i) (ρ' i) ∧ hp' i ≠ .unused
  nwl : ∀ b, b < w.heap.size → Lv hp' ρ' b → Lv hp ρ b
  bx : ∀ i cs, hp i = .box cs → ∃ cs', hp' i = .box cs' ∧ cs'.length = cs.length ∧ Inside w w' (ρ i) cs.length

theorem Step.refl {MX : Nat → Prop} {w : World} {ρ : Nat → Value} {hp : Heap} (h : HRel MX w ρ hp) : Step MX w ρ hp w ρ hp :=
  ⟨h, Off.refl _ _, fun _ hu => ⟨Old.refl _, hu⟩, fun _ _ h => h, fun i cs hi => ⟨cs, hi, rfl, HEok.inside (hi ▸ h.ok i) (fun _ _ _ => rfl) _⟩⟩

theorem Step.trans {MX : Nat → Prop} {w w1 w2 : World} {ρ ρ1 ρ2 : Nat → Value} {hp hp1 hp2 : Heap} (h : Step MX w ρ hp w1 ρ1 hp1) (g : Step MX w1 ρ1 hp1 w2 ρ2 hp2) : Step MX w ρ hp w2 ρ2 hp2 :=
  ⟨g.rel, h.off.trans g.off h.nwl, fun i hu => ⟨(h.old i hu).1.trans (g.old i (h.old i hu).2).1, (g.old i (h.old i hu).2).2⟩,
    fun b hb hl => h.nwl b hb (g.nwl b (Nat.lt_of_lt_of_le hb h.off.size) hl), fun i cs hi => by
      obtain ⟨c1, h1, h2, h3⟩ := h.bx i cs hi
      obtain ⟨c2, g1, g2, g3⟩ := g.bx i c1 h1
      refine ⟨c2, g1, g2.trans h2, ?_⟩
      rcases (h.old i (by rw [hi]; simp)).1 with e | ⟨⟨a, e⟩, _⟩
      · rw [e, h2] at g3
        exact h3.trans g3
      · exact fun g o e' => by rw [e] at e'; cases e'⟩

theorem Step.R {MX : Nat → Prop} {w w' : World} {ρ ρ' : Nat → Value} {hp hp' : Heap} (h : Step MX w ρ hp w' ρ' hp') {a : AV} {y : Value} (hr : R (Mut MX hp ρ) w ρ hp a y) : R (Mut MX hp' ρ') w' ρ' hp' a y :=
  R_step h.off (fun _ _ hd => .inr hd) (fun b hb hm => hm.imp id (h.nwl b hb)) h.old a hr

theorem Step.Rs {MX : Nat → Prop} {w w' : World} {ρ ρ' : Nat → Value} {hp hp' : Heap} (h : Step MX w ρ hp w' ρ' hp') {as : List AV} {ys : List Value} (hr : Rs (Mut MX hp ρ) w ρ hp as ys) : Rs (Mut MX hp' ρ') w' ρ' hp' as ys :=
  Rs_step h.off (fun _ _ hd => .inr hd) (fun b hb hm => hm.imp id (h.nwl b hb)) h.old as hr

/-- How a step is made: what was written (D) belongs to entries that are told anew. -/
theorem Step.mk' {MX : Nat → Prop} {w w' : World} {ρ ρ' : Nat → Value} {hp hp' : Heap} {D : Nat → Prop} (H : HRel MX w ρ hp) (off : Off D w w') (hD : ∀ b, b < w.heap.size → D b → Lv hp ρ b)
    (old : ∀ i, hp i ≠ .unused → Old (ρ i) (ρ' i) ∧ hp' i ≠ .unused) (nwl : ∀ b, b < w.heap.size → Lv hp' ρ' b → Lv hp ρ b)
    (ent : ∀ i, (hp' i = hp i ∧ ρ' i = ρ i ∧ (live (hp i) → ∀ b, At (ρ i) b → ¬ D b)) ∨ HEok (Mut MX hp' ρ') w' ρ' hp' i (hp' i))
    (sep : ∀ i j b, live (hp' i) → live (hp' j) → At (ρ' i) b → At (ρ' j) b → i = j)
    (ext : ∀ i b, live (hp' i) → At (ρ' i) b → ¬ MX b)
    (bx : ∀ i cs, hp i = .box cs → (hp' i = hp i ∧ ∀ b, At (ρ i) b → ¬ D b) ∨ ∃ cs', hp' i = .box cs' ∧ cs'.length = cs.length ∧ Inside w w' (ρ i) cs.length) : Step MX w ρ hp w' ρ' hp' := by
  refine ⟨⟨fun i => ?_, sep, ext, fun b hb => Nat.lt_of_lt_of_le (H.mx b hb) off.size, H.tb.next off hD nwl⟩, off.mono hD, old, nwl, fun i cs hi => ?_⟩
  case refine_2 =>
    rcases bx i cs hi with ⟨h1, h2⟩ | h
    · exact ⟨cs, h1.trans hi, rfl, HEok.inside (hi ▸ H.ok i) (fun b hb hlt => off.block b hlt (h2 b hb)) _⟩
    · exact h
  rcases ent i with ⟨e, ei, hd⟩ | h
  · rw [e]
    exact HEok_step off (fun b hb hd => .inr (hD b hb hd)) (fun b hb hm => hm.imp id (nwl b hb)) old ei hd (H.ok i)
  · exact h

theorem upd_same {β : Type} (f : Nat → β) (i : Nat) (x : β) : upd f i x i = x := by simp [upd]
theorem upd_ne {β : Type} (f : Nat → β) {i j : Nat} (x : β) (h : j ≠ i) : upd f i x j = f j := by
  unfold upd
  cases hb : Nat.beq j i with
  | true => exact absurd (Nat.eq_of_beq_eq_true hb) h
  | false => rfl
theorem upd_self {β : Type} (f : Nat → β) (i : Nat) : upd f i (f i) = f := by
  funext j
  by_cases h : j = i
  · subst h; exact upd_same _ _ _
  · exact upd_ne _ _ h

/-- A draw. -/
theorem Step.drew {MX : Nat → Prop} {w : World} {ρ : Nat → Value} {hp : Heap} (H : HRel MX w ρ hp) : Step MX w ρ hp w.drew ρ hp :=
  Step.mk' (D := fun _ => False) H (Off.drew _ _) (fun _ _ h => h.elim) (fun _ hu => ⟨Old.refl _, hu⟩) (fun _ _ h => h) (fun _ => .inl ⟨rfl, rfl, fun _ _ _ h => h⟩) H.sep H.ext (fun _ _ _ => .inl ⟨rfl, fun _ _ h => h⟩)

/-- A new block, and an entry for it. -/
theorem Step.alloc' {MX : Nat → Prop} {w : World} {ρ : Nat → Value} {hp : Heap} (H : HRel MX w ρ hp) {i : Nat} (hu : hp i = .unused) {o : Obj} {h : HE} {v : Value} (hb : At v = fun b => (some w.heap.size : Option Nat) = some b)
    (ok : ∀ (M : Nat → Prop) (ρ' : Nat → Value) (hp' : Heap), (∀ j, hp j ≠ .unused → Old (ρ j) (ρ' j) ∧ hp' j ≠ .unused) → ρ' i = v → hp' i = h → (∀ b, b < w.heap.size → M b → Mut MX hp ρ b) → HEok M (w.alloc o) ρ' hp' i h) :
    Step MX w ρ hp (w.alloc o) (upd ρ i v) (upd hp i h) := by
  have old : ∀ j, hp j ≠ .unused → Old (ρ j) (upd ρ i v j) ∧ upd hp i h j ≠ .unused := by
    intro j hj
    have hne : j ≠ i := fun e => hj (e ▸ hu)
    rw [upd_ne _ _ hne, upd_ne _ _ hne]
    exact ⟨Old.refl _, hj⟩
  have lvi : ∀ j b, live (upd hp i h j) → At (upd ρ i v j) b → (j = i ∧ b = w.heap.size) ∨ (j ≠ i ∧ live (hp j) ∧ At (ρ j) b) := by
    intro j b hl hb'
    by_cases hji : j = i
    · subst hji; rw [upd_same, hb] at hb'; exact .inl ⟨rfl, by injection hb' with e; exact e.symm⟩
    · rw [upd_ne _ _ hji] at hl hb'; exact .inr ⟨hji, hl, hb'⟩
  have ltl : ∀ j b, live (hp j) → At (ρ j) b → b < w.heap.size := by
    intro j b hl hbj
    have := H.ok j
    cases hj : hp j with
    | unused => rw [hj] at hl; exact hl.elim
    | gone => rw [hj] at hl; exact hl.elim
    | frz t l => rw [hj] at hl; exact hl.elim
    | mp t f =>
      rw [hj] at this
      obtain ⟨b', h1, h2⟩ := this
      rw [h1] at hbj
      have : b' = b := by simpa [At, blk] using hbj
      subst this
      exact h2.lt
    | bld T c =>
      rw [hj] at this
      obtain ⟨g, p, v, h1, h2, _⟩ := this
      rw [h1] at hbj
      have : g = b := by simpa [At, blk] using hbj
      subst this
      exact (Array.getElem?_eq_some_iff.1 h2).1
    | bts l =>
      rw [hj] at this
      obtain ⟨g, c, h1, _, h2⟩ := this
      rw [h1] at hbj
      have : g = b := by simpa [At, blk] using hbj
      subst this
      exact h2.lt
    | box cs =>
      rw [hj] at this
      obtain ⟨g, o', C, e, vs, h1, h2, _⟩ := this
      rw [h1] at hbj
      have : g = b := by simpa [At, blk] using hbj
      subst this
      exact (Array.getElem?_eq_some_iff.1 h2).1
    | tre o fr e be t l cur =>
      rw [hj] at this
      obtain ⟨v, ss, us, xs, h⟩ := this
      exact h.lt hbj
    | row e t l =>
      rw [hj] at this
      obtain ⟨xs, h1, _⟩ := this
      rcases h1.2 with ⟨h2, _⟩ | ⟨g, cap, cur, h2, _, hh, _⟩
      · rw [h2] at hbj; simp [At, blk] at hbj
      · rw [h2] at hbj
        have : g = b := by simpa [At, blk] using hbj
        subst this
        exact (Array.getElem?_eq_some_iff.1 hh).1
  refine Step.mk' (D := fun _ => False) H (Off.alloc _ _ _) (fun _ _ hf => hf.elim) old ?_ ?_ ?_ ?_ (fun j cs hj => .inl ⟨upd_ne _ _ (fun e => by rw [e, hu] at hj; cases hj), fun _ _ h => h⟩)
  · rintro b hlt ⟨j, hl, hbj⟩
    rcases lvi j b hl hbj with ⟨_, e⟩ | ⟨_, hl', hb'⟩
    · omega
    · exact ⟨j, hl', hb'⟩
  · intro j
    by_cases hji : j = i
    · subst hji
      refine .inr ?_
      rw [upd_same]
      refine ok _ _ _ old (upd_same _ _ _) (upd_same _ _ _) ?_
      rintro b hlt (hm | ⟨j', hl, hbj⟩)
      · exact .inl hm
      · rcases lvi j' b hl hbj with ⟨_, e⟩ | ⟨_, hl', hb'⟩
        · omega
        · exact .inr ⟨j', hl', hb'⟩
    · exact .inl ⟨upd_ne _ _ hji, upd_ne _ _ hji, fun _ _ _ hf => hf⟩
  · intro j j' b hl hl' hbj hbj'
    rcases lvi j b hl hbj with ⟨rfl, e⟩ | ⟨_, hl1, hb1⟩ <;> rcases lvi j' b hl' hbj' with ⟨rfl, e'⟩ | ⟨_, hl2, hb2⟩
    · rfl
    · have := ltl j' b hl2 hb2; omega
    · have := ltl j b hl1 hb1; omega
    · exact H.sep j j' b hl1 hl2 hb1 hb2
  · intro j b hl hbj hmx
    rcases lvi j b hl hbj with ⟨_, e⟩ | ⟨_, hl', hb'⟩
    · have := H.mx b hmx; omega
    · exact H.ext j b hl' hb' hmx

theorem Step.alloc {MX : Nat → Prop} {w : World} {ρ : Nat → Value} {hp : Heap} (H : HRel MX w ρ hp) {i : Nat} (hu : hp i = .unused) {o : Obj} {h : HE} {v : Value} (hb : At v = fun b => (some w.heap.size : Option Nat) = some b)
    (ok : ∀ (M : Nat → Prop) (ρ' : Nat → Value) (hp' : Heap), (∀ j, hp j ≠ .unused → Old (ρ j) (ρ' j) ∧ hp' j ≠ .unused) → ρ' i = v → (∀ b, b < w.heap.size → M b → Mut MX hp ρ b) → HEok M (w.alloc o) ρ' hp' i h) :
    Step MX w ρ hp (w.alloc o) (upd ρ i v) (upd hp i h) :=
  Step.alloc' H hu hb fun M ρ' hp' a b _ c => ok M ρ' hp' a b c

/-- An entry told anew, in the block that was its own (or nothing of it is live any more). -/
theorem Step.write {MX : Nat → Prop} {w w' : World} {ρ : Nat → Value} {hp : Heap} (H : HRel MX w ρ hp) {i : Nat} {h : HE} (hl : live h → live (hp i)) (hnu : h ≠ .unused) (hbx : ∀ cs, hp i = .box cs → ∃ cs', h = .box cs' ∧ cs'.length = cs.length ∧ Inside w w' (ρ i) cs.length) (off : Off (fun b => live (hp i) ∧ At (ρ i) b) w w')
    (ok : ∀ (hp' : Heap), (∀ j, hp j ≠ .unused → Old (ρ j) (ρ j) ∧ hp' j ≠ .unused) → ∀ M : Nat → Prop, (∀ b, b < w.heap.size → M b → Mut MX hp ρ b) → (live h → M = Mut MX hp ρ) → (¬ live h → ∀ b, M b → ¬ (live (hp i) ∧ At (ρ i) b)) → HEok M w' ρ hp' i h) :
    Step MX w ρ hp w' ρ (upd hp i h) := by
  have old : ∀ j, hp j ≠ .unused → Old (ρ j) (ρ j) ∧ upd hp i h j ≠ .unused := by
    intro j hj
    by_cases hji : j = i
    · subst hji; rw [upd_same]; exact ⟨Old.refl _, hnu⟩
    · rw [upd_ne _ _ hji]; exact ⟨Old.refl _, hj⟩
  have lvi : ∀ j, live (upd hp i h j) → live (hp j) := by
    intro j hj
    by_cases hji : j = i
    · subst hji; rw [upd_same] at hj; exact hl hj
    · rwa [upd_ne _ _ hji] at hj
  have nwl : ∀ b, Lv (upd hp i h) ρ b → Lv hp ρ b := fun b ⟨j, hj, hb⟩ => ⟨j, lvi j hj, hb⟩
  refine Step.mk' H off (fun b _ hb => ⟨i, hb⟩) old (fun b _ => nwl b) ?_ ?_ ?_ ?_
  case refine_4 =>
    intro j cs hj
    by_cases hji : j = i
    · subst hji
      right
      rw [upd_same]
      exact hbx cs hj
    · exact .inl ⟨upd_ne _ _ hji, fun b hbj ⟨h1, h2⟩ => hji (H.sep j i b (by rw [hj]; trivial) h1 hbj h2)⟩
  · intro j
    by_cases hji : j = i
    · subst hji
      refine .inr ?_
      rw [upd_same]
      refine ok _ old _ (fun b _ hm => hm.imp id (nwl b)) ?_ ?_
      · intro hlive
        funext b
        refine propext ⟨fun hm => hm.imp id (nwl b), fun hm => hm.imp id ?_⟩
        rintro ⟨j', hj', hb'⟩
        refine ⟨j', ?_, hb'⟩
        by_cases e : j' = j
        · subst e; rw [upd_same]; exact hlive
        · rw [upd_ne _ _ e]; exact hj'
      · rintro hnl b (hm | ⟨j', hj', hb'⟩) ⟨h1, h2⟩
        · exact H.ext j b h1 h2 hm
        · have := H.sep j' j b (lvi j' hj') h1 hb' h2
          subst this
          rw [upd_same] at hj'
          exact hnl hj'
    · refine .inl ⟨upd_ne _ _ hji, rfl, fun hlj b hbj ⟨h1, h2⟩ => hji (H.sep j i b hlj h1 hbj h2)⟩
  · intro j j' b h1 h2 h3 h4
    exact H.sep j j' b (lvi j h1) (lvi j' h2) h3 h4
  · intro j b h1 h2
    exact H.ext j b (lvi j h1) h2

theorem HRel.lt {MX : Nat → Prop} {w : World} {ρ : Nat → Value} {hp : Heap} (H : HRel MX w ρ hp) {j b : Nat} (hl : live (hp j)) (hbj : At (ρ j) b) : b < w.heap.size := by
  have := H.ok j
  cases hj : hp j with
  | unused => rw [hj] at hl; exact hl.elim
  | gone => rw [hj] at hl; exact hl.elim
  | frz t l => rw [hj] at hl; exact hl.elim
  | mp t f =>
    rw [hj] at this
    obtain ⟨b', h1, h2⟩ := this
    rw [h1] at hbj
    have : b' = b := by simpa [At, blk] using hbj
    subst this
    exact h2.lt
  | bld T c =>
    rw [hj] at this
    obtain ⟨g, p, v, h1, h2, _⟩ := this
    rw [h1] at hbj
    have : g = b := by simpa [At, blk] using hbj
    subst this
    exact (Array.getElem?_eq_some_iff.1 h2).1
  | bts l =>
    rw [hj] at this
    obtain ⟨g, c, h1, _, h2⟩ := this
    rw [h1] at hbj
    have : g = b := by simpa [At, blk] using hbj
    subst this
    exact h2.lt
  | box cs =>
    rw [hj] at this
    obtain ⟨g, o', C, e, vs, h1, h2, _⟩ := this
    rw [h1] at hbj
    have : g = b := by simpa [At, blk] using hbj
    subst this
    exact (Array.getElem?_eq_some_iff.1 h2).1
  | tre o fr e be t l cur =>
    rw [hj] at this
    obtain ⟨v, ss, us, xs, h⟩ := this
    exact h.lt hbj
  | row e t l =>
    rw [hj] at this
    obtain ⟨xs, h1, _⟩ := this
    rcases h1.2 with ⟨h2, _⟩ | ⟨g, cap, cur, h2, _, hh, _⟩
    · rw [h2] at hbj; simp [At, blk] at hbj
    · rw [h2] at hbj
      have : g = b := by simpa [At, blk] using hbj
      subst this
      exact (Array.getElem?_eq_some_iff.1 hh).1

/-- A row that is one's own reads as its elements. -/
theorem own_reads {M : Nat → Prop} {w : World} {e : TypeId} {t : Ty} {v : Value} {l : List t.den} {xs : List Value} (h : w.ownsRow 0 e t.sz v l.length xs) (he : Els (t.KR M w) l xs) :
    ∃ A c, v = .slice A l.length c ∧ l.length ≤ c ∧ ∀ M' : Nat → Prop, (∀ b, b < w.heap.size → M' b → M b ∧ ¬ At v b) → RowR M' w (t.KR M' w) t.sz A l := by
  rcases h.2 with ⟨rfl, hn⟩ | ⟨g, cap, cur, rfl, _, hh, hle, _, hcs, htake⟩
  · refine ⟨none, 0, by rw [hn], by omega, fun M' _ i x hx => ?_⟩
    have : l = [] := List.eq_nil_of_length_eq_zero hn
    subst this
    simp at hx
  · refine ⟨_, cap, rfl, hle, fun M' hM i x hx => ?_⟩
    have hlt : g < w.heap.size := (Array.getElem?_eq_some_iff.1 hh).1
    obtain ⟨cs, h1, h2, h3⟩ := Els.get (fun _ _ hk => KR_len t hk) he i x hx
    refine ⟨g, 0, cs, rfl, fun hm => (hM g hlt hm).2 rfl, h2, KR_step (Off.refl (fun _ => False) w) (fun _ _ hf => hf.elim) (fun b hb hm => (hM b hb hm).1) t h1, fun j u hu => ?_⟩
    have hj : j < t.sz := by
      have := (List.getElem?_eq_some_iff.1 hu).1
      omega
    have hxs := h3 j hj
    rw [hu, ← htake, List.getElem?_take] at hxs
    split at hxs
    · simp only [Nat.zero_add]
      rw [cell_of_row w g _ cur e (0, 0) hh]
      simpa using hxs
    · cases hxs

/-- A row is written no more: it reads as it did. -/
theorem Step.freeze {MX : Nat → Prop} {w : World} {ρ : Nat → Value} {hp : Heap} (H : HRel MX w ρ hp) {i : Nat} {e : TypeId} {t : Ty} {l : List t.den} (hi : hp i = .row e t l) :
    Step MX w ρ hp w ρ (upd hp i (.frz t l)) := by
  refine Step.write H (fun h => h.elim) (by simp) (fun cs h => by rw [hi] at h; cases h) (Off.refl _ _) ?_
  intro hp' _ M hM _ hno
  have hok := H.ok i
  rw [hi] at hok
  obtain ⟨xs, h1, h2⟩ := hok
  obtain ⟨A, c, hv, hle, hr⟩ := own_reads h1 h2
  exact ⟨A, c, hv, hle, hr M fun b hb hm => ⟨hM b hb hm, fun hbe => hno (fun h => h) b hm ⟨by rw [hi]; trivial, hbe⟩⟩⟩

end Go.Proofs.YtommgpkeicpokaaGreatDoor.Abs
