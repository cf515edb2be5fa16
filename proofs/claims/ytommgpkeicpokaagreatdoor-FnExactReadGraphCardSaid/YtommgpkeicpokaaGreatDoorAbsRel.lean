/- How abstract values stand to the machine's: the relation, and what keeps it. -/
import Derived.Test.YtommgpkeicpokaaGreatDoorAbsRun
import Derived.Test.YtommgpkeicpokaaGreatDoorAbsMap
namespace Go.Proofs.YtommgpkeicpokaaGreatDoor.Abs
open Go Go.RowKit
set_option linter.unusedVariables false
set_option linter.unusedSectionVars false
set_option linter.unusedSimpArgs false

/-- w' is w but for blocks of M and new ones. -/
structure Off (M : Nat → Prop) (w w' : World) : Prop where
  os : w'.os = w.os
  tape : w'.tape = w.tape
  output : w'.output = w.output
  size : w.heap.size ≤ w'.heap.size
  block : ∀ b, b < w.heap.size → ¬ M b → w'.heap[b]? = w.heap[b]?

theorem Off.refl (M : Nat → Prop) (w : World) : Off M w w := ⟨rfl, rfl, rfl, Nat.le_refl _, fun _ _ _ => rfl⟩

theorem Off.trans {M N : Nat → Prop} {a b c : World} (h : Off M a b) (g : Off N b c) (hN : ∀ x, x < a.heap.size → N x → M x) : Off M a c :=
  ⟨g.os.trans h.os, g.tape.trans h.tape, g.output.trans h.output, Nat.le_trans h.size g.size,
    fun x hx hm => (g.block x (Nat.lt_of_lt_of_le hx h.size) (fun hn => hm (hN x hx hn))).trans (h.block x hx hm)⟩

theorem Off.mono {M N : Nat → Prop} {a b : World} (h : Off M a b) (hN : ∀ x, x < a.heap.size → M x → N x) : Off N a b :=
  ⟨h.os, h.tape, h.output, h.size, fun x hx hn => h.block x hx (fun hm => hn (hN x hx hm))⟩

theorem Off.drew (M : Nat → Prop) (w : World) : Off M w w.drew := ⟨rfl, rfl, rfl, Nat.le_refl _, fun _ _ _ => rfl⟩
theorem Off.alloc (M : Nat → Prop) (w : World) (o : Obj) : Off M w (w.alloc o) := ⟨rfl, rfl, rfl, by simp, fun b hb _ => Below.heap_alloc w o b hb⟩
theorem Off.grown {w w' : World} {row : Option Nat} (h : w.grownBy w' row) : Off (fun b => row = some b) w w' :=
  ⟨h.os, h.tape, h.output, h.size, fun b hb hm => h.block b hb (fun e => hm e.symm)⟩
theorem Off.below {w w' : World} (h : Below w.heap.size w w') (M : Nat → Prop) : Off M w w' := ⟨h.os, h.tape, h.output, h.size, fun b hb _ => h.block b hb⟩
theorem Off.toBelow {M : Nat → Prop} {w w' : World} (h : Off M w w') (hM : ∀ b, b < w.heap.size → ¬ M b) : Below w.heap.size w w' :=
  ⟨h.os, h.tape, h.output, h.size, fun b hb => h.block b hb (hM b hb)⟩
theorem Off.cell {M : Nat → Prop} {w w' : World} (h : Off M w w') {b o : Nat} {u : Value} (hb : ¬ M b) (hc : w.cell? ⟨b, o, none⟩ = some u) : w'.cell? ⟨b, o, none⟩ = some u := by
  have hlt : b < w.heap.size := World.block_lt_of_cell? (a := ⟨b, o, none⟩) w hc
  rw [World.cell?_of_block (w := w) (w' := w') (a := ⟨b, o, none⟩) (h.block b hlt hb)]
  exact hc

/-! ### Elements -/
def RowR {α : Type} (M : Nat → Prop) (w : World) (K : α → List Value → Prop) (sz : Nat) (A : Option Addr) (l : List α) : Prop :=
  ∀ i x, l[i]? = some x → ∃ b o cs, A = some ⟨b, o, none⟩ ∧ ¬ M b ∧ cs.length = sz ∧ K x cs ∧ ∀ j u, cs[j]? = some u → w.cell? ⟨b, o + (i * sz + j), none⟩ = some u

def Ty.KR (M : Nat → Prop) (w : World) : (t : Ty) → t.den → List Value → Prop
  | .int k, x, cs => cs = [.int k x]
  | .bool, x, cs => cs = [.bool x]
  | .str, x, cs => cs = [.string x]
  | .sl t, l, cs => ∃ A c, cs = [.slice A l.length c] ∧ l.length ≤ c ∧ RowR M w (t.KR M w) t.sz A l
  | .pair a b, x, cs => ∃ c0 c1, cs = c0 ++ c1 ∧ a.KR M w x.1 c0 ∧ b.KR M w x.2 c1

theorem Ty.sz_pos : (t : Ty) → 0 < t.sz
  | .int _ => Nat.one_pos
  | .bool => Nat.one_pos
  | .str => Nat.one_pos
  | .sl _ => Nat.one_pos
  | .pair a b => Nat.lt_of_lt_of_le a.sz_pos (Nat.le_add_right _ _)

theorem KR_len {M : Nat → Prop} {w : World} : (t : Ty) → {x : t.den} → {cs : List Value} → t.KR M w x cs → cs.length = t.sz
  | .int _, _, _, h => by subst h; rfl
  | .bool, _, _, h => by subst h; rfl
  | .str, _, _, h => by subst h; rfl
  | .sl _, _, _, h => by obtain ⟨A, c, rfl, _⟩ := h; rfl
  | .pair a b, _, _, h => by
    obtain ⟨c0, c1, rfl, h0, h1⟩ := h
    rw [List.length_append, KR_len a h0, KR_len b h1]; rfl

theorem KR_one {M : Nat → Prop} {w : World} : (t : Ty) → {x : t.den} → {cs : List Value} → t.KR M w x cs → ∀ u ∈ cs, u.oneCell' = true
  | .int _, _, _, h, u, hu => by subst h; rw [List.mem_singleton.1 hu]; rfl
  | .bool, _, _, h, u, hu => by subst h; rw [List.mem_singleton.1 hu]; rfl
  | .str, _, _, h, u, hu => by subst h; rw [List.mem_singleton.1 hu]; rfl
  | .sl _, _, _, h, u, hu => by obtain ⟨A, c, rfl, _⟩ := h; rw [List.mem_singleton.1 hu]; rfl
  | .pair a b, _, _, h, u, hu => by
    obtain ⟨c0, c1, rfl, h0, h1⟩ := h
    rcases List.mem_append.1 hu with hu | hu
    · exact KR_one a h0 u hu
    · exact KR_one b h1 u hu

theorem RowR_step {α : Type} {M M' D : Nat → Prop} {w w' : World} {K K' : α → List Value → Prop} {sz : Nat} {A : Option Addr} {l : List α} (hsz : 0 < sz)
    (off : Off D w w') (hD : ∀ b, b < w.heap.size → D b → M b) (hM : ∀ b, b < w.heap.size → M' b → M b) (hK : ∀ x cs, K x cs → K' x cs)
    (h : RowR M w K sz A l) : RowR M' w' K' sz A l := by
  intro i x hx
  obtain ⟨b, o, cs, hA, hb, hl, hk, hc⟩ := h i x hx
  have hlt : b < w.heap.size := by
    obtain ⟨u, hu⟩ : ∃ u, cs[0]? = some u := ⟨_, List.getElem?_eq_getElem (by omega)⟩
    exact World.block_lt_of_cell? (a := ⟨b, _, none⟩) w (hc 0 u hu)
  exact ⟨b, o, cs, hA, fun hm => hb (hM b hlt hm), hl, hK x cs hk, fun j u hu => off.cell (fun hd => hb (hD b hlt hd)) (hc j u hu)⟩

theorem KR_step {M M' D : Nat → Prop} {w w' : World} (off : Off D w w') (hD : ∀ b, b < w.heap.size → D b → M b) (hM : ∀ b, b < w.heap.size → M' b → M b) :
    (t : Ty) → {x : t.den} → {cs : List Value} → t.KR M w x cs → t.KR M' w' x cs
  | .int _, _, _, h => h
  | .bool, _, _, h => h
  | .str, _, _, h => h
  | .sl t, _, _, h => by
    obtain ⟨A, c, rfl, hl, hr⟩ := h
    exact ⟨A, c, rfl, hl, RowR_step t.sz_pos off hD hM (fun _ _ hk => KR_step off hD hM t hk) hr⟩
  | .pair a b, _, _, h => by
    obtain ⟨c0, c1, rfl, h0, h1⟩ := h
    exact ⟨c0, c1, rfl, KR_step off hD hM a h0, KR_step off hD hM b h1⟩

/-- The cells of the elements of a row, one behind the other. -/
def Els {α : Type} (K : α → List Value → Prop) : List α → List Value → Prop
  | [], xs => xs = []
  | x :: l, xs => ∃ c r, xs = c ++ r ∧ K x c ∧ Els K l r

theorem Els.imp {α : Type} {K K' : α → List Value → Prop} (hK : ∀ x cs, K x cs → K' x cs) : {l : List α} → {xs : List Value} → Els K l xs → Els K' l xs
  | [], _, h => h
  | _ :: _, _, ⟨c, r, e, hc, hr⟩ => ⟨c, r, e, hK _ _ hc, Els.imp hK hr⟩

theorem Els.append {α : Type} {K : α → List Value → Prop} : {l m : List α} → {xs ys : List Value} → Els K l xs → Els K m ys → Els K (l ++ m) (xs ++ ys)
  | [], _, _, _, h, g => by cases h; simpa using g
  | _ :: _, _, _, _, ⟨c, r, e, hc, hr⟩, g => ⟨c, r ++ _, by rw [e, List.append_assoc], hc, Els.append hr g⟩

theorem Els.len {α : Type} {K : α → List Value → Prop} {sz : Nat} (hK : ∀ x cs, K x cs → cs.length = sz) : {l : List α} → {xs : List Value} → Els K l xs → xs.length = l.length * sz
  | [], _, h => by cases h; simp
  | _ :: l, _, ⟨c, r, e, hc, hr⟩ => by
    have := Els.len hK hr
    rw [e, List.length_append, hK _ _ hc, this, List.length_cons, Nat.add_mul, Nat.one_mul, Nat.add_comm]

theorem Els.one {α : Type} {K : α → List Value → Prop} {sz : Nat} (hK : ∀ x cs, K x cs → ∀ u ∈ cs, u.oneCell' = true) : {l : List α} → {xs : List Value} → Els K l xs → ∀ u ∈ xs, u.oneCell' = true
  | [], _, h, u, hu => by cases h; cases hu
  | _ :: l, _, ⟨c, r, e, hc, hr⟩, u, hu => by
    rw [e] at hu
    rcases List.mem_append.1 hu with hu | hu
    · exact hK _ _ hc u hu
    · exact Els.one (sz := sz) hK hr u hu

/-- The element at a place, its cells within the row's. -/
theorem Els.get {α : Type} {K : α → List Value → Prop} {sz : Nat} (hK : ∀ x cs, K x cs → cs.length = sz) : {l : List α} → {xs : List Value} → Els K l xs → ∀ i x, l[i]? = some x →
    ∃ cs, K x cs ∧ cs.length = sz ∧ ∀ j, j < sz → xs[i * sz + j]? = cs[j]?
  | [], _, _, i, x, hx => by simp at hx
  | y :: l, _, ⟨c, r, e, hc, hr⟩, 0, x, hx => by
    have : y = x := by simpa using hx
    subst this
    refine ⟨c, hc, hK _ _ hc, fun j hj => ?_⟩
    rw [e, Nat.zero_mul, Nat.zero_add, List.getElem?_append_left (by rw [hK _ _ hc]; exact hj)]
  | y :: l, _, ⟨c, r, e, hc, hr⟩, i + 1, x, hx => by
    obtain ⟨cs, h1, h2, h3⟩ := Els.get hK hr i x (by simpa using hx)
    refine ⟨cs, h1, h2, fun j hj => ?_⟩
    rw [e, List.getElem?_append_right (by rw [hK _ _ hc, Nat.add_mul, Nat.one_mul]; omega), hK _ _ hc, ← h3 j hj]
    congr 1
    rw [Nat.add_mul, Nat.one_mul]; omega

/-- An element replaced. -/
theorem Els.set {α : Type} {K : α → List Value → Prop} {sz : Nat} (hK : ∀ x cs, K x cs → cs.length = sz) : {l : List α} → {xs : List Value} → Els K l xs → ∀ i (y : α) cs, i < l.length → K y cs →
    Els K (l.set i y) (xs.take (i * sz) ++ cs ++ xs.drop (i * sz + sz))
  | [], _, _, i, _, _, hi, _ => by simp at hi
  | x :: l, _, ⟨c, r, e, hc, hr⟩, 0, y, cs, _, hy => by
    refine ⟨cs, r, ?_, hy, hr⟩
    rw [e, Nat.zero_mul, Nat.zero_add]
    simp [hK _ _ hc]
  | x :: l, _, ⟨c, r, e, hc, hr⟩, i + 1, y, cs, hi, hy => by
    have := Els.set hK hr i y cs (by simpa using hi) hy
    refine ⟨c, _, ?_, hc, this⟩
    have hl := hK _ _ hc
    rw [e, Nat.add_mul, Nat.one_mul]
    have h1 : (c ++ r).take (i * sz + sz) = c ++ r.take (i * sz) := by
      rw [List.take_append, hl, List.take_of_length_le (by omega)]
      congr 2; omega
    have h2 : (c ++ r).drop (i * sz + sz + sz) = r.drop (i * sz + sz) := by
      rw [List.drop_append, hl, List.drop_eq_nil_of_le (by omega), List.nil_append]
      congr 1; omega
    rw [h1, h2, List.append_assoc, List.append_assoc, List.append_assoc]

/-! ### Values -/
def xorB (ng b : Bool) : Bool := match ng with
  | true => !b
  | false => b

/-- What a program holds of an entry: the first part, where it is told by several. -/
def hd : Value → Value
  | .tuple a => a.getD 0 undef
  | v => v
/-- What may become of an entry's place: nothing; or other parts behind the first. -/
def Old (v v' : Value) : Prop := v' = v ∨ ((∃ a, v = .tuple a) ∧ (∃ a, v' = .tuple a) ∧ hd v' = hd v)
theorem Old.refl (v : Value) : Old v v := .inl rfl
theorem Old.hd {v v' : Value} (h : Old v v') : Abs.hd v' = Abs.hd v := h.elim (fun e => by rw [e]) (fun h => h.2.2)
theorem Old.trans {a b c : Value} (h : Old a b) (g : Old b c) : Old a c := by
  rcases h with rfl | ⟨h1, h2, h3⟩
  · exact g
  · rcases g with rfl | ⟨_, g2, g3⟩
    · exact .inr ⟨h1, h2, h3⟩
    · exact .inr ⟨h1, g2, g3.trans h3⟩
theorem Old.eq {v v' : Value} (h : Old v v') (hn : ∀ a, v ≠ .tuple a) : v' = v := h.elim id (fun ⟨⟨a, e⟩, _⟩ => absurd e (hn a))
theorem Old.slice {v v' : Value} (h : Old v v') {A : Option Addr} {n c : Nat} (e : v = .slice A n c) : v' = .slice A n c := (h.eq (fun a e' => by rw [e] at e'; cases e')).trans e
theorem Old.ptr {v v' : Value} (h : Old v v') {A : Option Addr} (e : v = .pointer A) : v' = .pointer A := (h.eq (fun a e' => by rw [e] at e'; cases e')).trans e

mutual
/-- y is what the abstract value says. -/
def R (M : Nat → Prop) (w : World) (ρ : Nat → Value) (hp : Heap) : AV → Value → Prop
  | .v x, y => y = x
  | .bs ng b, y => y = .bool (xorB ng b)
  | .bp ng p d, y => y = .bool (xorB ng (@decide p d))
  | .ifc n, y => (n = true ∧ y = .nilIface) ∨ (n = false ∧ ∃ t x, y = .iface t x)
  | .con t l, y => ∃ A c, y = .slice A l.length c ∧ l.length ≤ c ∧ RowR M w (t.KR M w) t.sz A l
  | .own i, y => hp i ≠ .unused ∧ y = hd (ρ i) ∧ ∃ A n c, y = .slice A n c
  | .box i off, y => hp i ≠ .unused ∧ ∃ g o, ρ i = .pointer (some ⟨g, o, none⟩) ∧ y = .pointer (some ⟨g, o + off, none⟩)
  | .elt t x off, y => ∃ b o cs, y = .pointer (some ⟨b, o + off, none⟩) ∧ ¬ M b ∧ t.KR M w x cs ∧ ∀ j u, cs[j]? = some u → w.cell? ⟨b, o + j, none⟩ = some u
  | .oel i sz j off, y => hp i ≠ .unused ∧ ∃ g n c, hd (ρ i) = .slice (some ⟨g, 0, none⟩) n c ∧ j < n ∧ y = .pointer (some ⟨g, j * sz + off, none⟩)
  | .mp i, y => hp i ≠ .unused ∧ y = ρ i ∧ ∃ b, y = .map (some b)
  | .sub i lo, y => hp i ≠ .unused ∧ ∃ g n c c' A, ρ i = .slice (some ⟨g, 0, none⟩) n c ∧ lo ≤ n ∧ y = .slice (some A) (n - lo) c' ∧ (lo < n → A = ⟨g, lo, none⟩) ∧ n - lo ≤ c'
  | .fn f n cs, y => ∃ vs, y = .func (.func f) (vs.take n).toArray (vs.drop n).toArray ∧ Rs M w ρ hp cs vs
  | .agg cs, y => ∃ vs, y = .agg vs.toArray ∧ Rs M w ρ hp cs vs
  | .tup cs, y => ∃ vs, y = .tuple vs.toArray ∧ Rs M w ρ hp cs vs
  | .dead, _ => True
def Rs (M : Nat → Prop) (w : World) (ρ : Nat → Value) (hp : Heap) : List AV → List Value → Prop
  | [], vs => vs = []
  | a :: as, vs => ∃ v r, vs = v :: r ∧ R M w ρ hp a v ∧ Rs M w ρ hp as r
end

mutual
theorem R_step {M M' D : Nat → Prop} {w w' : World} {ρ ρ' : Nat → Value} {hp hp' : Heap} (off : Off D w w') (hD : ∀ b, b < w.heap.size → D b → M b) (hM : ∀ b, b < w.heap.size → M' b → M b)
    (hρ : ∀ i, hp i ≠ .unused → Old (ρ i) (ρ' i) ∧ hp' i ≠ .unused) : (a : AV) → {y : Value} → R M w ρ hp a y → R M' w' ρ' hp' a y
  | .v _, _, h => h
  | .bs _ _, _, h => h
  | .bp _ _ _, _, h => h
  | .ifc _, _, h => h
  | .con t _, _, ⟨A, c, e, hl, hr⟩ => ⟨A, c, e, hl, RowR_step t.sz_pos off hD hM (fun _ _ hk => KR_step off hD hM t hk) hr⟩
  | .own i, _, ⟨hu, e, s⟩ => ⟨(hρ i hu).2, by rw [(hρ i hu).1.hd]; exact e, s⟩
  | .box i _, _, ⟨hu, g, o, e, e'⟩ => ⟨(hρ i hu).2, g, o, (hρ i hu).1.ptr e, e'⟩
  | .elt t x _, _, ⟨b, o, cs, e, hb, hk, hc⟩ => by
    have hlt : b < w.heap.size := by
      obtain ⟨u, hu⟩ : ∃ u, cs[0]? = some u := ⟨_, List.getElem?_eq_getElem (by rw [KR_len t hk]; exact t.sz_pos)⟩
      exact World.block_lt_of_cell? (a := ⟨b, _, none⟩) w (hc 0 u hu)
    exact ⟨b, o, cs, e, fun hm => hb (hM b hlt hm), KR_step off hD hM t hk, fun j u hu => off.cell (fun hd => hb (hD b hlt hd)) (hc j u hu)⟩
  | .oel i _ _ _, _, ⟨hu, g, n, c, e, r⟩ => ⟨(hρ i hu).2, g, n, c, by rw [(hρ i hu).1.hd]; exact e, r⟩
  | .mp i, _, ⟨hu, e, b, s⟩ => ⟨(hρ i hu).2, ((hρ i hu).1.eq (fun a e' => by rw [e, e'] at s; cases s)).symm ▸ e, b, s⟩
  | .sub i _, _, ⟨hu, g, n, c, c', A, e, r⟩ => ⟨(hρ i hu).2, g, n, c, c', A, (hρ i hu).1.slice e, r⟩
  | .fn _ _ cs, _, ⟨vs, e, h⟩ => ⟨vs, e, Rs_step off hD hM hρ cs h⟩
  | .agg cs, _, ⟨vs, e, h⟩ => ⟨vs, e, Rs_step off hD hM hρ cs h⟩
  | .tup cs, _, ⟨vs, e, h⟩ => ⟨vs, e, Rs_step off hD hM hρ cs h⟩
  | .dead, _, _ => trivial
theorem Rs_step {M M' D : Nat → Prop} {w w' : World} {ρ ρ' : Nat → Value} {hp hp' : Heap} (off : Off D w w') (hD : ∀ b, b < w.heap.size → D b → M b) (hM : ∀ b, b < w.heap.size → M' b → M b)
    (hρ : ∀ i, hp i ≠ .unused → Old (ρ i) (ρ' i) ∧ hp' i ≠ .unused) : (as : List AV) → {ys : List Value} → Rs M w ρ hp as ys → Rs M' w' ρ' hp' as ys
  | [], _, h => h
  | a :: as, _, ⟨v, r, e, h0, h1⟩ => ⟨v, r, e, R_step off hD hM hρ a h0, Rs_step off hD hM hρ as h1⟩
end

section
variable {M : Nat → Prop} {w : World} {ρ : Nat → Value} {hp : Heap}
theorem Rs_len : {as : List AV} → {vs : List Value} → Rs M w ρ hp as vs → vs.length = as.length
  | [], _, h => by cases h; rfl
  | _ :: as, _, ⟨v, r, e, _, h⟩ => by rw [e, List.length_cons, Rs_len h, List.length_cons]
theorem Rs_append : {as bs : List AV} → {vs us : List Value} → Rs M w ρ hp as vs → Rs M w ρ hp bs us → Rs M w ρ hp (as ++ bs) (vs ++ us)
  | [], _, _, _, h, g => by cases h; simpa using g
  | _ :: _, _, _, _, ⟨v, r, e, h0, h⟩, g => ⟨v, r ++ _, by rw [e]; rfl, h0, Rs_append h g⟩
theorem Rs_take : {as : List AV} → {vs : List Value} → Rs M w ρ hp as vs → ∀ n, Rs M w ρ hp (as.take n) (vs.take n)
  | [], _, h, n => by cases h; simp [Rs]
  | a :: as, _, _, 0 => by simp [Rs]
  | a :: as, _, ⟨v, r, e, h0, h⟩, n + 1 => by rw [e]; exact ⟨v, r.take n, rfl, h0, Rs_take h n⟩
theorem Rs_drop : {as : List AV} → {vs : List Value} → Rs M w ρ hp as vs → ∀ n, Rs M w ρ hp (as.drop n) (vs.drop n)
  | [], _, h, n => by cases h; simp [Rs]
  | a :: as, _, h, 0 => h
  | a :: as, _, ⟨v, r, e, h0, h⟩, n + 1 => by rw [e]; exact Rs_drop h n
theorem Rs_get : {as : List AV} → {vs : List Value} → Rs M w ρ hp as vs → ∀ (i : Nat) (a : AV), as[i]? = some a → ∃ v, vs[i]? = some v ∧ R M w ρ hp a v
  | [], _, _, i, a, ha => by simp at ha
  | b :: as, _, ⟨v, r, e, h0, h⟩, 0, a, ha => by
    have : b = a := by simpa using ha
    subst this; exact ⟨v, by rw [e]; rfl, h0⟩
  | b :: as, _, ⟨v, r, e, h0, h⟩, i + 1, a, ha => by
    obtain ⟨u, hu, hr⟩ := Rs_get h i a (by simpa using ha)
    exact ⟨u, by rw [e]; simpa using hu, hr⟩
theorem Rs_vals : (l : List Value) → Rs M w ρ hp (l.map .v) l
  | [] => rfl
  | x :: l => ⟨x, l, rfl, rfl, Rs_vals l⟩
theorem Rs_vals_eq : {l : List Value} → {vs : List Value} → Rs M w ρ hp (l.map .v) vs → vs = l
  | [], _, h => h
  | x :: l, _, ⟨v, r, e, h0, h⟩ => by rw [e, Rs_vals_eq h]; cases h0; rfl
end
end Go.Proofs.YtommgpkeicpokaaGreatDoor.Abs
