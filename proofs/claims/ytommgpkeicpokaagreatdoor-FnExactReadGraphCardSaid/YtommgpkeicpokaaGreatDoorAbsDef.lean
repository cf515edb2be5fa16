/- The abstract machine: values without addresses, effects, an interpreter of the program's own code. Definitions alone. -/
import Derived.Below
import Derived.Orders
import Derived.Laws.AppendOwn
import Derived.Laws.OwnMore
import Derived.KernelRfl
namespace Go.Proofs.YtommgpkeicpokaaGreatDoor.Abs
open Go Go.RowKit
set_option linter.unusedVariables false
set_option linter.unusedSectionVars false
set_option linter.unusedSimpArgs false

inductive Ty where
  | int (k : IntKind)
  | bool
  | str
  | sl (t : Ty)
  | pair (a b : Ty)
  deriving DecidableEq

def Ty.den : Ty → Type
  | .int _ => Int
  | .bool => Bool
  | .str => ByteArray
  | .sl t => List t.den
  | .pair a b => a.den × b.den

def Ty.zero : (t : Ty) → t.den
  | .int _ => (0 : Int)
  | .bool => false
  | .str => (⟨#[]⟩ : ByteArray)
  | .sl _ => []
  | .pair a b => (a.zero, b.zero)

def Ty.sz : Ty → Nat
  | .pair a b => a.sz + b.sz
  | _ => 1

/-- Abstract values. -/
inductive AV where
  | v (x : Value)
  | con (t : Ty) (l : List t.den)
  | own (i : Nat)
  | box (i off : Nat)
  | elt (t : Ty) (x : t.den) (off : Nat)
  | oel (i sz j off : Nat)
  | mp (i : Nat)
  | sub (i lo : Nat)
  | fn (f : FuncId) (n : Nat) (cs : List AV)
  | agg (cs : List AV)
  | tup (cs : List AV)
  | bs (ng b : Bool)
  | bp (ng : Bool) (p : Prop) (d : Decidable p)
  | ifc (n : Bool)
  | dead

/-- A type whose last cell is a slice: the type of that slice's elements, the slice, the slice changed. -/
def Ty.nest : Ty → Bool
  | .sl _ => true
  | .pair _ b => b.nest
  | _ => false
def Ty.inn : Ty → Ty
  | .sl b => b
  | .pair _ b => b.inn
  | t => t
def Ty.get : (t : Ty) → t.den → List t.inn.den
  | .sl _, l => l
  | .pair _ b, x => b.get x.2
  | .int _, _ => []
  | .bool, _ => []
  | .str, _ => []
def Ty.put : (t : Ty) → t.den → List t.inn.den → t.den
  | .sl _, _, m => m
  | .pair _ b, x, m => (x.1, b.put x.2 m)
  | .int _, x, _ => x
  | .bool, x, _ => x
  | .str, x, _ => x

/-- Entries of the abstract heap. -/
inductive HE where
  | unused
  | gone
  | box (cs : List AV)
  | row (e : TypeId) (t : Ty) (l : List t.den)
  | frz (t : Ty) (l : List t.den)
  | mp (t : Ty) (f : Int → Option t.den)
  | bts (l : List Int)
  | bld (T : TypeId) (c : AV)
  | tre (o : Nat) (fr : Option Nat) (e be : TypeId) (t : Ty) (l : List t.den) (cur : Option (Nat × Nat))

def Ty.cells : (t : Ty) → t.den → List AV
  | .int k, x => [.v (.int k x)]
  | .bool, x => [.bs false x]
  | .str, x => [.v (.string x)]
  | .sl t, x => [.con t x]
  | .pair a b, x => a.cells x.1 ++ b.cells x.2

/-- .. all but the last. -/
def Ty.flat : (t : Ty) → t.den → List AV
  | .pair a b, x => a.cells x.1 ++ b.flat x.2
  | .sl _, _ => []
  | .int _, _ => []
  | .bool, _ => []
  | .str, _ => []

/-- What cells say at a type. -/
def Ty.dec : (t : Ty) → List AV → Option t.den
  | .int k, cs => match cs with
    | [.v (.int k' x)] => match decEq k' k with | isTrue _ => some x | isFalse _ => none
    | _ => none
  | .bool, cs => match cs with
    | [.v (.bool b)] => some b
    | [.bs false b] => some b
    | [.bs true b] => some (!b)
    | [.bp false p d] => some (@decide p d)
    | [.bp true p d] => some (!@decide p d)
    | _ => none
  | .str, cs => match cs with
    | [.v (.string s)] => some s
    | _ => none
  | .sl t, cs => match cs with
    | [.con t' l] => match decEq t' t with | isTrue h => some (h ▸ l) | isFalse _ => none
    | [.v (.slice none 0 0)] => some []
    | _ => none
  | .pair a b, cs => match a.dec (cs.take a.sz) with
    | some x => match b.dec (cs.drop a.sz) with
      | some y => some (x, y)
      | none => none
    | none => none

/-- From which element on an entry's elements are known. -/
abbrev frN : Option Nat → Nat
  | none => 0
  | some k => k

/-- What an entry says but for whether a part of it is out; and that. -/
def strip : HE → HE
  | .tre o fr e be t l _ => .tre o fr e be t l none
  | h => h
def outOf : HE → Option (Nat × Nat)
  | .tre _ _ _ _ _ _ c => c
  | _ => none
def setCur (c : Option (Nat × Nat)) : HE → HE
  | .tre o fr e be t l _ => .tre o fr e be t l c
  | h => h

/-- What an operation does, step by step. (rdS: an entry read but for what is out; wrS: that alone written.) -/
inductive Eff (α : Type) : Type 1 where
  | ret (a : α)
  | fail
  | rd (i : Nat) (k : HE → Eff α)
  | wr (i : Nat) (h : HE) (k : Eff α)
  | nw (h : HE) (k : Nat → Eff α)
  | br (c : Prop) (d : Decidable c) (t e : Eff α)
  | gd (c : Prop) (d : Decidable c) (e : Eff α)
  | opt (X : Type) (o : Option X) (k : X → Eff α)
  | rdS (i : Nat) (k : HE → Eff α)
  | wrS (i : Nat) (c : Option (Nat × Nat)) (k : Eff α)

namespace Eff
def bind {α β : Type} : Eff α → (α → Eff β) → Eff β
  | .ret a, f => f a
  | .fail, _ => .fail
  | .rd i k, f => .rd i fun h => (k h).bind f
  | .wr i h k, f => .wr i h (k.bind f)
  | .nw h k, f => .nw h fun i => (k i).bind f
  | .br c d t e, f => .br c d (t.bind f) (e.bind f)
  | .gd c d e, f => .gd c d (e.bind f)
  | .opt X o k, f => .opt X o fun x => (k x).bind f
  | .rdS i k, f => .rdS i fun h => (k h).bind f
  | .wrS i c k, f => .wrS i c (k.bind f)
end Eff

def upd {β : Type} (f : Nat → β) (i : Nat) (x : β) : Nat → β := fun j => match Nat.beq j i with
  | true => x
  | false => f j

abbrev Heap := Nat → HE

/-- Carries it out: base: the next number for a new entry; what was read and written is told (of entry i: 2 i: what it says; 2 i + 1: what is out). -/
def Eff.go {α R : Type} : Eff α → Nat → Heap → List Nat → List Nat → (α → Nat → Heap → List Nat → List Nat → Option R) → Option R
  | .ret a, b, hp, rs, ws, K => K a b hp rs ws
  | .fail, _, _, _, _, _ => none
  | .rd i k, b, hp, rs, ws, K => (k (hp i)).go b hp (2 * i :: (2 * i + 1) :: rs) ws K
  | .wr i h k, b, hp, rs, ws, K => k.go b (upd hp i h) rs (2 * i :: (2 * i + 1) :: ws) K
  | .nw h k, b, hp, rs, ws, K => match hp b with
    | .unused => (k b).go (b + 1) (upd hp b h) rs (2 * b :: (2 * b + 1) :: ws) K
    | _ => none
  | .br c d t e, b, hp, rs, ws, K => @ite _ c d (t.go b hp rs ws K) (e.go b hp rs ws K)
  | .gd _ d e, b, hp, rs, ws, K => match d with
    | isFalse _ => e.go b hp rs ws K
    | isTrue _ => none
  | .opt _ o k, b, hp, rs, ws, K => o.bind fun x => (k x).go b hp rs ws K
  | .rdS i k, b, hp, rs, ws, K => (k (strip (hp i))).go b hp (2 * i :: rs) ws K
  | .wrS i c k, b, hp, rs, ws, K => k.go b (upd hp i (setCur c (hp i))) (2 * i :: rs) ((2 * i + 1) :: ws) K

/-! ### Types of the program -/
def isAgg (P : Program) (t : TypeId) : Option Bool :=
  match P.underlying t with
  | some (.struct _) => some true
  | some (.array _ _) => some true
  | some _ => some false
  | none => none

def sizeAt (P : Program) (t : TypeId) : Option Nat := (P.info? t).map (·.size)

def mkPair : List Ty → Option Ty
  | [] => none
  | [t] => some t
  | t :: ts => match mkPair ts with
    | some r => some (.pair t r)
    | none => none

def tyOf (P : Program) : Nat → TypeId → Option Ty
  | 0, _ => none
  | n + 1, T => match P.underlying T with
    | some (.int k) => some (.int k)
    | some .bool => some .bool
    | some .string => some .str
    | some (.slice e) => match tyOf P n e with
      | some t => some (.sl t)
      | none => none
    | some (.struct fs) => match fs.toList.mapM fun f => tyOf P n f.type with
      | some ts => mkPair ts
      | none => none
    | _ => none

/-! ### Operations -/
def ev (tm : Nat → AV) : Operand → AV
  | .tmp t => tm t
  | .const x => .v x
  | .global g => .v (.pointer (some ⟨g, 0, none⟩))
  | .func f => .fn f 0 []

def isCell : AV → Bool
  | .v (.agg _) => false
  | .v (.tuple _) => false
  | .agg _ => false
  | .tup _ => false
  | .dead => false
  | _ => true

/-- The cells of a value. -/
def cellsOf : AV → Option (List AV)
  | .v (.agg cs) => some (cs.toList.map .v)
  | .v (.tuple _) => none
  | .agg cs => some cs
  | .tup _ => none
  | .dead => none
  | a => some [a]

/-- A value out of cells. -/
def shut (agg : Option Bool) (cs : List AV) : Eff AV :=
  match agg with
  | some true => .ret (.agg cs)
  | some false => match cs with
    | [c] => .ret c
    | _ => .fail
  | none => .fail

def finLoad (P : Program) (T : TypeId) (cs : List AV) (off : Nat) : Eff AV :=
  match sizeAt P T with
  | none => .fail
  | some n => match Nat.ble (off + n) cs.length with
    | true => shut (isAgg P T) ((cs.drop off).take n)
    | false => .fail

/-- The cell of an element whose row is the entry q: the row itself, or its numbers from a place on. -/
def lastCell (o q : Nat) : AV := match o with
  | 0 => .own q
  | o + 1 => .sub q (o + 1)
/-- Elements before a place are forgotten. -/
def needFr {α : Type} (fr : Option Nat) (j : Nat) (e : Eff α) : Eff α := match fr with
  | none => e
  | some f => .br (f ≤ j) inferInstance e .fail

def loadE (P : Program) (T : TypeId) : AV → Eff AV
  | .box i off => .rd i fun
    | .box cs => finLoad P T cs off
    | _ => .fail
  | .elt t x off => finLoad P T (t.cells x) off
  | .oel i sz j off => .rd i fun
    | .row _ t l => match Nat.beq sz t.sz with
      | true => finLoad P T (t.cells (l.getD j t.zero)) off
      | false => .fail
    | .frz t l => match Nat.beq sz t.sz with
      | true => finLoad P T (t.cells (l.getD j t.zero)) off
      | false => .fail
    | .bts l => match Nat.beq sz 1 with
      | true => finLoad P T [.v (.int .u8 (l.getD j 0))] off
      | false => .fail
    | .tre o fr e be t l cur => match Nat.beq sz t.sz, sizeAt P T with
      | true, some n => match Nat.ble (off + n + 1) t.sz with
        | true => finLoad P T (t.flat (l.getD j t.zero)) off
        | false => match cur with
          | none => needFr fr j (.nw (.row be t.inn (t.get (l.getD j t.zero))) fun q => .wrS i (some (j, q)) (finLoad P T (t.flat (l.getD j t.zero) ++ [lastCell o q]) off))
          | some _ => .fail
      | _, _ => .fail
    | _ => .fail
  | _ => .fail

/-- .. out of a variable of its own alone. -/
def loadB (P : Program) (T : TypeId) : AV → Eff AV
  | .box i off => loadE P T (.box i off)
  | .elt t x off => loadE P T (.elt t x off)
  | _ => .fail

/-- The last of some cells, where it is a row of one's own. -/
def lastOwn : List AV → Option (List AV × Nat)
  | [] => none
  | [.own q] => some ([], q)
  | c :: cs => match lastOwn cs with
    | some (r, q) => some (c :: r, q)
    | none => none

/-- .. or its numbers from a place on: the place. -/
def lastRow : List AV → Option (List AV × Nat × Nat)
  | [] => none
  | [.own q] => some ([], q, 0)
  | [.sub q (o + 1)] => some ([], q, o + 1)
  | c :: cs => match lastRow cs with
    | some (r, q, o) => some (c :: r, q, o)
    | none => none

/-- Elements as they are read: of each row the part from a place on. -/
def Ty.cut (t : Ty) (o : Nat) (l : List t.den) : List t.den := match o with
  | 0 => l
  | o + 1 => l.map fun x => t.put x ((t.get x).drop (o + 1))

/-- Rows that cells lead to are written no more. -/
def settle : List AV → Eff (List AV)
  | [] => .ret []
  | .own i :: cs => .rd i fun
    | .row _ t l => .wr i (.frz t l) ((settle cs).bind fun r => .ret (.con t l :: r))
    | .frz t l => (settle cs).bind fun r => .ret (.con t l :: r)
    | _ => .fail
  | .sub i lo :: cs => .rd i fun
    | .row _ t l => match Nat.beq t.sz 1 with
      | true => .wr i (.frz t l) ((settle cs).bind fun r => .ret (.con t (l.drop lo) :: r))
      | false => .fail
    | .frz t l => match Nat.beq t.sz 1 with
      | true => (settle cs).bind fun r => .ret (.con t (l.drop lo) :: r)
      | false => .fail
    | _ => .fail
  | c :: cs => (settle cs).bind fun r => .ret (c :: r)

def splice (cs : List AV) (off : Nat) (vs : List AV) : List AV := cs.take off ++ vs ++ cs.drop (off + vs.length)

def isTre : HE → Bool
  | .tre _ _ _ _ _ _ _ => true
  | _ => false

/-- A row of one's own goes into an element. -/
def absorbE (P : Program) (i sz j off : Nat) (vs : List AV) : Eff AV :=
  match lastOwn vs with
  | none => .fail
  | some (fs, q) => .rd q fun
    | .row be' b m => .rd i fun
      | .tre 0 none e be t l cur => match Nat.beq be' be, decEq b t.inn, t.nest, Nat.beq sz t.sz, Nat.beq (off + vs.length) t.sz, Nat.beq q i with
        | true, isTrue _, true, true, true, false => match t.dec (splice (t.flat (l.getD j t.zero)) off fs ++ [.con b m]) with
          | some y => match cur with
            | none => .wr q .gone (.wr i (.tre 0 none e be t (l.set j y) none) (.ret (.v undef)))
            | some (j', _) => .br (j' = j) inferInstance (.wr q .gone (.wr i (.tre 0 none e be t (l.set j y) none) (.ret (.v undef)))) .fail
          | none => .fail
        | _, _, _, _, _, _ => .fail
      | _ => .fail
    | _ => .fail

def storeE (P : Program) (T : TypeId) (a x : AV) : Eff AV :=
  match cellsOf x with
  | none => .fail
  | some vs => match vs.all isCell, sizeAt P T with
    | true, some (n + 1) => match Nat.beq vs.length (n + 1) with
      | true => match a with
        | .box i off => .rd i fun
          | .box cs => match Nat.ble (off + (n + 1)) cs.length with
            | true => .wr i (.box (splice cs off vs)) (.ret (.v undef))
            | false => .fail
          | _ => .fail
        | .oel i sz j off => .rd i fun h => match isTre h, lastOwn vs with
         | true, some _ => absorbE P i sz j off vs
         | _, _ => (settle vs).bind fun vs => .rd i fun
          | .row e t l => match Nat.beq sz t.sz, Nat.ble (off + vs.length) t.sz, t.dec (splice (t.cells (l.getD j t.zero)) off vs) with
            | true, true, some y => .wr i (.row e t (l.set j y)) (.ret (.v undef))
            | _, _, _ => .fail
          | .bts l => match Nat.beq sz 1, Nat.beq off 0, vs with
            | true, true, [.v (.int .u8 y)] => .wr i (.bts (l.set j y)) (.ret (.v undef))
            | _, _, _ => .fail
          | .tre o fr e be t l cur => match Nat.beq sz t.sz, Nat.ble (off + vs.length + 1) t.sz, t.dec (splice (t.flat (l.getD j t.zero)) off vs ++ [.con t.inn (t.get (l.getD j t.zero))]) with
            | true, true, some y => .wr i (.tre o fr e be t (l.set j y) cur) (.ret (.v undef))
            | _, _, _ => .fail
          | _ => .fail
        | _ => .fail
      | false => .fail
    | _, _ => .fail

def zeroCellsAt (P : Program) (T : TypeId) : Option (List AV) :=
  match (P.info? T).bind (·.zero) with
  | some z => cellsOf (.v z)
  | none => none

/-- A variable whose first cell is a pointer to itself, or none. -/
def isBld (P : Program) (T : TypeId) : Bool :=
  match P.underlying T with
  | some (.struct fs) => match fs.toList with
    | [a, _] => match P.underlying a.type with
      | some (.pointer T') => Nat.beq T' T
      | _ => false
    | _ => false
  | _ => false

def allocE (P : Program) (T : TypeId) : Eff AV :=
  match zeroCellsAt P T with
  | some cs => match isBld P T, cs with
    | true, [.v (.pointer none), c] => .nw (.bld T c) fun i => .ret (.box i 0)
    | true, _ => .fail
    | false, _ => .nw (.box cs) fun i => .ret (.box i 0)
  | none => .fail

def boxE (x : AV) : Eff AV :=
  match cellsOf x with
  | some cs => match cs.all isCell with
    | true => .nw (.box cs) fun i => .ret (.box i 0)
    | false => .fail
  | none => .fail

/-- Parts laid into cells. -/
def fillA (place : Nat → Option (Nat × Nat)) : List AV → List (Nat × AV) → Option (List AV)
  | cs, [] => some cs
  | cs, (i, x) :: r => match place i, cellsOf x with
    | some (off, n), some vs => match Nat.beq vs.length n, Nat.ble (off + n) cs.length with
      | true, true => fillA place (splice cs off vs) r
      | _, _ => none
    | _, _ => none

def placesOf (P : Program) (fs : Array Field) : Option (List (Nat × Nat)) := fs.toList.mapM fun f => (P.info? f.type).map fun i => (f.offset, i.size)

def buildE (P : Program) (T : TypeId) (parts : List (Nat × AV)) : Eff AV :=
  match P.underlying T, zeroCellsAt P T with
  | some (.struct fs), some z => match placesOf P fs with
    | some pl => match fillA (fun i => pl[i]?) z parts with
      | some cs => .ret (.agg cs)
      | none => .fail
    | none => .fail
  | _, _ => .fail

def decL (t : Ty) : Nat → List AV → Option (List t.den)
  | 0, cs => match cs with
    | [] => some []
    | _ :: _ => none
  | n + 1, cs => match t.dec (cs.take t.sz), decL t n (cs.drop t.sz) with
    | some x, some r => some (x :: r)
    | _, _ => none

def repl : Nat → List AV → List AV
  | 0, _ => []
  | n + 1, z => repl n z ++ z

def buildSliceE (P : Program) (T : TypeId) (n : Nat) (parts : List (Nat × AV)) : Eff AV :=
  match P.underlying T with
  | some (.slice e) => match tyOf P 9 e, sizeAt P e, zeroCellsAt P e with
    | some t, some s, some z => match Nat.beq s t.sz, Nat.beq z.length s, Nat.ble (n * s) 16777216, Nat.ble 1 s with
      | true, true, true, true => match fillA (fun i => some (i * s, s)) (repl n z) parts with
        | some cs => (settle cs).bind fun cs => match decL t n cs with
          | some l => .nw (.row e t l) fun i => .ret (.own i)
          | none => .fail
        | none => .fail
      | _, _, _, _ => .fail
    | _, _, _ => .fail
  | _ => .fail

def fieldOff (P : Program) (S : TypeId) (f : Nat) : Option Nat :=
  match P.underlying S with
  | some (.struct fs) => match fs[f]? with
    | some f => match sizeAt P f.type with
      | some (_ + 1) => some f.offset
      | _ => none
    | none => none
  | _ => none

def fieldAddrE (P : Program) (S : TypeId) (a : AV) (f : Nat) : Eff AV :=
  match fieldOff P S f with
  | some o => match a with
    | .box i off => .ret (.box i (off + o))
    | .elt t x off => .ret (.elt t x (off + o))
    | .oel i sz j off => .ret (.oel i sz j (off + o))
    | _ => .fail
  | none => .fail

def fieldE (P : Program) (S : TypeId) (a : AV) (f : Nat) : Eff AV :=
  match P.underlying S with
  | some (.struct fs) => match fs[f]? with
    | some f => match cellsOf a, a with
      | some cs, .agg _ => finLoad P f.type cs f.offset
      | some cs, .v (.agg _) => finLoad P f.type cs f.offset
      | _, _ => .fail
    | none => .fail
  | _ => .fail

/-- A byte of a string. -/
def byteAt (s : ByteArray) (i : Int) : Int := if h : i.toNat < s.size then ((s[i.toNat]'h).toNat : Int) else 0

def indexE (P : Program) (T : TypeId) (x i : AV) : Eff AV :=
  match P.underlying T, x, i with
  | some .string, .v (.string s), .v (.int _ n) => .br (0 ≤ n) inferInstance (.br (n < (s.size : Int)) inferInstance (.ret (.v (.int .u8 (byteAt s n)))) .fail) .fail
  | _, _, _ => .fail

def indexAddrE (P : Program) (T : TypeId) (x i : AV) : Eff AV :=
  match P.underlying T, i with
  | some (.slice e), .v (.int _ n) => match sizeAt P e, x with
    | some s, .con t l => match Nat.beq s t.sz with
      | true => .br (0 ≤ n) inferInstance (.br (n < (l.length : Int)) inferInstance (.ret (.elt t (l.getD n.toNat t.zero) 0)) .fail) .fail
      | false => .fail
    | some s, .own r => .rd r fun
      | .row _ t l => match Nat.beq s t.sz with
        | true => .br (0 ≤ n) inferInstance (.br (n < (l.length : Int)) inferInstance (.ret (.oel r t.sz n.toNat 0)) .fail) .fail
        | false => .fail
      | .frz t l => match Nat.beq s t.sz with
        | true => .br (0 ≤ n) inferInstance (.br (n < (l.length : Int)) inferInstance (.ret (.elt t (l.getD n.toNat t.zero) 0)) .fail) .fail
        | false => .fail
      | .bts l => match Nat.beq s 1 with
        | true => .br (0 ≤ n) inferInstance (.br (n < (l.length : Int)) inferInstance (.ret (.oel r 1 n.toNat 0)) .fail) .fail
        | false => .fail
      | .tre _ _ _ _ t l _ => match Nat.beq s t.sz with
        | true => .br (0 ≤ n) inferInstance (.br (n < (l.length : Int)) inferInstance (.ret (.oel r t.sz n.toNat 0)) .fail) .fail
        | false => .fail
      | _ => .fail
    | some s, .sub r lo => .rd r fun
      | .row _ t l => match Nat.beq s t.sz, Nat.beq t.sz 1 with
        | true, true => .br (0 ≤ n) inferInstance (.br (n < ((l.length - lo : Nat) : Int)) inferInstance (.ret (.oel r t.sz (lo + n.toNat) 0)) .fail) .fail
        | _, _ => .fail
      | _ => .fail
    | _, _ => .fail
  | _, _ => .fail

/-- Wraparound, in the words that proofs use. -/
def wrp : IntKind → Int → Int
  | .i64, n => wrap64 n
  | .u8, n => n % 256
  | k, n => k.wrap n

def shlA (k : IntKind) (x y : Int) : Int := k.wrap (x * 2 ^ min y.toNat k.bits)
def shrA (k : IntKind) (x y : Int) : Int := x / 2 ^ min y.toNat k.bits
def andA (k : IntKind) (x y : Int) : Int := k.wrap (BitVec.ofInt k.bits x &&& BitVec.ofInt k.bits y).toNat
def orA (k : IntKind) (x y : Int) : Int := k.wrap (BitVec.ofInt k.bits x ||| BitVec.ofInt k.bits y).toNat
def xorA (k : IntKind) (x y : Int) : Int := k.wrap (BitVec.ofInt k.bits x ^^^ BitVec.ofInt k.bits y).toNat
def andNotA (k : IntKind) (x y : Int) : Int := k.wrap (BitVec.ofInt k.bits x &&& ~~~ BitVec.ofInt k.bits y).toNat

/-- 'no' where a condition holds that is mostly closed. -/
def guardE (c : Prop) [Decidable c] (e : Eff AV) : Eff AV := .gd c inferInstance e

def intOpE (op : BinOp) (k : IntKind) (a b : Int) : Eff AV :=
  match op with
  | .add => .ret (.v (.int k (wrp k (a + b))))
  | .sub => .ret (.v (.int k (wrp k (a - b))))
  | .mul => .ret (.v (.int k (wrp k (a * b))))
  | .quo => guardE (b = 0) (.ret (.v (.int k (wrp k (a.tdiv b)))))
  | .rem => guardE (b = 0) (.ret (.v (.int k (a.tmod b))))
  | .and => .ret (.v (.int k (andA k a b)))
  | .or => .ret (.v (.int k (orA k a b)))
  | .xor => .ret (.v (.int k (xorA k a b)))
  | .andNot => .ret (.v (.int k (andNotA k a b)))
  | .eql => .ret (.bp false (a = b) inferInstance)
  | .neq => .ret (.bp true (a = b) inferInstance)
  | .lss => .ret (.bp false (a < b) inferInstance)
  | .leq => .ret (.bp false (a ≤ b) inferInstance)
  | .gtr => .ret (.bp false (a > b) inferInstance)
  | .geq => .ret (.bp false (a ≥ b) inferInstance)
  | _ => .fail

def strOpE (op : BinOp) (a b : ByteArray) : Eff AV :=
  match op with
  | .add => .br (a.size + b.size ≤ 9223372036854775807) inferInstance (.ret (.v (.string (a ++ b)))) .fail
  | .eql => .ret (.bp false (a.toList = b.toList) inferInstance)
  | .neq => .ret (.bp true (a.toList = b.toList) inferInstance)
  | _ => .fail

/-- A bool as Lean has it. -/
def boolOf : AV → Option Bool
  | .v (.bool b) => some b
  | .bs false b => some b
  | .bs true b => some (!b)
  | .bp false p d => some (@decide p d)
  | .bp true p d => some (!@decide p d)
  | _ => none

/-- A question that can be decided. -/
structure DP where
  p : Prop
  d : Decidable p

def eqOne (P : Program) (T : TypeId) (x y : AV) : Option DP :=
  match P.underlying T with
  | some (.int _) => match x, y with
    | .v (.int k a), .v (.int k' b) => match decEq k k' with
      | isTrue _ => some ⟨a = b, inferInstance⟩
      | isFalse _ => none
    | _, _ => none
  | some .string => match x, y with
    | .v (.string a), .v (.string b) => some ⟨a.toList = b.toList, inferInstance⟩
    | _, _ => none
  | some .bool => match boolOf x, boolOf y with
    | some a, some b => some ⟨a = b, inferInstance⟩
    | _, _ => none
  | _ => none

/-- Are the fields the same, one behind the other? -/
def eqFieldsA (P : Program) (xs ys : List AV) : List Field → Option DP
  | [] => none
  | f :: fs => match decEq f.name "_" with
    | isTrue _ => none
    | isFalse _ => match xs[f.offset]?, ys[f.offset]? with
      | some x, some y => match eqOne P f.type x y with
        | some a => match fs with
          | [] => some a
          | _ :: _ => match eqFieldsA P xs ys fs with
            | some b => some ⟨a.p ∧ b.p, @instDecidableAnd a.p b.p a.d b.d⟩
            | none => none
        | none => none
      | _, _ => none

def eqAggE (P : Program) (op : BinOp) (T : TypeId) (x y : AV) : Eff AV :=
  match x, y with
  | .agg xs, .agg ys => match P.underlying T with
    | some (.struct fs) => match P.stoodInHeld T, P.eqGuardType P.depth T, eqFieldsA P xs ys fs.toList with
      | false, false, some a => match op with
        | .eql => .ret (.bp false a.p a.d)
        | .neq => .ret (.bp true a.p a.d)
        | _ => .fail
      | _, _, _ => .fail
    | _ => .fail
  | _, _ => .fail

def binE (P : Program) (op : BinOp) (T : TypeId) (x y : AV) : Eff AV :=
  match op, x, y with
  | .shl, .v (.int k a), .v (.int _ b) => guardE (b < 0) (.ret (.v (.int k (shlA k a b))))
  | .shr, .v (.int k a), .v (.int _ b) => guardE (b < 0) (.ret (.v (.int k (shrA k a b))))
  | op, .v (.int k a), .v (.int k' b) => match decEq k k' with
    | isTrue _ => intOpE op k a b
    | isFalse _ => .fail
  | op, .v (.string a), .v (.string b) => strOpE op a b
  | op, x, y => match boolOf x, boolOf y with
    | some a, some b => match P.underlying T with
      | some .bool => match op with
        | .eql => .ret (.bp false (a = b) inferInstance)
        | .neq => .ret (.bp true (a = b) inferInstance)
        | _ => .fail
      | _ => .fail
    | _, _ => eqAggE P op T x y

/-- Is an interface's value nil? -/
def ifcE (P : Program) (op : BinOp) (T : TypeId) (x : AV) : Eff AV :=
  match P.underlying T, x with
  | some (.interface _), .ifc n => match op with
    | .eql => .ret (.bs false n)
    | .neq => .ret (.bs true n)
    | _ => .fail
  | _, _ => .fail

def unE (op : UnOp) (x : AV) : Eff AV :=
  match op, x with
  | .neg, .v (.int k n) => .ret (.v (.int k (wrp k (0 - n))))
  | .xor, .v (.int k n) => .ret (.v (.int k (xorA k (if k.signed then -1 else k.max) n)))
  | .not, .v (.bool b) => .ret (.v (.bool (!b)))
  | .not, .bs ng b => .ret (.bs (!ng) b)
  | .not, .bp ng p d => .ret (.bp (!ng) p d)
  | _, _ => .fail

/-- The bytes of a row of numbers. -/
def strOf (l : List Int) : ByteArray := ⟨(l.map fun n => UInt8.ofNat n.toNat).toArray⟩
def numsOf (s : ByteArray) : List Int := s.data.toList.map fun b => (b.toNat : Int)

def convE (P : Program) (S T : TypeId) (x : AV) : Eff AV :=
  match P.underlying S, P.underlying T, x with
  | some (.int _), some (.int k), .v (.int _ n) => .ret (.v (.int k (wrp k n)))
  | some .string, some .string, .v (.string s) => .ret (.v (.string s))
  | some (.slice e), some .string, x => match P.underlying e, x with
    | some (.int .u8), .con (.int .u8) l => .ret (.v (.string (strOf l)))
    | some (.int .u8), .v (.slice none 0 0) => .ret (.v (.string (strOf [])))
    | some (.int .u8), .own i => .rd i fun
      | .row _ (.int .u8) l => .ret (.v (.string (strOf l)))
      | .frz (.int .u8) l => .ret (.v (.string (strOf l)))
      | .bts l => .ret (.v (.string (strOf l)))
      | _ => .fail
    | _, _ => .fail
  | _, _, _ => .fail

/-- []byte(s). -/
def isBytesConv (P : Program) (S T : TypeId) : Bool :=
  match P.underlying S, P.underlying T with
  | some .string, some (.slice e) => match P.underlying e with
    | some (.int .u8) => true
    | _ => false
  | _, _ => false

def bytesE (x : AV) : Eff AV :=
  match x with
  | .v (.string s) => .nw (.bts (numsOf s)) fun i => .ret (.own i)
  | _ => .fail

def conv2E (P : Program) (S T : TypeId) (x : AV) : Eff AV :=
  match isBytesConv P S T with
  | true => bytesE x
  | false => convE P S T x

/-! ### Maps whose keys are int64 -/
def Ty.val1 : (t : Ty) → Value → Option t.den
  | .int k, .int k' n => match decEq k' k with
    | isTrue _ => some n
    | isFalse _ => none
  | .bool, .bool b => some b
  | .str, .string s => some s
  | _, _ => none

def Ty.enc1 : (t : Ty) → t.den → Value
  | .int k, x => .int k x
  | .bool, x => .bool x
  | .str, x => .string x
  | _, _ => undef

structure MapTy where
  V : TypeId
  t : Ty
  z : t.den

/-- The value type of a map, with its zero. -/
def mapTy (P : Program) (T : TypeId) : Option MapTy :=
  match P.underlying T with
  | some (.map K V) => match P.underlying K, tyOf P 9 V, (P.info? V).bind (·.zero) with
    | some (.int .i64), some t, some z => match t.val1 z with
      | some z => some ⟨V, t, z⟩
      | none => none
    | _, _, _ => none
  | _ => none

def mput {α : Type} (f : Int → Option α) (n : Int) (v : α) : Int → Option α := fun m => if m = n then some v else f m

def makeMapE (P : Program) (T : TypeId) : Eff AV :=
  match mapTy P T with
  | some m => .nw (.mp m.t fun _ => none) fun i => .ret (.mp i)
  | none => .fail

def mapPutE (P : Program) (T : TypeId) (m k x : AV) : Eff AV :=
  match mapTy P T, m, k, cellsOf x with
  | some mt, .mp i, .v (.int .i64 n), some cs => .rd i fun
    | .mp t f => match decEq t mt.t, cs.all isCell, t.dec cs with
      | isTrue _, true, some v => match x with
        | .v (.agg _) => .fail
        | .agg _ => .fail
        | _ => .wr i (.mp t (mput f n v)) (.ret (.v undef))
      | _, _, _ => .fail
    | _ => .fail
  | _, _, _, _ => .fail

def lookupE (P : Program) (T : TypeId) (m k : AV) : Eff AV :=
  match mapTy P T, m, k with
  | some mt, .mp i, .v (.int .i64 n) => .rd i fun
    | .mp t f => match decEq mt.t t with
      | isTrue h => match t.cells ((f n).getD (h ▸ mt.z)) with
        | [c] => .ret c
        | _ => .fail
      | isFalse _ => .fail
    | _ => .fail
  | _, _, _ => .fail

def sameTmp : Operand → Operand → Bool
  | .tmp a, .tmp b => Nat.beq a b
  | .const (.int _ a), .const (.int _ b) => decide (a = b)
  | _, _ => false

/-- The type of the elements of the slice that is a type's last cell. -/
def innOf (P : Program) : Nat → TypeId → Option TypeId
  | 0, _ => none
  | n + 1, T => match P.underlying T with
    | some (.slice e) => some e
    | some (.struct fs) => match fs.toList.getLast? with
      | some f => innOf P n f.type
      | none => none
    | _ => none

/-- The last of some cells is no slice at all. -/
def nilLast : List AV → Bool
  | [] => false
  | [.v (.slice none 0 0)] => true
  | _ :: r => nilLast r

def makeSliceE (P : Program) (T : TypeId) (n : AV) : Eff AV :=
  match P.underlying T, n with
  | some (.slice e), .v (.int .i64 n) => match tyOf P 9 e, sizeAt P e, zeroCellsAt P e, (P.info? e).map (·.bytes) with
    | some t, some s, some z, some by_ => match Nat.beq s t.sz, Nat.ble 1 s, Nat.ble 1 by_, Nat.beq z.length s, t.dec z with
      | true, true, true, true, some d => .br (0 ≤ n) inferInstance (.br (n.toNat ≤ 281474976710656 / by_) inferInstance
          (match t.nest, nilLast z, innOf P 9 e with
           | true, true, some be => .nw (.tre 0 none e be t (List.replicate n.toNat d) none) fun i => .ret (.own i)
           | _, _, _ => .nw (.row e t (List.replicate n.toNat d)) fun i => .ret (.own i)) .fail) .fail
      | _, _, _, _, _ => .fail
    | _, _, _, _ => .fail
  | _, _ => .fail

/-- A bound of a slice expression, or what stands for it. -/
def boundOf (d : Int) : Option AV → Option Int
  | none => some d
  | some (.v (.int _ n)) => some n
  | _ => none

def cutLo (lo : Option AV) (l h : Int) (e : Eff AV) : Eff AV :=
  match lo with
  | none => e
  | some _ => .br (0 ≤ l) inferInstance (.br (l ≤ h) inferInstance e .fail) .fail

def cutHi (hi : Option AV) (h n : Int) (e : Eff AV) : Eff AV :=
  match hi with
  | none => e
  | some _ => .br (0 ≤ h) inferInstance (.br (h ≤ n) inferInstance e .fail) .fail

def cutE (lo hi : Option AV) (n : Int) (k : Int → Int → Eff AV) : Eff AV :=
  match boundOf n hi, boundOf 0 lo with
  | some h, some l => cutHi hi h n (cutLo lo l h (k l h))
  | _, _ => .fail

/-- Numbers from the second on. -/
def tailOf (t : Ty) (lo hi : Option AV) : Bool :=
  match t, lo, hi with
  | .int _, some (.v (.int .i64 1)), none => true
  | _, _, _ => false

def sliceE (P : Program) (T : TypeId) (x : AV) (lo hi : Option AV) : Eff AV :=
  match P.underlying T, x with
  | some .string, .v (.string s) => cutE lo hi s.size fun l h => .ret (.v (.string (s.extract l.toNat h.toNat)))
  | some (.slice e), .con t c => match sizeAt P e with
    | some s => match Nat.beq s t.sz with
      | true => cutE lo hi c.length fun l h => .ret (.con t ((c.take h.toNat).drop l.toNat))
      | false => .fail
    | none => .fail
  | some (.slice e), .own i => match sizeAt P e with
    | some s => .rd i fun
      | .row _ t c => match Nat.beq s t.sz with
        | true => match tailOf t lo hi with
          | true => cutE lo none c.length fun l _ => .ret (.sub i l.toNat)
          | false => cutE lo hi c.length fun l h => .wr i (.frz t c) (.ret (.con t ((c.take h.toNat).drop l.toNat)))
        | false => .fail
      | .frz t c => match Nat.beq s t.sz with
        | true => cutE lo hi c.length fun l h => .ret (.con t ((c.take h.toNat).drop l.toNat))
        | false => .fail
      | .bts c => match Nat.beq s 1, hi with
        | true, none => cutE lo none c.length fun l _ => .ret (.sub i l.toNat)
        | _, _ => .fail
      | _ => .fail
    | none => .fail
  | _, _ => .fail

/-- What copy leaves of bytes from a place on. -/
def cpy (l : List Int) (lo : Nat) (s : ByteArray) : List Int := l.take lo ++ ((numsOf s).take (l.length - lo) ++ l.drop (lo + min s.size (l.length - lo)))

def copyE (P : Program) (T : TypeId) (d x : AV) : Eff AV :=
  match P.underlying T, d, x with
  | some (.slice e), .sub i lo, .v (.string s) => match sizeAt P e with
    | some n => match Nat.beq n 1 with
      | true => .rd i fun
        | .bts l => .wr i (.bts (cpy l lo s)) (.ret (.v (.int .i64 (min s.size (l.length - lo) : Nat))))
        | _ => .fail
      | false => .fail
    | none => .fail
  | _, _, _ => .fail

def lenE (P : Program) (T : TypeId) (x : AV) : Eff AV :=
  match P.underlying T, x with
  | some .string, .v (.string s) => .ret (.v (.int .i64 s.size))
  | some (.slice _), .v (.slice none 0 0) => .ret (.v (.int .i64 0))
  | some (.slice _), .con _ l => .ret (.v (.int .i64 l.length))
  | some (.slice _), .own i => .rdS i fun
    | .row _ _ l => .ret (.v (.int .i64 l.length))
    | .tre _ _ _ _ _ l _ => .ret (.v (.int .i64 l.length))
    | .frz _ l => .ret (.v (.int .i64 l.length))
    | .bts l => .ret (.v (.int .i64 l.length))
    | _ => .fail
  | some (.slice _), .sub i lo => .rdS i fun
    | .row _ _ l => .ret (.v (.int .i64 (l.length - lo : Nat)))
    | _ => .fail
  | _, _ => .fail

/-- A slice as it is read. -/
def readSl (x : AV) (k : (t : Ty) → List t.den → Eff AV) : Eff AV :=
  match x with
  | .con t l => k t l
  | .own i => .rd i fun
    | .row _ t l => k t l
    | .frz t l => k t l
    | _ => .fail
  | .sub i lo => .rd i fun
    | .row _ t l => match Nat.beq t.sz 1 with
      | true => k t (l.drop lo)
      | false => .fail
    | .frz t l => match Nat.beq t.sz 1 with
      | true => k t (l.drop lo)
      | false => .fail
    | _ => .fail
  | _ => .fail

def putRow (e : TypeId) (t : Ty) (by_ : Nat) (l m : List t.den) : Eff AV :=
  .br (l.length + m.length ≤ 140737488355328 / by_) inferInstance (.nw (.row e t (l ++ m)) fun i => .ret (.own i)) .fail

def putBts (l m : List Int) : Eff AV :=
  .br (l.length + m.length ≤ 140737488355328) inferInstance (.nw (.bts (l ++ m)) fun i => .ret (.own i)) .fail

def moreE (t : Ty) (x : AV) (k : List t.den → Eff AV) : Eff AV :=
  match x with
  | .v (.slice none 0 0) => k []
  | x => readSl x fun t' m => match decEq t' t with
    | isTrue h => k (h ▸ m)
    | isFalse _ => .fail

/-- So many zeros appended. -/
def appendZE (P : Program) (T2 e : TypeId) (s x : AV) : Eff AV :=
  match P.underlying T2, x with
  | some (.int _), .v (.int _ n) => match tyOf P 9 e, sizeAt P e, zeroCellsAt P e, (P.info? e).map (·.bytes) with
    | some t, some sz, some z, some by_ => match Nat.beq sz t.sz, Nat.ble 1 sz, Nat.ble 1 by_, Nat.beq z.length sz, t.dec z with
      | true, true, true, true, some d => .br (0 ≤ n) inferInstance (match s with
        | .v (.slice none 0 0) => putRow e t by_ [] (List.replicate n.toNat d)
        | .own i => .rd i fun
          | .row e' t' l => match Nat.beq e' e, decEq t' t with
            | true, isTrue h => .wr i .gone (putRow e t by_ (h ▸ l) (List.replicate n.toNat d))
            | _, _ => .fail
          | _ => .fail
        | _ => .fail) .fail
      | _, _, _, _, _ => .fail
    | _, _, _, _ => .fail
  | some .string, .v (.string x) => match sizeAt P e, (P.info? e).bind (·.zero), (P.info? e).map (·.bytes) with
    | some 1, some (.int .u8 0), some 1 => match s with
      | .v (.slice none 0 0) => putRow e (.int .u8) 1 ([] : List Int) (numsOf x)
      | .own i => .rd i fun
        | .row e' (.int .u8) l => match Nat.beq e' e with
          | true => .wr i .gone (putRow e (.int .u8) 1 l (numsOf x))
          | false => .fail
        | .bts l => .wr i .gone (putBts l (numsOf x))
        | _ => .fail
      | _ => .fail
    | _, _, _ => .fail
  | _, _ => .fail

def appendE (P : Program) (T T2 : TypeId) (s x : AV) : Eff AV :=
  match Nat.beq T T2, P.underlying T with
  | true, some (.slice e) => match tyOf P 9 e, sizeAt P e, zeroCellsAt P e, (P.info? e).map (·.bytes) with
    | some t, some sz, some z, some by_ => match Nat.beq sz t.sz, Nat.ble 1 sz, Nat.ble 1 by_, Nat.beq z.length sz with
      | true, true, true, true => match s with
        | .v (.slice none 0 0) => moreE t x fun m => putRow e t by_ [] m
        | .own i => .rd i fun
          | .row e' t' l => match Nat.beq e' e, decEq t' t with
            | true, isTrue h => .wr i .gone (moreE t x fun m => putRow e t by_ (h ▸ l) m)
            | _, _ => .fail
          | .bts l => match decEq t (.int .u8), Nat.beq by_ 1, (P.info? e).bind (·.zero) with
            | isTrue _, true, some (.int .u8 0) => .wr i .gone (moreE (.int .u8) x fun m => putBts l m)
            | _, _, _ => .fail
          | _ => .fail
        | _ => .fail
      | _, _, _, _ => .fail
    | _, _, _, _ => .fail
  | false, some (.slice e) => appendZE P T2 e s x
  | _, _ => .fail

/-- One element that ends in a row of one's own (or in its numbers from a place on): the row stays outside. -/
def buildOneE (P : Program) (T n : Nat) (parts : List (Nat × AV)) (k : Eff AV) : Eff AV :=
  match n, parts with
  | 1, [(0, x)] => match P.underlying T, cellsOf x with
    | some (.slice e), some vs => match lastRow vs, tyOf P 9 e, sizeAt P e, zeroCellsAt P e with
      | some (fs, q, o), some t, some s, some z => match t.nest, Nat.beq s t.sz, Nat.beq z.length s, Nat.ble (1 * s) 16777216, Nat.ble 1 s, vs.all isCell with
        | true, true, true, true, true, true => .rd q fun
          | .row be b m => match decEq b t.inn, innOf P 9 e, Nat.beq o 0 || Nat.beq t.inn.sz 1 with
            | isTrue _, some be', true => match Nat.beq be be', t.dec (fs ++ [.con b m]) with
              | true, some y => .nw (.tre o none e be t [y] (some (0, q))) fun i => .ret (.own i)
              | _, _ => k
            | _, _, _ => k
          | _ => k
        | _, _, _, _, _, _ => k
      | _, _, _, _ => k
    | _, _ => k
  | _, _ => k

/-- Such an element appended. -/
def appendT (P : Program) (T T2 : TypeId) (s : AV) (p o e be : Nat) (t : Ty) (l' : List t.den) (q : Nat) : Eff AV :=
  match Nat.beq T T2, P.underlying T, l' with
  | true, some (.slice e'), [y] => match Nat.beq e' e, sizeAt P e, zeroCellsAt P e, (P.info? e).map (·.bytes) with
    | true, some sz, some z, some by_ => match Nat.beq sz t.sz, Nat.ble 1 by_, Nat.beq z.length sz with
      | true, true, true => match s with
        | .v (.slice none 0 0) => .br (0 + 1 ≤ 140737488355328 / by_) inferInstance (.wr p .gone (.nw (.tre o none e be t [y] (some (0, q))) fun i => .ret (.own i))) .fail
        | .own i => .rd i fun
          | .tre o2 none e2 be2 t2 l none => match Nat.beq e2 e, Nat.beq be2 be, decEq t2 t, Nat.beq i p, Nat.beq o2 o with
            | true, true, isTrue h, false, true => .br ((h ▸ l).length + 1 ≤ 140737488355328 / by_) inferInstance (.wr i .gone (.wr p .gone (.nw (.tre o none e be t ((h ▸ l) ++ [y]) (some ((h ▸ l).length, q))) fun i => .ret (.own i)))) .fail
            | _, _, _, _, _ => .fail
          | _ => .fail
        | _ => .fail
      | _, _, _ => .fail
    | _, _, _, _ => .fail
  | _, _, _ => .fail

def appendXE (P : Program) (T T2 : TypeId) (s x : AV) : Eff AV :=
  match x with
  | .own p => .rd p fun
    | .tre o none e be t l' (some (0, q)) => appendT P T T2 s p o e be t l' q
    | _ => appendE P T T2 s x
  | _ => appendE P T T2 s x

def minE (lt : Bool) : AV → AV → Eff AV
  | .v (.int k a), .v (.int _ b) => match lt with
    | true => .ret (.v (.int k (if b < a then b else a)))
    | false => .ret (.v (.int k (if a < b then b else a)))
  | _, _ => .fail

/-! ### What is handed over -/
/-- What a callee (or a point of a function) wants a value to be. -/
inductive RC where
  | val
  | bool
  | con (t : Ty)
  | row (e : TypeId) (t : Ty)
  | box (cs : List RC)
  | fn (f : FuncId) (n : Nat) (cs : List RC)
  | agg (cs : List RC)
  | tup (cs : List RC)
  | dead
  | elt (t : Ty)
  | mp (t : Ty)
  | bld (T : TypeId) (c : RC)
  | tre (o : Nat) (e be : TypeId) (t : Ty)
  | trs
  | sub (lo : Nat)

/-- What has been packed: where each entry stood, the entries, the rows that are lent. -/
structure PS where
  m : List (Option (Nat × Nat))
  H : List HE
  lent : List Nat

def findM (i : Nat) : Nat → List (Option (Nat × Nat)) → Option (Nat × Nat)
  | _, [] => none
  | k, some (j, off) :: r => match Nat.beq j i with
    | true => some (k, off)
    | false => findM i (k + 1) r
  | k, none :: r => findM i (k + 1) r

/-- Cells that are lent with the variable in which they stand. -/
def lendC {α : Type} : List AV → PS → (List AV → PS → Eff α) → Eff α
  | [], s, k => k [] s
  | .own j :: r, s, k => .rd j fun
    | .row _ t l => match findM j 0 s.m with
      | none => lendC r { s with lent := j :: s.lent } fun r' s' => k (.con t l :: r') s'
      | some _ => .fail
    | .tre o none _ _ t l none => match findM j 0 s.m with
      | none => lendC r { s with lent := j :: s.lent } fun r' s' => k (.con t (t.cut o l) :: r') s'
      | some _ => .fail
    | .frz t l => lendC r s fun r' s' => k (.con t l :: r') s'
    | _ => .fail
  | .v x :: r, s, k => lendC r s fun r' s' => k (.v x :: r') s'
  | .con t l :: r, s, k => lendC r s fun r' s' => k (.con t l :: r') s'
  | .bs ng b :: r, s, k => lendC r s fun r' s' => k (.bs ng b :: r') s'
  | .bp ng p d :: r, s, k => lendC r s fun r' s' => k (.bp ng p d :: r') s'
  | _ :: _, _, _ => .fail

mutual
def pk {α : Type} : RC → AV → PS → (AV → PS → Eff α) → Eff α
  | .val, a, s, k => match a with
    | .v x => k (.v x) s
    | .con t l => k (.con t l) s
    | .elt t x o => k (.elt t x o) s
    | _ => .fail
  | .bool, a, s, k => match boolOf a with
    | some b => k (.bs false b) s
    | none => .fail
  | .con t, a, s, k => match a with
    | .con t' l => k (.con t' l) s
    | .v (.slice none 0 0) => k (.con t []) s
    | .own i => .rd i fun
      | .row _ t' l => match findM i 0 s.m with
        | none => k (.con t' l) { s with lent := i :: s.lent }
        | some _ => .fail
      | .tre o none _ _ t' l none => match findM i 0 s.m with
        | none => k (.con t' (t'.cut o l)) { s with lent := i :: s.lent }
        | some _ => .fail
      | .frz t' l => k (.con t' l) s
      | _ => .fail
    | .sub i lo => .rd i fun
      | .row _ t' l => match findM i 0 s.m, Nat.beq t'.sz 1 with
        | none, true => k (.con t' (l.drop lo)) { s with lent := i :: s.lent }
        | _, _ => .fail
      | .frz t' l => match Nat.beq t'.sz 1 with
        | true => k (.con t' (l.drop lo)) s
        | false => .fail
      | _ => .fail
    | _ => .fail
  | .row e t, a, s, k => match a with
    | .own i => match findM i 0 s.m, s.lent.any (Nat.beq i) with
      | some (n, _), _ => k (.own n) s
      | none, true => .fail
      | none, false => .rd i fun
        | .row e' t' l => k (.own s.m.length) { s with m := s.m ++ [some (i, 0)], H := s.H ++ [.row e' t' l] }
        | .bts l => k (.own s.m.length) { s with m := s.m ++ [some (i, 0)], H := s.H ++ [.bts l] }
        | .tre o fr e' be t' l none => k (.own s.m.length) { s with m := s.m ++ [some (i, 0)], H := s.H ++ [.tre o fr e' be t' l none] }
        | _ => .fail
    | .v (.slice none 0 0) => k (.own s.m.length) { s with m := s.m ++ [none], H := s.H ++ [.row e t []] }
    | _ => .fail
  | .box rcs, a, s, k => match a with
    | .box i off => match findM i 0 s.m with
      | some (n, off') => match Nat.beq off off' with
        | true => k (.box n 0) s
        | false => .fail
      | none => .rd i fun
        | .box cs => match Nat.ble (off + rcs.length) cs.length, s.lent.any (Nat.beq i) with
          | true, false => pks rcs ((cs.drop off).take rcs.length) { s with m := s.m ++ [some (i, off)], H := s.H ++ [.gone] } fun cs' s' =>
              k (.box s.m.length 0) { s' with H := s'.H.set s.m.length (.box cs') }
          | _, _ => .fail
        | _ => .fail
    | _ => .fail
  | .fn f n rcs, a, s, k => match a with
    | .fn f' n' cs => match Nat.beq f f', Nat.beq n n', Nat.beq rcs.length cs.length with
      | true, true, true => pks rcs cs s fun cs' s' => k (.fn f n cs') s'
      | _, _, _ => .fail
    | _ => .fail
  | .agg rcs, a, s, k => match cellsOf a with
    | some cs => match Nat.beq rcs.length cs.length, a with
      | true, .agg _ => pks rcs cs s fun cs' s' => k (.agg cs') s'
      | true, .v (.agg _) => pks rcs cs s fun cs' s' => k (.agg cs') s'
      | _, _ => .fail
    | none => .fail
  | .tup rcs, a, s, k => match a with
    | .tup cs => match Nat.beq rcs.length cs.length with
      | true => pks rcs cs s fun cs' s' => k (.tup cs') s'
      | false => .fail
    | _ => .fail
  | .dead, _, s, k => k .dead s
  | .tre o e be t, a, s, k => match a with
    | .own i => match findM i 0 s.m, s.lent.any (Nat.beq i) with
      | some (n, _), _ => k (.own n) s
      | none, true => .fail
      | none, false => .rd i fun
        | .tre o' fr e' be' t' l none => k (.own s.m.length) { s with m := s.m ++ [some (i, 0)], H := s.H ++ [.tre o' fr e' be' t' l none] }
        | _ => .fail
    | .v (.slice none 0 0) => match t.nest, Nat.beq o 0 || Nat.beq t.inn.sz 1 with
      | true, true => k (.own s.m.length) { s with m := s.m ++ [none], H := s.H ++ [.tre o none e be t [] none] }
      | _, _ => .fail
    | _ => .fail
  | .trs, a, s, k => match a with
    | .own i => match findM i 0 s.m, s.lent.any (Nat.beq i) with
      | some (n, _), _ => k (.own n) s
      | none, true => .fail
      | none, false => .rd i fun
        | .tre o' fr e' be' t' l none => k (.own s.m.length) { s with m := s.m ++ [some (i, 0)], H := s.H ++ [.tre o' fr e' be' t' l none] }
        | _ => .fail
    | _ => .fail
  | .sub lo, a, s, k => match a with
    | .sub i lo' => match findM i 0 s.m, s.lent.any (Nat.beq i), Nat.beq lo' lo with
      | some (n, _), _, true => k (.sub n lo) s
      | none, false, true => .rd i fun
        | .row e' t' l => k (.sub s.m.length lo) { s with m := s.m ++ [some (i, 0)], H := s.H ++ [.row e' t' l] }
        | _ => .fail
      | _, _, _ => .fail
    | _ => .fail
  | .mp t, a, s, k => match a with
    | .mp i => match findM i 0 s.m, s.lent.any (Nat.beq i) with
      | some (n, _), _ => k (.mp n) s
      | none, true => .fail
      | none, false => .rd i fun
        | .mp t' f => k (.mp s.m.length) { s with m := s.m ++ [some (i, 0)], H := s.H ++ [.mp t' f] }
        | _ => .fail
    | _ => .fail
  | .bld T rc, a, s, k => match a with
    | .box i off => match findM i 0 s.m with
      | some (n, off') => match Nat.beq off off' with
        | true => k (.box n 0) s
        | false => .fail
      | none => .rd i fun
        | .bld T' c => match Nat.beq T T', Nat.beq off 0, s.lent.any (Nat.beq i) with
          | true, true, false => pk rc c { s with m := s.m ++ [some (i, off)], H := s.H ++ [.gone] } fun c' s' =>
              k (.box s.m.length 0) { s' with H := s'.H.set s.m.length (.bld T c') }
          | _, _, _ => .fail
        | _ => .fail
    | _ => .fail
  | .elt t, a, s, k => match a with
    | .elt t' x o => k (.elt t' x o) s
    | .box i off => match findM i 0 s.m with
      | some _ => .fail
      | none => .rd i fun
        | .box cs => match Nat.ble (off + t.sz) cs.length with
          | true => lendC ((cs.drop off).take t.sz) s fun cs' s' => match t.dec cs' with
            | some x => k (.elt t x 0) { s' with lent := i :: s'.lent }
            | none => .fail
          | false => .fail
        | _ => .fail
    | _ => .fail
def pks {α : Type} : List RC → List AV → PS → (List AV → PS → Eff α) → Eff α
  | [], [], s, k => k [] s
  | c :: rcs, a :: as, s, k => pk c a s fun a' s' => pks rcs as s' fun as' s'' => k (a' :: as') s''
  | _, _, _, _ => .fail
end
end Go.Proofs.YtommgpkeicpokaaGreatDoor.Abs
