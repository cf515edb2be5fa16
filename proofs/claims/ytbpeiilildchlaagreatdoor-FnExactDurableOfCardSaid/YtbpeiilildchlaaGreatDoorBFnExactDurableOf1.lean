/- The abstract machine: values without addresses, effects, an interpreter of the program's own code. Definitions alone. (Merged out of this claim's own texts.) -/
import Derived.Below
import Derived.Orders
import Derived.Laws.AppendOwn
import Derived.Laws.OwnMore
import Derived.KernelRfl
import Derived.Still
import Derived.Maps.OwnOps
import Derived.WalkKit
import Derived.Lib.ConvBytes
import Derived.Laws.StructEq
import Derived.IntWalk
import Derived.WalkLawsBesides
namespace Go.Proofs.YtbpeiilildchlaaGreatDoor.Abs
open Go Go.RowKit
set_option linter.unusedVariables false
set_option linter.unusedSectionVars false
set_option linter.unusedSimpArgs false

inductive Ty where
  | int (k : IntKind)
  | bool
  | str
  | sl (t : Ty)
  | pair (a b : Ty)
  deriving DecidableEq

def Ty.den : Ty → Type
  | .int _ => Int
  | .bool => Bool
  | .str => ByteArray
  | .sl t => List t.den
  | .pair a b => a.den × b.den

def Ty.zero : (t : Ty) → t.den
  | .int _ => (0 : Int)
  | .bool => false
  | .str => (⟨#[]⟩ : ByteArray)
  | .sl _ => []
  | .pair a b => (a.zero, b.zero)

def Ty.sz : Ty → Nat
  | .pair a b => a.sz + b.sz
  | _ => 1

/-- Abstract values. -/
inductive AV where
  | v (x : Value)
  | con (t : Ty) (l : List t.den)
  | own (i : Nat)
  | box (i off : Nat)
  | elt (t : Ty) (x : t.den) (off : Nat)
  | oel (i sz j off : Nat)
  | mp (i : Nat)
  | sub (i lo : Nat)
  | fn (f : FuncId) (n : Nat) (cs : List AV)
  | agg (cs : List AV)
  | tup (cs : List AV)
  | bs (ng b : Bool)
  | bp (ng : Bool) (p : Prop) (d : Decidable p)
  | ifc (n : Bool)
  | dead

/-- A type whose last cell is a slice: the type of that slice's elements, the slice, the slice changed. -/
def Ty.nest : Ty → Bool
  | .sl _ => true
  | .pair _ b => b.nest
  | _ => false
def Ty.inn : Ty → Ty
  | .sl b => b
  | .pair _ b => b.inn
  | t => t
def Ty.get : (t : Ty) → t.den → List t.inn.den
  | .sl _, l => l
  | .pair _ b, x => b.get x.2
  | .int _, _ => []
  | .bool, _ => []
  | .str, _ => []
def Ty.put : (t : Ty) → t.den → List t.inn.den → t.den
  | .sl _, _, m => m
  | .pair _ b, x, m => (x.1, b.put x.2 m)
  | .int _, x, _ => x
  | .bool, x, _ => x
  | .str, x, _ => x

/-- Entries of the abstract heap. -/
inductive HE where
  | unused
  | gone
  | box (cs : List AV)
  | row (e : TypeId) (t : Ty) (l : List t.den)
  | frz (t : Ty) (l : List t.den)
  | mp (t : Ty) (f : Int → Option t.den)
  | bts (l : List Int)
  | bld (T : TypeId) (c : AV)
  | tre (o : Nat) (fr : Option Nat) (e be : TypeId) (t : Ty) (l : List t.den) (cur : Option (Nat × Nat))

def Ty.cells : (t : Ty) → t.den → List AV
  | .int k, x => [.v (.int k x)]
  | .bool, x => [.bs false x]
  | .str, x => [.v (.string x)]
  | .sl t, x => [.con t x]
  | .pair a b, x => a.cells x.1 ++ b.cells x.2

/-- .. all but the last. -/
def Ty.flat : (t : Ty) → t.den → List AV
  | .pair a b, x => a.cells x.1 ++ b.flat x.2
  | .sl _, _ => []
  | .int _, _ => []
  | .bool, _ => []
  | .str, _ => []

/-- What cells say at a type. -/
def Ty.dec : (t : Ty) → List AV → Option t.den
  | .int k, cs => match cs with
    | [.v (.int k' x)] => match decEq k' k with | isTrue _ => some x | isFalse _ => none
    | _ => none
  | .bool, cs => match cs with
    | [.v (.bool b)] => some b
    | [.bs false b] => some b
    | [.bs true b] => some (!b)
    | [.bp false p d] => some (@decide p d)
    | [.bp true p d] => some (!@decide p d)
    | _ => none
  | .str, cs => match cs with
    | [.v (.string s)] => some s
    | _ => none
  | .sl t, cs => match cs with
    | [.con t' l] => match decEq t' t with | isTrue h => some (h ▸ l) | isFalse _ => none
    | [.v (.slice none 0 0)] => some []
    | _ => none
  | .pair a b, cs => match a.dec (cs.take a.sz) with
    | some x => match b.dec (cs.drop a.sz) with
      | some y => some (x, y)
      | none => none
    | none => none

/-- From which element on an entry's elements are known. -/
abbrev frN : Option Nat → Nat
  | none => 0
  | some k => k

/-- What an entry says but for whether a part of it is out; and that. -/
def strip : HE → HE
  | .tre o fr e be t l _ => .tre o fr e be t l none
  | h => h
def outOf : HE → Option (Nat × Nat)
  | .tre _ _ _ _ _ _ c => c
  | _ => none
def setCur (c : Option (Nat × Nat)) : HE → HE
  | .tre o fr e be t l _ => .tre o fr e be t l c
  | h => h

/-- What an operation does, step by step. (rdS: an entry read but for what is out; wrS: that alone written.) -/
inductive Eff (α : Type) : Type 1 where
  | ret (a : α)
  | fail
  | rd (i : Nat) (k : HE → Eff α)
  | wr (i : Nat) (h : HE) (k : Eff α)
  | nw (h : HE) (k : Nat → Eff α)
  | br (c : Prop) (d : Decidable c) (t e : Eff α)
  | gd (c : Prop) (d : Decidable c) (e : Eff α)
  | opt (X : Type) (o : Option X) (k : X → Eff α)
  | rdS (i : Nat) (k : HE → Eff α)
  | wrS (i : Nat) (c : Option (Nat × Nat)) (k : Eff α)

namespace Eff
def bind {α β : Type} : Eff α → (α → Eff β) → Eff β
  | .ret a, f => f a
  | .fail, _ => .fail
  | .rd i k, f => .rd i fun h => (k h).bind f
  | .wr i h k, f => .wr i h (k.bind f)
  | .nw h k, f => .nw h fun i => (k i).bind f
  | .br c d t e, f => .br c d (t.bind f) (e.bind f)
  | .gd c d e, f => .gd c d (e.bind f)
  | .opt X o k, f => .opt X o fun x => (k x).bind f
  | .rdS i k, f => .rdS i fun h => (k h).bind f
  | .wrS i c k, f => .wrS i c (k.bind f)
end Eff

def upd {β : Type} (f : Nat → β) (i : Nat) (x : β) : Nat → β := fun j => match Nat.beq j i with
  | true => x
  | false => f j

abbrev Heap := Nat → HE

/-- Carries it out: base: the next number for a new entry; what was read and written is told (of entry i: 2 i: what it says; 2 i + 1: what is out). -/
def Eff.go {α R : Type} : Eff α → Nat → Heap → List Nat → List Nat → (α → Nat → Heap → List Nat → List Nat → Option R) → Option R
  | .ret a, b, hp, rs, ws, K => K a b hp rs ws
  | .fail, _, _, _, _, _ => none
  | .rd i k, b, hp, rs, ws, K => (k (hp i)).go b hp (2 * i :: (2 * i + 1) :: rs) ws K
  | .wr i h k, b, hp, rs, ws, K => k.go b (upd hp i h) rs (2 * i :: (2 * i + 1) :: ws) K
  | .nw h k, b, hp, rs, ws, K => match hp b with
    | .unused => (k b).go (b + 1) (upd hp b h) rs (2 * b :: (2 * b + 1) :: ws) K
    | _ => none
  | .br c d t e, b, hp, rs, ws, K => @ite _ c d (t.go b hp rs ws K) (e.go b hp rs ws K)
  | .gd _ d e, b, hp, rs, ws, K => match d with
    | isFalse _ => e.go b hp rs ws K
    | isTrue _ => none
  | .opt _ o k, b, hp, rs, ws, K => o.bind fun x => (k x).go b hp rs ws K
  | .rdS i k, b, hp, rs, ws, K => (k (strip (hp i))).go b hp (2 * i :: rs) ws K
  | .wrS i c k, b, hp, rs, ws, K => k.go b (upd hp i (setCur c (hp i))) (2 * i :: rs) ((2 * i + 1) :: ws) K

/-! ### Types of the program -/
def isAgg (P : Program) (t : TypeId) : Option Bool :=
  match P.underlying t with
  | some (.struct _) => some true
  | some (.array _ _) => some true
  | some _ => some false
  | none => none

def sizeAt (P : Program) (t : TypeId) : Option Nat := (P.info? t).map (·.size)

def mkPair : List Ty → Option Ty
  | [] => none
  | [t] => some t
  | t :: ts => match mkPair ts with
    | some r => some (.pair t r)
    | none => none

def tyOf (P : Program) : Nat → TypeId → Option Ty
  | 0, _ => none
  | n + 1, T => match P.underlying T with
    | some (.int k) => some (.int k)
    | some .bool => some .bool
    | some .string => some .str
    | some (.slice e) => match tyOf P n e with
      | some t => some (.sl t)
      | none => none
    | some (.struct fs) => match fs.toList.mapM fun f => tyOf P n f.type with
      | some ts => mkPair ts
      | none => none
    | _ => none

/-! ### Operations -/
def ev (tm : Nat → AV) : Operand → AV
  | .tmp t => tm t
  | .const x => .v x
  | .global g => .v (.pointer (some ⟨g, 0, none⟩))
  | .func f => .fn f 0 []

def isCell : AV → Bool
  | .v (.agg _) => false
  | .v (.tuple _) => false
  | .agg _ => false
  | .tup _ => false
  | .dead => false
  | _ => true

/-- The cells of a value. -/
def cellsOf : AV → Option (List AV)
  | .v (.agg cs) => some (cs.toList.map .v)
  | .v (.tuple _) => none
  | .agg cs => some cs
  | .tup _ => none
  | .dead => none
  | a => some [a]

/-- A value out of cells. -/
def shut (agg : Option Bool) (cs : List AV) : Eff AV :=
  match agg with
  | some true => .ret (.agg cs)
  | some false => match cs with
    | [c] => .ret c
    | _ => .fail
  | none => .fail

def finLoad (P : Program) (T : TypeId) (cs : List AV) (off : Nat) : Eff AV :=
  match sizeAt P T with
  | none => .fail
  | some n => match Nat.ble (off + n) cs.length with
    | true => shut (isAgg P T) ((cs.drop off).take n)
    | false => .fail

/-- The cell of an element whose row is the entry q: the row itself, or its numbers from a place on. -/
def lastCell (o q : Nat) : AV := match o with
  | 0 => .own q
  | o + 1 => .sub q (o + 1)
/-- Elements before a place are forgotten. -/
def needFr {α : Type} (fr : Option Nat) (j : Nat) (e : Eff α) : Eff α := match fr with
  | none => e
  | some f => .br (f ≤ j) inferInstance e .fail

def loadE (P : Program) (T : TypeId) : AV → Eff AV
  | .box i off => .rd i fun
    | .box cs => finLoad P T cs off
    | _ => .fail
  | .elt t x off => finLoad P T (t.cells x) off
  | .oel i sz j off => .rd i fun
    | .row _ t l => match Nat.beq sz t.sz with
      | true => finLoad P T (t.cells (l.getD j t.zero)) off
      | false => .fail
    | .frz t l => match Nat.beq sz t.sz with
      | true => finLoad P T (t.cells (l.getD j t.zero)) off
      | false => .fail
    | .bts l => match Nat.beq sz 1 with
      | true => finLoad P T [.v (.int .u8 (l.getD j 0))] off
      | false => .fail
    | .tre o fr e be t l cur => match Nat.beq sz t.sz, sizeAt P T with
      | true, some n => match Nat.ble (off + n + 1) t.sz with
        | true => finLoad P T (t.flat (l.getD j t.zero)) off
        | false => match cur with
          | none => needFr fr j (.nw (.row be t.inn (t.get (l.getD j t.zero))) fun q => .wrS i (some (j, q)) (finLoad P T (t.flat (l.getD j t.zero) ++ [lastCell o q]) off))
          | some _ => .fail
      | _, _ => .fail
    | _ => .fail
  | _ => .fail

/-- .. out of a variable of its own alone. -/
def loadB (P : Program) (T : TypeId) : AV → Eff AV
  | .box i off => loadE P T (.box i off)
  | .elt t x off => loadE P T (.elt t x off)
  | _ => .fail

/-- The last of some cells, where it is a row of one's own. -/
def lastOwn : List AV → Option (List AV × Nat)
  | [] => none
  | [.own q] => some ([], q)
  | c :: cs => match lastOwn cs with
    | some (r, q) => some (c :: r, q)
    | none => none

/-- .. or its numbers from a place on: the place. -/
def lastRow : List AV → Option (List AV × Nat × Nat)
  | [] => none
  | [.own q] => some ([], q, 0)
  | [.sub q (o + 1)] => some ([], q, o + 1)
  | c :: cs => match lastRow cs with
    | some (r, q, o) => some (c :: r, q, o)
    | none => none

/-- Elements as they are read: of each row the part from a place on. -/
def Ty.cut (t : Ty) (o : Nat) (l : List t.den) : List t.den := match o with
  | 0 => l
  | o + 1 => l.map fun x => t.put x ((t.get x).drop (o + 1))

/-- Rows that cells lead to are written no more. -/
def settle : List AV → Eff (List AV)
  | [] => .ret []
  | .own i :: cs => .rd i fun
    | .row _ t l => .wr i (.frz t l) ((settle cs).bind fun r => .ret (.con t l :: r))
    | .frz t l => (settle cs).bind fun r => .ret (.con t l :: r)
    | _ => .fail
  | .sub i lo :: cs => .rd i fun
    | .row _ t l => match Nat.beq t.sz 1 with
      | true => .wr i (.frz t l) ((settle cs).bind fun r => .ret (.con t (l.drop lo) :: r))
      | false => .fail
    | .frz t l => match Nat.beq t.sz 1 with
      | true => (settle cs).bind fun r => .ret (.con t (l.drop lo) :: r)
      | false => .fail
    | _ => .fail
  | c :: cs => (settle cs).bind fun r => .ret (c :: r)

def splice (cs : List AV) (off : Nat) (vs : List AV) : List AV := cs.take off ++ vs ++ cs.drop (off + vs.length)

def isTre : HE → Bool
  | .tre _ _ _ _ _ _ _ => true
  | _ => false

/-- A row of one's own goes into an element. -/
def absorbE (P : Program) (i sz j off : Nat) (vs : List AV) : Eff AV :=
  match lastOwn vs with
  | none => .fail
  | some (fs, q) => .rd q fun
    | .row be' b m => .rd i fun
      | .tre 0 none e be t l cur => match Nat.beq be' be, decEq b t.inn, t.nest, Nat.beq sz t.sz, Nat.beq (off + vs.length) t.sz, Nat.beq q i with
        | true, isTrue _, true, true, true, false => match t.dec (splice (t.flat (l.getD j t.zero)) off fs ++ [.con b m]) with
          | some y => match cur, Nat.beq off 0 with
            | none, false => .wr i (.tre 0 none e be t (l.set j y) (some (j, q))) (.ret (.v undef))
            | some (j', _), false => .br (j' = j) inferInstance (.wr i (.tre 0 none e be t (l.set j y) (some (j, q))) (.ret (.v undef))) .fail
            | none, true => .wr q .gone (.wr i (.tre 0 none e be t (l.set j y) none) (.ret (.v undef)))
            | some (j', _), true => .br (j' = j) inferInstance (.wr q .gone (.wr i (.tre 0 none e be t (l.set j y) none) (.ret (.v undef)))) .fail
          | none => .fail
        | _, _, _, _, _, _ => .fail
      | _ => .fail
    | _ => .fail

def storeE (P : Program) (T : TypeId) (a x : AV) : Eff AV :=
  match cellsOf x with
  | none => .fail
  | some vs => match vs.all isCell, sizeAt P T with
    | true, some (n + 1) => match Nat.beq vs.length (n + 1) with
      | true => match a with
        | .box i off => .rd i fun
          | .box cs => match Nat.ble (off + (n + 1)) cs.length with
            | true => .wr i (.box (splice cs off vs)) (.ret (.v undef))
            | false => .fail
          | _ => .fail
        | .oel i sz j off => .rd i fun h => match isTre h, lastOwn vs with
         | true, some _ => absorbE P i sz j off vs
         | _, _ => (settle vs).bind fun vs => .rd i fun
          | .row e t l => match Nat.beq sz t.sz, Nat.ble (off + vs.length) t.sz, t.dec (splice (t.cells (l.getD j t.zero)) off vs) with
            | true, true, some y => .wr i (.row e t (l.set j y)) (.ret (.v undef))
            | _, _, _ => .fail
          | .bts l => match Nat.beq sz 1, Nat.beq off 0, vs with
            | true, true, [.v (.int .u8 y)] => .wr i (.bts (l.set j y)) (.ret (.v undef))
            | _, _, _ => .fail
          | .tre o fr e be t l cur => match Nat.beq sz t.sz, Nat.ble (off + vs.length + 1) t.sz, t.dec (splice (t.flat (l.getD j t.zero)) off vs ++ [.con t.inn (t.get (l.getD j t.zero))]) with
            | true, true, some y => .wr i (.tre o fr e be t (l.set j y) cur) (.ret (.v undef))
            | _, _, _ => .fail
          | _ => .fail
        | _ => .fail
      | false => .fail
    | _, _ => .fail

def zeroCellsAt (P : Program) (T : TypeId) : Option (List AV) :=
  match (P.info? T).bind (·.zero) with
  | some z => cellsOf (.v z)
  | none => none

/-- A variable whose first cell is a pointer to itself, or none. -/
def isBld (P : Program) (T : TypeId) : Bool :=
  match P.underlying T with
  | some (.struct fs) => match fs.toList with
    | [a, _] => match P.underlying a.type with
      | some (.pointer T') => Nat.beq T' T
      | _ => false
    | _ => false
  | _ => false

def allocE (P : Program) (T : TypeId) : Eff AV :=
  match zeroCellsAt P T with
  | some cs => match isBld P T, cs with
    | true, [.v (.pointer none), c] => .nw (.bld T c) fun i => .ret (.box i 0)
    | true, _ => .fail
    | false, _ => .nw (.box cs) fun i => .ret (.box i 0)
  | none => .fail

def boxE (x : AV) : Eff AV :=
  match cellsOf x with
  | some cs => match cs.all isCell with
    | true => .nw (.box cs) fun i => .ret (.box i 0)
    | false => .fail
  | none => .fail

/-- Parts laid into cells. -/
def fillA (place : Nat → Option (Nat × Nat)) : List AV → List (Nat × AV) → Option (List AV)
  | cs, [] => some cs
  | cs, (i, x) :: r => match place i, cellsOf x with
    | some (off, n), some vs => match Nat.beq vs.length n, Nat.ble (off + n) cs.length with
      | true, true => fillA place (splice cs off vs) r
      | _, _ => none
    | _, _ => none

def placesOf (P : Program) (fs : Array Field) : Option (List (Nat × Nat)) := fs.toList.mapM fun f => (P.info? f.type).map fun i => (f.offset, i.size)

def buildE (P : Program) (T : TypeId) (parts : List (Nat × AV)) : Eff AV :=
  match P.underlying T, zeroCellsAt P T with
  | some (.struct fs), some z => match placesOf P fs with
    | some pl => match fillA (fun i => pl[i]?) z parts with
      | some cs => .ret (.agg cs)
      | none => .fail
    | none => .fail
  | _, _ => .fail

def decL (t : Ty) : Nat → List AV → Option (List t.den)
  | 0, cs => match cs with
    | [] => some []
    | _ :: _ => none
  | n + 1, cs => match t.dec (cs.take t.sz), decL t n (cs.drop t.sz) with
    | some x, some r => some (x :: r)
    | _, _ => none

def repl : Nat → List AV → List AV
  | 0, _ => []
  | n + 1, z => repl n z ++ z

def buildSliceE (P : Program) (T : TypeId) (n : Nat) (parts : List (Nat × AV)) : Eff AV :=
  match P.underlying T with
  | some (.slice e) => match tyOf P 9 e, sizeAt P e, zeroCellsAt P e with
    | some t, some s, some z => match Nat.beq s t.sz, Nat.beq z.length s, Nat.ble (n * s) 16777216, Nat.ble 1 s with
      | true, true, true, true => match fillA (fun i => some (i * s, s)) (repl n z) parts with
        | some cs => (settle cs).bind fun cs => match decL t n cs with
          | some l => .nw (.row e t l) fun i => .ret (.own i)
          | none => .fail
        | none => .fail
      | _, _, _, _ => .fail
    | _, _, _ => .fail
  | _ => .fail

def fieldOff (P : Program) (S : TypeId) (f : Nat) : Option Nat :=
  match P.underlying S with
  | some (.struct fs) => match fs[f]? with
    | some f => match sizeAt P f.type with
      | some (_ + 1) => some f.offset
      | _ => none
    | none => none
  | _ => none

def fieldAddrE (P : Program) (S : TypeId) (a : AV) (f : Nat) : Eff AV :=
  match fieldOff P S f with
  | some o => match a with
    | .box i off => .ret (.box i (off + o))
    | .elt t x off => .ret (.elt t x (off + o))
    | .oel i sz j off => .ret (.oel i sz j (off + o))
    | _ => .fail
  | none => .fail

def fieldE (P : Program) (S : TypeId) (a : AV) (f : Nat) : Eff AV :=
  match P.underlying S with
  | some (.struct fs) => match fs[f]? with
    | some f => match cellsOf a, a with
      | some cs, .agg _ => finLoad P f.type cs f.offset
      | some cs, .v (.agg _) => finLoad P f.type cs f.offset
      | _, _ => .fail
    | none => .fail
  | _ => .fail

/-- A byte of a string. -/
def byteAt (s : ByteArray) (i : Int) : Int := if h : i.toNat < s.size then ((s[i.toNat]'h).toNat : Int) else 0

def indexE (P : Program) (T : TypeId) (x i : AV) : Eff AV :=
  match P.underlying T, x, i with
  | some .string, .v (.string s), .v (.int _ n) => .br (0 ≤ n) inferInstance (.br (n < (s.size : Int)) inferInstance (.ret (.v (.int .u8 (byteAt s n)))) .fail) .fail
  | _, _, _ => .fail

def indexAddrE (P : Program) (T : TypeId) (x i : AV) : Eff AV :=
  match P.underlying T, i with
  | some (.slice e), .v (.int _ n) => match sizeAt P e, x with
    | some s, .con t l => match Nat.beq s t.sz with
      | true => .br (0 ≤ n) inferInstance (.br (n < (l.length : Int)) inferInstance (.ret (.elt t (l.getD n.toNat t.zero) 0)) .fail) .fail
      | false => .fail
    | some s, .own r => .rd r fun
      | .row _ t l => match Nat.beq s t.sz with
        | true => .br (0 ≤ n) inferInstance (.br (n < (l.length : Int)) inferInstance (.ret (.oel r t.sz n.toNat 0)) .fail) .fail
        | false => .fail
      | .frz t l => match Nat.beq s t.sz with
        | true => .br (0 ≤ n) inferInstance (.br (n < (l.length : Int)) inferInstance (.ret (.elt t (l.getD n.toNat t.zero) 0)) .fail) .fail
        | false => .fail
      | .bts l => match Nat.beq s 1 with
        | true => .br (0 ≤ n) inferInstance (.br (n < (l.length : Int)) inferInstance (.ret (.oel r 1 n.toNat 0)) .fail) .fail
        | false => .fail
      | .tre _ _ _ _ t l _ => match Nat.beq s t.sz with
        | true => .br (0 ≤ n) inferInstance (.br (n < (l.length : Int)) inferInstance (.ret (.oel r t.sz n.toNat 0)) .fail) .fail
        | false => .fail
      | _ => .fail
    | some s, .sub r lo => .rd r fun
      | .row _ t l => match Nat.beq s t.sz, Nat.beq t.sz 1 with
        | true, true => .br (0 ≤ n) inferInstance (.br (n < ((l.length - lo : Nat) : Int)) inferInstance (.ret (.oel r t.sz (lo + n.toNat) 0)) .fail) .fail
        | _, _ => .fail
      | _ => .fail
    | _, _ => .fail
  | _, _ => .fail

/-- Wraparound, in the words that proofs use. -/
def wrp : IntKind → Int → Int
  | .i64, n => wrap64 n
  | .u8, n => n % 256
  | k, n => k.wrap n

def shlA (k : IntKind) (x y : Int) : Int := k.wrap (x * 2 ^ min y.toNat k.bits)
def shrA (k : IntKind) (x y : Int) : Int := x / 2 ^ min y.toNat k.bits
def andA (k : IntKind) (x y : Int) : Int := k.wrap (BitVec.ofInt k.bits x &&& BitVec.ofInt k.bits y).toNat
def orA (k : IntKind) (x y : Int) : Int := k.wrap (BitVec.ofInt k.bits x ||| BitVec.ofInt k.bits y).toNat
def xorA (k : IntKind) (x y : Int) : Int := k.wrap (BitVec.ofInt k.bits x ^^^ BitVec.ofInt k.bits y).toNat
def andNotA (k : IntKind) (x y : Int) : Int := k.wrap (BitVec.ofInt k.bits x &&& ~~~ BitVec.ofInt k.bits y).toNat

/-- 'no' where a condition holds that is mostly closed. -/
def guardE (c : Prop) [Decidable c] (e : Eff AV) : Eff AV := .gd c inferInstance e

def intOpE (op : BinOp) (k : IntKind) (a b : Int) : Eff AV :=
  match op with
  | .add => .ret (.v (.int k (wrp k (a + b))))
  | .sub => .ret (.v (.int k (wrp k (a - b))))
  | .mul => .ret (.v (.int k (wrp k (a * b))))
  | .quo => guardE (b = 0) (.ret (.v (.int k (wrp k (a.tdiv b)))))
  | .rem => guardE (b = 0) (.ret (.v (.int k (a.tmod b))))
  | .and => .ret (.v (.int k (andA k a b)))
  | .or => .ret (.v (.int k (orA k a b)))
  | .xor => .ret (.v (.int k (xorA k a b)))
  | .andNot => .ret (.v (.int k (andNotA k a b)))
  | .eql => .ret (.bp false (a = b) inferInstance)
  | .neq => .ret (.bp true (a = b) inferInstance)
  | .lss => .ret (.bp false (a < b) inferInstance)
  | .leq => .ret (.bp false (a ≤ b) inferInstance)
  | .gtr => .ret (.bp false (a > b) inferInstance)
  | .geq => .ret (.bp false (a ≥ b) inferInstance)
  | _ => .fail

def strOpE (op : BinOp) (a b : ByteArray) : Eff AV :=
  match op with
  | .add => .br (a.size + b.size ≤ 9223372036854775807) inferInstance (.ret (.v (.string (a ++ b)))) .fail
  | .eql => .ret (.bp false (a.toList = b.toList) inferInstance)
  | .neq => .ret (.bp true (a.toList = b.toList) inferInstance)
  | _ => .fail

/-- A bool as Lean has it. -/
def boolOf : AV → Option Bool
  | .v (.bool b) => some b
  | .bs false b => some b
  | .bs true b => some (!b)
  | .bp false p d => some (@decide p d)
  | .bp true p d => some (!@decide p d)
  | _ => none

/-- A question that can be decided. -/
structure DP where
  p : Prop
  d : Decidable p

def eqOne (P : Program) (T : TypeId) (x y : AV) : Option DP :=
  match P.underlying T with
  | some (.int _) => match x, y with
    | .v (.int k a), .v (.int k' b) => match decEq k k' with
      | isTrue _ => some ⟨a = b, inferInstance⟩
      | isFalse _ => none
    | _, _ => none
  | some .string => match x, y with
    | .v (.string a), .v (.string b) => some ⟨a.toList = b.toList, inferInstance⟩
    | _, _ => none
  | some .bool => match boolOf x, boolOf y with
    | some a, some b => some ⟨a = b, inferInstance⟩
    | _, _ => none
  | _ => none

/-- Are the fields the same, one behind the other? -/
def eqFieldsA (P : Program) (xs ys : List AV) : List Field → Option DP
  | [] => none
  | f :: fs => match decEq f.name "_" with
    | isTrue _ => none
    | isFalse _ => match xs[f.offset]?, ys[f.offset]? with
      | some x, some y => match eqOne P f.type x y with
        | some a => match fs with
          | [] => some a
          | _ :: _ => match eqFieldsA P xs ys fs with
            | some b => some ⟨a.p ∧ b.p, @instDecidableAnd a.p b.p a.d b.d⟩
            | none => none
        | none => none
      | _, _ => none

def eqAggE (P : Program) (op : BinOp) (T : TypeId) (x y : AV) : Eff AV :=
  match x, y with
  | .agg xs, .agg ys => match P.underlying T with
    | some (.struct fs) => match P.stoodInHeld T, P.eqGuardType P.depth T, eqFieldsA P xs ys fs.toList with
      | false, false, some a => match op with
        | .eql => .ret (.bp false a.p a.d)
        | .neq => .ret (.bp true a.p a.d)
        | _ => .fail
      | _, _, _ => .fail
    | _ => .fail
  | _, _ => .fail

def binE (P : Program) (op : BinOp) (T : TypeId) (x y : AV) : Eff AV :=
  match op, x, y with
  | .shl, .v (.int k a), .v (.int _ b) => guardE (b < 0) (.ret (.v (.int k (shlA k a b))))
  | .shr, .v (.int k a), .v (.int _ b) => guardE (b < 0) (.ret (.v (.int k (shrA k a b))))
  | op, .v (.int k a), .v (.int k' b) => match decEq k k' with
    | isTrue _ => intOpE op k a b
    | isFalse _ => .fail
  | op, .v (.string a), .v (.string b) => strOpE op a b
  | op, x, y => match boolOf x, boolOf y with
    | some a, some b => match P.underlying T with
      | some .bool => match op with
        | .eql => .ret (.bp false (a = b) inferInstance)
        | .neq => .ret (.bp true (a = b) inferInstance)
        | _ => .fail
      | _ => .fail
    | _, _ => eqAggE P op T x y

/-- Is an interface's value nil? -/
def ifcE (P : Program) (op : BinOp) (T : TypeId) (x : AV) : Eff AV :=
  match P.underlying T, x with
  | some (.interface _), .ifc n => match op with
    | .eql => .ret (.bs false n)
    | .neq => .ret (.bs true n)
    | _ => .fail
  | _, _ => .fail

def unE (op : UnOp) (x : AV) : Eff AV :=
  match op, x with
  | .neg, .v (.int k n) => .ret (.v (.int k (wrp k (0 - n))))
  | .xor, .v (.int k n) => .ret (.v (.int k (xorA k (if k.signed then -1 else k.max) n)))
  | .not, .v (.bool b) => .ret (.v (.bool (!b)))
  | .not, .bs ng b => .ret (.bs (!ng) b)
  | .not, .bp ng p d => .ret (.bp (!ng) p d)
  | _, _ => .fail

/-- The bytes of a row of numbers. -/
def strOf (l : List Int) : ByteArray := ⟨(l.map fun n => UInt8.ofNat n.toNat).toArray⟩
def numsOf (s : ByteArray) : List Int := s.data.toList.map fun b => (b.toNat : Int)

def convE (P : Program) (S T : TypeId) (x : AV) : Eff AV :=
  match P.underlying S, P.underlying T, x with
  | some (.int _), some (.int k), .v (.int _ n) => .ret (.v (.int k (wrp k n)))
  | some .string, some .string, .v (.string s) => .ret (.v (.string s))
  | some (.slice e), some .string, x => match P.underlying e, x with
    | some (.int .u8), .con (.int .u8) l => .ret (.v (.string (strOf l)))
    | some (.int .u8), .v (.slice none 0 0) => .ret (.v (.string (strOf [])))
    | some (.int .u8), .own i => .rd i fun
      | .row _ (.int .u8) l => .ret (.v (.string (strOf l)))
      | .frz (.int .u8) l => .ret (.v (.string (strOf l)))
      | .bts l => .ret (.v (.string (strOf l)))
      | _ => .fail
    | _, _ => .fail
  | _, _, _ => .fail

/-- []byte(s). -/
def isBytesConv (P : Program) (S T : TypeId) : Bool :=
  match P.underlying S, P.underlying T with
  | some .string, some (.slice e) => match P.underlying e with
    | some (.int .u8) => true
    | _ => false
  | _, _ => false

def bytesE (x : AV) : Eff AV :=
  match x with
  | .v (.string s) => .nw (.bts (numsOf s)) fun i => .ret (.own i)
  | _ => .fail

def conv2E (P : Program) (S T : TypeId) (x : AV) : Eff AV :=
  match isBytesConv P S T with
  | true => bytesE x
  | false => convE P S T x

/-! ### Maps whose keys are int64 -/
def Ty.val1 : (t : Ty) → Value → Option t.den
  | .int k, .int k' n => match decEq k' k with
    | isTrue _ => some n
    | isFalse _ => none
  | .bool, .bool b => some b
  | .str, .string s => some s
  | _, _ => none

def Ty.enc1 : (t : Ty) → t.den → Value
  | .int k, x => .int k x
  | .bool, x => .bool x
  | .str, x => .string x
  | _, _ => undef

structure MapTy where
  V : TypeId
  t : Ty
  z : t.den

/-- The value type of a map, with its zero. -/
def mapTy (P : Program) (T : TypeId) : Option MapTy :=
  match P.underlying T with
  | some (.map K V) => match P.underlying K, tyOf P 9 V, (P.info? V).bind (·.zero) with
    | some (.int .i64), some t, some z => match t.val1 z with
      | some z => some ⟨V, t, z⟩
      | none => none
    | _, _, _ => none
  | _ => none

def mput {α : Type} (f : Int → Option α) (n : Int) (v : α) : Int → Option α := fun m => if m = n then some v else f m

def makeMapE (P : Program) (T : TypeId) : Eff AV :=
  match mapTy P T with
  | some m => .nw (.mp m.t fun _ => none) fun i => .ret (.mp i)
  | none => .fail

def mapPutE (P : Program) (T : TypeId) (m k x : AV) : Eff AV :=
  match mapTy P T, m, k, cellsOf x with
  | some mt, .mp i, .v (.int .i64 n), some cs => .rd i fun
    | .mp t f => match decEq t mt.t, cs.all isCell, t.dec cs with
      | isTrue _, true, some v => match x with
        | .v (.agg _) => .fail
        | .agg _ => .fail
        | _ => .wr i (.mp t (mput f n v)) (.ret (.v undef))
      | _, _, _ => .fail
    | _ => .fail
  | _, _, _, _ => .fail

def lookupE (P : Program) (T : TypeId) (m k : AV) : Eff AV :=
  match mapTy P T, m, k with
  | some mt, .mp i, .v (.int .i64 n) => .rd i fun
    | .mp t f => match decEq mt.t t with
      | isTrue h => match t.cells ((f n).getD (h ▸ mt.z)) with
        | [c] => .ret c
        | _ => .fail
      | isFalse _ => .fail
    | _ => .fail
  | _, _, _ => .fail

def sameTmp : Operand → Operand → Bool
  | .tmp a, .tmp b => Nat.beq a b
  | .const (.int _ a), .const (.int _ b) => decide (a = b)
  | _, _ => false

/-- The type of the elements of the slice that is a type's last cell. -/
def innOf (P : Program) : Nat → TypeId → Option TypeId
  | 0, _ => none
  | n + 1, T => match P.underlying T with
    | some (.slice e) => some e
    | some (.struct fs) => match fs.toList.getLast? with
      | some f => innOf P n f.type
      | none => none
    | _ => none

/-- The last of some cells is no slice at all. -/
def nilLast : List AV → Bool
  | [] => false
  | [.v (.slice none 0 0)] => true
  | _ :: r => nilLast r

def makeSliceE (P : Program) (T : TypeId) (n : AV) : Eff AV :=
  match P.underlying T, n with
  | some (.slice e), .v (.int .i64 n) => match tyOf P 9 e, sizeAt P e, zeroCellsAt P e, (P.info? e).map (·.bytes) with
    | some t, some s, some z, some by_ => match Nat.beq s t.sz, Nat.ble 1 s, Nat.ble 1 by_, Nat.beq z.length s, t.dec z with
      | true, true, true, true, some d => .br (0 ≤ n) inferInstance (.br (n.toNat ≤ 281474976710656 / by_) inferInstance
          (match t.nest, nilLast z, innOf P 9 e with
           | true, true, some be => .nw (.tre 0 none e be t (List.replicate n.toNat d) none) fun i => .ret (.own i)
           | _, _, _ => .nw (.row e t (List.replicate n.toNat d)) fun i => .ret (.own i)) .fail) .fail
      | _, _, _, _, _ => .fail
    | _, _, _, _ => .fail
  | _, _ => .fail

/-- A bound of a slice expression, or what stands for it. -/
def boundOf (d : Int) : Option AV → Option Int
  | none => some d
  | some (.v (.int _ n)) => some n
  | _ => none

def cutLo (lo : Option AV) (l h : Int) (e : Eff AV) : Eff AV :=
  match lo with
  | none => e
  | some _ => .br (0 ≤ l) inferInstance (.br (l ≤ h) inferInstance e .fail) .fail

def cutHi (hi : Option AV) (h n : Int) (e : Eff AV) : Eff AV :=
  match hi with
  | none => e
  | some _ => .br (0 ≤ h) inferInstance (.br (h ≤ n) inferInstance e .fail) .fail

def cutE (lo hi : Option AV) (n : Int) (k : Int → Int → Eff AV) : Eff AV :=
  match boundOf n hi, boundOf 0 lo with
  | some h, some l => cutHi hi h n (cutLo lo l h (k l h))
  | _, _ => .fail

/-- Numbers from the second on. -/
def tailOf (t : Ty) (lo hi : Option AV) : Bool :=
  match t, lo, hi with
  | .int _, some (.v (.int .i64 1)), none => true
  | _, _, _ => false

def sliceE (P : Program) (T : TypeId) (x : AV) (lo hi : Option AV) : Eff AV :=
  match P.underlying T, x with
  | some .string, .v (.string s) => cutE lo hi s.size fun l h => .ret (.v (.string (s.extract l.toNat h.toNat)))
  | some (.slice e), .con t c => match sizeAt P e with
    | some s => match Nat.beq s t.sz with
      | true => cutE lo hi c.length fun l h => .ret (.con t ((c.take h.toNat).drop l.toNat))
      | false => .fail
    | none => .fail
  | some (.slice e), .own i => match sizeAt P e with
    | some s => .rd i fun
      | .row _ t c => match Nat.beq s t.sz with
        | true => match tailOf t lo hi with
          | true => cutE lo none c.length fun l _ => .ret (.sub i l.toNat)
          | false => cutE lo hi c.length fun l h => .wr i (.frz t c) (.ret (.con t ((c.take h.toNat).drop l.toNat)))
        | false => .fail
      | .frz t c => match Nat.beq s t.sz with
        | true => cutE lo hi c.length fun l h => .ret (.con t ((c.take h.toNat).drop l.toNat))
        | false => .fail
      | .bts c => match Nat.beq s 1, hi with
        | true, none => cutE lo none c.length fun l _ => .ret (.sub i l.toNat)
        | _, _ => .fail
      | _ => .fail
    | none => .fail
  | _, _ => .fail

/-- What copy leaves of bytes from a place on. -/
def cpy (l : List Int) (lo : Nat) (s : ByteArray) : List Int := l.take lo ++ ((numsOf s).take (l.length - lo) ++ l.drop (lo + min s.size (l.length - lo)))

def copyE (P : Program) (T : TypeId) (d x : AV) : Eff AV :=
  match P.underlying T, d, x with
  | some (.slice e), .sub i lo, .v (.string s) => match sizeAt P e with
    | some n => match Nat.beq n 1 with
      | true => .rd i fun
        | .bts l => .wr i (.bts (cpy l lo s)) (.ret (.v (.int .i64 (min s.size (l.length - lo) : Nat))))
        | _ => .fail
      | false => .fail
    | none => .fail
  | _, _, _ => .fail

def lenE (P : Program) (T : TypeId) (x : AV) : Eff AV :=
  match P.underlying T, x with
  | some .string, .v (.string s) => .ret (.v (.int .i64 s.size))
  | some (.slice _), .v (.slice none 0 0) => .ret (.v (.int .i64 0))
  | some (.slice _), .con _ l => .ret (.v (.int .i64 l.length))
  | some (.slice _), .own i => .rdS i fun
    | .row _ _ l => .ret (.v (.int .i64 l.length))
    | .tre _ _ _ _ _ l _ => .ret (.v (.int .i64 l.length))
    | .frz _ l => .ret (.v (.int .i64 l.length))
    | .bts l => .ret (.v (.int .i64 l.length))
    | _ => .fail
  | some (.slice _), .sub i lo => .rdS i fun
    | .row _ _ l => .ret (.v (.int .i64 (l.length - lo : Nat)))
    | _ => .fail
  | _, _ => .fail

/-- A slice as it is read. -/
def readSl (x : AV) (k : (t : Ty) → List t.den → Eff AV) : Eff AV :=
  match x with
  | .con t l => k t l
  | .own i => .rd i fun
    | .row _ t l => k t l
    | .frz t l => k t l
    | _ => .fail
  | .sub i lo => .rd i fun
    | .row _ t l => match Nat.beq t.sz 1 with
      | true => k t (l.drop lo)
      | false => .fail
    | .frz t l => match Nat.beq t.sz 1 with
      | true => k t (l.drop lo)
      | false => .fail
    | _ => .fail
  | _ => .fail

def putRow (e : TypeId) (t : Ty) (by_ : Nat) (l m : List t.den) : Eff AV :=
  .br (l.length + m.length ≤ 140737488355328 / by_) inferInstance (.nw (.row e t (l ++ m)) fun i => .ret (.own i)) .fail

def putBts (l m : List Int) : Eff AV :=
  .br (l.length + m.length ≤ 140737488355328) inferInstance (.nw (.bts (l ++ m)) fun i => .ret (.own i)) .fail

def moreE (t : Ty) (x : AV) (k : List t.den → Eff AV) : Eff AV :=
  match x with
  | .v (.slice none 0 0) => k []
  | x => readSl x fun t' m => match decEq t' t with
    | isTrue h => k (h ▸ m)
    | isFalse _ => .fail

/-- So many zeros appended. -/
def appendZE (P : Program) (T2 e : TypeId) (s x : AV) : Eff AV :=
  match P.underlying T2, x with
  | some (.int _), .v (.int _ n) => match tyOf P 9 e, sizeAt P e, zeroCellsAt P e, (P.info? e).map (·.bytes) with
    | some t, some sz, some z, some by_ => match Nat.beq sz t.sz, Nat.ble 1 sz, Nat.ble 1 by_, Nat.beq z.length sz, t.dec z with
      | true, true, true, true, some d => .br (0 ≤ n) inferInstance (match s with
        | .v (.slice none 0 0) => putRow e t by_ [] (List.replicate n.toNat d)
        | .own i => .rd i fun
          | .row e' t' l => match Nat.beq e' e, decEq t' t with
            | true, isTrue h => .wr i .gone (putRow e t by_ (h ▸ l) (List.replicate n.toNat d))
            | _, _ => .fail
          | _ => .fail
        | _ => .fail) .fail
      | _, _, _, _, _ => .fail
    | _, _, _, _ => .fail
  | some .string, .v (.string x) => match sizeAt P e, (P.info? e).bind (·.zero), (P.info? e).map (·.bytes) with
    | some 1, some (.int .u8 0), some 1 => match s with
      | .v (.slice none 0 0) => putRow e (.int .u8) 1 ([] : List Int) (numsOf x)
      | .own i => .rd i fun
        | .row e' (.int .u8) l => match Nat.beq e' e with
          | true => .wr i .gone (putRow e (.int .u8) 1 l (numsOf x))
          | false => .fail
        | .bts l => .wr i .gone (putBts l (numsOf x))
        | _ => .fail
      | _ => .fail
    | _, _, _ => .fail
  | _, _ => .fail

def appendE (P : Program) (T T2 : TypeId) (s x : AV) : Eff AV :=
  match Nat.beq T T2, P.underlying T with
  | true, some (.slice e) => match tyOf P 9 e, sizeAt P e, zeroCellsAt P e, (P.info? e).map (·.bytes) with
    | some t, some sz, some z, some by_ => match Nat.beq sz t.sz, Nat.ble 1 sz, Nat.ble 1 by_, Nat.beq z.length sz with
      | true, true, true, true => match s with
        | .v (.slice none 0 0) => moreE t x fun m => putRow e t by_ [] m
        | .own i => .rd i fun
          | .row e' t' l => match Nat.beq e' e, decEq t' t with
            | true, isTrue h => .wr i .gone (moreE t x fun m => putRow e t by_ (h ▸ l) m)
            | _, _ => .fail
          | .bts l => match decEq t (.int .u8), Nat.beq by_ 1, (P.info? e).bind (·.zero) with
            | isTrue _, true, some (.int .u8 0) => .wr i .gone (moreE (.int .u8) x fun m => putBts l m)
            | _, _, _ => .fail
          | _ => .fail
        | _ => .fail
      | _, _, _, _ => .fail
    | _, _, _, _ => .fail
  | false, some (.slice e) => appendZE P T2 e s x
  | _, _ => .fail

/-- One element that ends in a row of one's own (or in its numbers from a place on): the row stays outside. -/
def buildOneE (P : Program) (T n : Nat) (parts : List (Nat × AV)) (k : Eff AV) : Eff AV :=
  match n, parts with
  | 1, [(0, x)] => match P.underlying T, cellsOf x with
    | some (.slice e), some vs => match lastRow vs, tyOf P 9 e, sizeAt P e, zeroCellsAt P e with
      | some (fs, q, o), some t, some s, some z => match t.nest, Nat.beq s t.sz, Nat.beq z.length s, Nat.ble (1 * s) 16777216, Nat.ble 1 s, vs.all isCell with
        | true, true, true, true, true, true => .rd q fun
          | .row be b m => match decEq b t.inn, innOf P 9 e, Nat.beq o 0 || Nat.beq t.inn.sz 1 with
            | isTrue _, some be', true => match Nat.beq be be', t.dec (fs ++ [.con b m]) with
              | true, some y => .nw (.tre o none e be t [y] (some (0, q))) fun i => .ret (.own i)
              | _, _ => k
            | _, _, _ => k
          | _ => k
        | _, _, _, _, _, _ => k
      | none, some t, some s, some z => match t.nest, Nat.beq s t.sz, Nat.beq z.length s, Nat.ble (1 * s) 16777216, Nat.ble 1 s, vs.all isCell with
        | true, true, true, true, true, true => match nilLast vs, t.dec vs, innOf P 9 e with
          | true, some y, some be => .nw (.tre 0 none e be t [y] none) fun i => .ret (.own i)
          | _, _, _ => k
        | _, _, _, _, _, _ => k
      | _, _, _, _ => k
    | _, _ => k
  | 0, [] => match P.underlying T with
    | some (.slice e) => match tyOf P 9 e, sizeAt P e, zeroCellsAt P e with
      | some t, some s, some z => match t.nest, Nat.beq s t.sz, Nat.beq z.length s, innOf P 9 e with
        | true, true, true, some be => .nw (.tre 0 none e be t [] none) fun i => .ret (.own i)
        | _, _, _, _ => k
      | _, _, _ => k
    | _ => k
  | _, _ => k

/-- Such an element appended. -/
def appendT (P : Program) (T T2 : TypeId) (s : AV) (p o e be : Nat) (t : Ty) (l' : List t.den) (q : Nat) : Eff AV :=
  match Nat.beq T T2, P.underlying T, l' with
  | true, some (.slice e'), [y] => match Nat.beq e' e, sizeAt P e, zeroCellsAt P e, (P.info? e).map (·.bytes) with
    | true, some sz, some z, some by_ => match Nat.beq sz t.sz, Nat.ble 1 by_, Nat.beq z.length sz with
      | true, true, true => match s with
        | .v (.slice none 0 0) => .br (0 + 1 ≤ 140737488355328 / by_) inferInstance (.wr p .gone (.nw (.tre o none e be t [y] (some (0, q))) fun i => .ret (.own i))) .fail
        | .own i => .rd i fun
          | .tre o2 none e2 be2 t2 l none => match Nat.beq e2 e, Nat.beq be2 be, decEq t2 t, Nat.beq i p, Nat.beq o2 o with
            | true, true, isTrue h, false, true => .br ((h ▸ l).length + 1 ≤ 140737488355328 / by_) inferInstance (.wr i .gone (.wr p .gone (.nw (.tre o none e be t ((h ▸ l) ++ [y]) (some ((h ▸ l).length, q))) fun i => .ret (.own i)))) .fail
            | _, _, _, _, _ => .fail
          | _ => .fail
        | _ => .fail
      | _, _, _ => .fail
    | _, _, _, _ => .fail
  | _, _, _ => .fail

/-- An element whose row is nothing, appended; what is out stays out. -/
def appendN (P : Program) (T T2 : TypeId) (s : AV) (p o e be : Nat) (t : Ty) (y : t.den) : Eff AV :=
  match Nat.beq T T2, P.underlying T with
  | true, some (.slice e') => match Nat.beq e' e, sizeAt P e, zeroCellsAt P e, (P.info? e).map (·.bytes) with
    | true, some sz, some z, some by_ => match Nat.beq sz t.sz, Nat.ble 1 by_, Nat.beq z.length sz with
      | true, true, true => match s with
        | .own i => .rd i fun
          | .tre o2 none e2 be2 t2 l cur => match Nat.beq e2 e, Nat.beq be2 be, decEq t2 t, Nat.beq i p, Nat.beq o2 o with
            | true, true, isTrue h, false, true => .br ((h ▸ l).length + 1 ≤ 140737488355328 / by_) inferInstance (.wr i .gone (.wr p .gone (.nw (.tre o none e be t ((h ▸ l) ++ [y]) cur) fun i => .ret (.own i)))) .fail
            | _, _, _, _, _ => .fail
          | _ => .fail
        | _ => .fail
      | _, _, _ => .fail
    | _, _, _, _ => .fail
  | _, _ => .fail

def appendXE (P : Program) (T T2 : TypeId) (s x : AV) : Eff AV :=
  match x with
  | .own p => .rd p fun
    | .tre o none e be t l' (some (0, q)) => appendT P T T2 s p o e be t l' q
    | .tre o none e be t [y] none => appendN P T T2 s p o e be t y
    | _ => appendE P T T2 s x
  | _ => appendE P T T2 s x

def minE (lt : Bool) : AV → AV → Eff AV
  | .v (.int k a), .v (.int _ b) => match lt with
    | true => .ret (.v (.int k (if b < a then b else a)))
    | false => .ret (.v (.int k (if a < b then b else a)))
  | _, _ => .fail

/-! ### What is handed over -/
/-- What a callee (or a point of a function) wants a value to be. -/
inductive RC where
  | val
  | bool
  | con (t : Ty)
  | row (e : TypeId) (t : Ty)
  | box (cs : List RC)
  | fn (f : FuncId) (n : Nat) (cs : List RC)
  | agg (cs : List RC)
  | tup (cs : List RC)
  | dead
  | elt (t : Ty)
  | mp (t : Ty)
  | bld (T : TypeId) (c : RC)
  | tre (o : Nat) (e be : TypeId) (t : Ty)
  | trs
  | sub (lo : Nat)
  | trq

/-- What has been packed: where each entry stood, the entries, the rows that are lent. -/
structure PS where
  m : List (Option (Nat × Nat))
  H : List HE
  lent : List Nat

def findM (i : Nat) : Nat → List (Option (Nat × Nat)) → Option (Nat × Nat)
  | _, [] => none
  | k, some (j, off) :: r => match Nat.beq j i with
    | true => some (k, off)
    | false => findM i (k + 1) r
  | k, none :: r => findM i (k + 1) r

/-- Cells that are lent with the variable in which they stand. -/
def lendC {α : Type} : List AV → PS → (List AV → PS → Eff α) → Eff α
  | [], s, k => k [] s
  | .own j :: r, s, k => .rd j fun
    | .row _ t l => match findM j 0 s.m with
      | none => lendC r { s with lent := j :: s.lent } fun r' s' => k (.con t l :: r') s'
      | some _ => .fail
    | .tre o none _ _ t l none => match findM j 0 s.m with
      | none => lendC r { s with lent := j :: s.lent } fun r' s' => k (.con t (t.cut o l) :: r') s'
      | some _ => .fail
    | .frz t l => lendC r s fun r' s' => k (.con t l :: r') s'
    | _ => .fail
  | .v x :: r, s, k => lendC r s fun r' s' => k (.v x :: r') s'
  | .con t l :: r, s, k => lendC r s fun r' s' => k (.con t l :: r') s'
  | .bs ng b :: r, s, k => lendC r s fun r' s' => k (.bs ng b :: r') s'
  | .bp ng p d :: r, s, k => lendC r s fun r' s' => k (.bp ng p d :: r') s'
  | _ :: _, _, _ => .fail

/-- Whether a row is handed over of which a part is out. -/
def hasTrq : RC → Bool
  | .trq => true
  | .box cs => hasTrqs cs
  | .fn _ _ cs => hasTrqs cs
  | .agg cs => hasTrqs cs
  | .tup cs => hasTrqs cs
  | .bld _ c => hasTrq c
  | _ => false
where hasTrqs : List RC → Bool
  | [] => false
  | c :: cs => hasTrq c || hasTrqs cs

mutual
def pk {α : Type} : RC → AV → PS → (AV → PS → Eff α) → Eff α
  | .val, a, s, k => match a with
    | .v x => k (.v x) s
    | .con t l => k (.con t l) s
    | .elt t x o => k (.elt t x o) s
    | _ => .fail
  | .bool, a, s, k => match boolOf a with
    | some b => k (.bs false b) s
    | none => .fail
  | .con t, a, s, k => match a with
    | .con t' l => k (.con t' l) s
    | .v (.slice none 0 0) => k (.con t []) s
    | .own i => .rd i fun
      | .row _ t' l => match findM i 0 s.m with
        | none => k (.con t' l) { s with lent := i :: s.lent }
        | some _ => .fail
      | .tre o none _ _ t' l none => match findM i 0 s.m with
        | none => k (.con t' (t'.cut o l)) { s with lent := i :: s.lent }
        | some _ => .fail
      | .frz t' l => k (.con t' l) s
      | _ => .fail
    | .sub i lo => .rd i fun
      | .row _ t' l => match findM i 0 s.m, Nat.beq t'.sz 1 with
        | none, true => k (.con t' (l.drop lo)) { s with lent := i :: s.lent }
        | _, _ => .fail
      | .frz t' l => match Nat.beq t'.sz 1 with
        | true => k (.con t' (l.drop lo)) s
        | false => .fail
      | _ => .fail
    | _ => .fail
  | .row e t, a, s, k => match a with
    | .own i => match findM i 0 s.m, s.lent.any (Nat.beq i) with
      | some (n, _), _ => k (.own n) s
      | none, true => .fail
      | none, false => .rd i fun
        | .row e' t' l => k (.own s.m.length) { s with m := s.m ++ [some (i, 0)], H := s.H ++ [.row e' t' l] }
        | .bts l => k (.own s.m.length) { s with m := s.m ++ [some (i, 0)], H := s.H ++ [.bts l] }
        | .tre o fr e' be t' l none => k (.own s.m.length) { s with m := s.m ++ [some (i, 0)], H := s.H ++ [.tre o fr e' be t' l none] }
        | _ => .fail
    | .v (.slice none 0 0) => k (.own s.m.length) { s with m := s.m ++ [none], H := s.H ++ [.row e t []] }
    | _ => .fail
  | .box rcs, a, s, k => match a with
    | .box i off => match findM i 0 s.m with
      | some (n, off') => match Nat.beq off off' with
        | true => k (.box n 0) s
        | false => .fail
      | none => .rd i fun
        | .box cs => match Nat.ble (off + rcs.length) cs.length, s.lent.any (Nat.beq i) with
          | true, false => pks rcs ((cs.drop off).take rcs.length) { s with m := s.m ++ [some (i, off)], H := s.H ++ [.gone] } fun cs' s' =>
              k (.box s.m.length 0) { s' with H := s'.H.set s.m.length (.box cs') }
          | _, _ => .fail
        | _ => .fail
    | _ => .fail
  | .fn f n rcs, a, s, k => match a with
    | .fn f' n' cs => match Nat.beq f f', Nat.beq n n', Nat.beq rcs.length cs.length with
      | true, true, true => pks rcs cs s fun cs' s' => k (.fn f n cs') s'
      | _, _, _ => .fail
    | _ => .fail
  | .agg rcs, a, s, k => match cellsOf a with
    | some cs => match Nat.beq rcs.length cs.length, a with
      | true, .agg _ => pks rcs cs s fun cs' s' => k (.agg cs') s'
      | true, .v (.agg _) => pks rcs cs s fun cs' s' => k (.agg cs') s'
      | _, _ => .fail
    | none => .fail
  | .tup rcs, a, s, k => match a with
    | .tup cs => match Nat.beq rcs.length cs.length with
      | true => pks rcs cs s fun cs' s' => k (.tup cs') s'
      | false => .fail
    | _ => .fail
  | .dead, _, s, k => k .dead s
  | .tre o e be t, a, s, k => match a with
    | .own i => match findM i 0 s.m, s.lent.any (Nat.beq i) with
      | some (n, _), _ => k (.own n) s
      | none, true => .fail
      | none, false => .rd i fun
        | .tre o' fr e' be' t' l none => k (.own s.m.length) { s with m := s.m ++ [some (i, 0)], H := s.H ++ [.tre o' fr e' be' t' l none] }
        | _ => .fail
    | .v (.slice none 0 0) => match t.nest, Nat.beq o 0 || Nat.beq t.inn.sz 1 with
      | true, true => k (.own s.m.length) { s with m := s.m ++ [none], H := s.H ++ [.tre o none e be t [] none] }
      | _, _ => .fail
    | _ => .fail
  | .trs, a, s, k => match a with
    | .own i => match findM i 0 s.m, s.lent.any (Nat.beq i) with
      | some (n, _), _ => k (.own n) s
      | none, true => .fail
      | none, false => .rd i fun
        | .tre o' fr e' be' t' l none => k (.own s.m.length) { s with m := s.m ++ [some (i, 0)], H := s.H ++ [.tre o' (some (frN fr)) e' be' t' l none] }
        | _ => .fail
    | _ => .fail
  | .trq, a, s, k => match a with
    | .own i => match findM i 0 s.m, s.lent.any (Nat.beq i) with
      | some (n, _), _ => k (.own n) s
      | none, true => .fail
      | none, false => .rd i fun
        | .tre o fr e be t l (some (j, q)) => match findM q 0 s.m with
          | some (nq, _) => k (.own s.m.length) { s with m := s.m ++ [some (i, 0)], H := s.H ++ [.tre o fr e be t l (some (j, nq))] }
          | none => match s.lent.any (Nat.beq q), Nat.beq q i with
            | false, false => .rd q fun
              | .row e' t' m => k (.own (s.m.length + 1)) { s with m := (s.m ++ [some (q, 0)]) ++ [some (i, 0)], H := (s.H ++ [.row e' t' m]) ++ [.tre o fr e be t l (some (j, s.m.length))] }
              | _ => .fail
            | _, _ => .fail
        | _ => .fail
    | _ => .fail
  | .sub lo, a, s, k => match a with
    | .sub i lo' => match findM i 0 s.m, s.lent.any (Nat.beq i), Nat.beq lo' lo with
      | some (n, _), _, true => k (.sub n lo) s
      | none, false, true => .rd i fun
        | .row e' t' l => k (.sub s.m.length lo) { s with m := s.m ++ [some (i, 0)], H := s.H ++ [.row e' t' l] }
        | _ => .fail
      | _, _, _ => .fail
    | _ => .fail
  | .mp t, a, s, k => match a with
    | .mp i => match findM i 0 s.m, s.lent.any (Nat.beq i) with
      | some (n, _), _ => k (.mp n) s
      | none, true => .fail
      | none, false => .rd i fun
        | .mp t' f => k (.mp s.m.length) { s with m := s.m ++ [some (i, 0)], H := s.H ++ [.mp t' f] }
        | _ => .fail
    | _ => .fail
  | .bld T rc, a, s, k => match a with
    | .box i off => match findM i 0 s.m with
      | some (n, off') => match Nat.beq off off' with
        | true => k (.box n 0) s
        | false => .fail
      | none => .rd i fun
        | .bld T' c => match Nat.beq T T', Nat.beq off 0, s.lent.any (Nat.beq i) with
          | true, true, false => pk rc c { s with m := s.m ++ [some (i, off)], H := s.H ++ [.gone] } fun c' s' =>
              k (.box s.m.length 0) { s' with H := s'.H.set s.m.length (.bld T c') }
          | _, _, _ => .fail
        | _ => .fail
    | _ => .fail
  | .elt t, a, s, k => match a with
    | .elt t' x o => k (.elt t' x o) s
    | .box i off => match findM i 0 s.m with
      | some _ => .fail
      | none => .rd i fun
        | .box cs => match Nat.ble (off + t.sz) cs.length with
          | true => lendC ((cs.drop off).take t.sz) s fun cs' s' => match t.dec cs' with
            | some x => k (.elt t x 0) { s' with lent := i :: s'.lent }
            | none => .fail
          | false => .fail
        | _ => .fail
    | _ => .fail
def pks {α : Type} : List RC → List AV → PS → (List AV → PS → Eff α) → Eff α
  | [], [], s, k => k [] s
  | c :: rcs, a :: as, s, k => pk c a s fun a' s' => pks rcs as s' fun as' s'' => k (a' :: as') s''
  | _, _, _, _ => .fail
end
end Go.Proofs.YtbpeiilildchlaaGreatDoor.Abs
namespace Go.Proofs.YtbpeiilildchlaaGreatDoor.Abs
open Go Go.RowKit
set_option linter.unusedVariables false
set_option linter.unusedSectionVars false
set_option linter.unusedSimpArgs false

/-- A call as its contract has it: the Lean function at its arguments, and what its answer is among abstract values. -/
structure Call : Type 1 where
  X : Type
  o : Option X
  emb : X → AV × List HE

structure Spec : Type 1 where
  args : List RC
  pat : Nat → List AV → List HE → Option Call

/-! ### Behind a call -/
/-- Where each entry stands in the caller's heap. -/
def places : List HE → List (Option (Nat × Nat)) → (List (Nat × Nat) → Eff AV) → Eff AV
  | [], _, k => k []
  | _ :: hs, some p :: m, k => places hs m fun r => k (p :: r)
  | _ :: hs, none :: m, k => .nw .gone fun i => places hs m fun r => k ((i, 0) :: r)
  | _ :: hs, [], k => .nw .gone fun i => places hs [] fun r => k ((i, 0) :: r)

mutual
def rn (ids : List (Nat × Nat)) : AV → AV
  | .own k => match ids[k]? with
    | some (i, _) => .own i
    | none => .dead
  | .box k o => match ids[k]? with
    | some (i, off) => .box i (off + o)
    | none => .dead
  | .oel k sz j o => match ids[k]? with
    | some (i, _) => .oel i sz j o
    | none => .dead
  | .mp k => match ids[k]? with
    | some (i, _) => .mp i
    | none => .dead
  | .sub k lo => match ids[k]? with
    | some (i, _) => .sub i lo
    | none => .dead
  | .fn f n cs => .fn f n (rns ids cs)
  | .agg cs => .agg (rns ids cs)
  | .tup cs => .tup (rns ids cs)
  | .v x => .v x
  | .con t l => .con t l
  | .elt t x o => .elt t x o
  | .bs ng b => .bs ng b
  | .bp ng p d => .bp ng p d
  | .ifc n => .ifc n
  | .dead => .dead
def rns (ids : List (Nat × Nat)) : List AV → List AV
  | [] => []
  | c :: cs => rn ids c :: rns ids cs
end

def back1 (ids : List (Nat × Nat)) (p : Nat × Nat) (h : HE) (k : Eff AV) : Eff AV :=
  match h with
  | .box cs => .rd p.1 fun
    | .box old => match Nat.ble (p.2 + cs.length) old.length with
      | true => .wr p.1 (.box (splice old p.2 (rns ids cs))) k
      | false => .fail
    | .gone => match Nat.beq p.2 0 with
      | true => .wr p.1 (.box (rns ids cs)) k
      | false => .fail
    | _ => .fail
  | .row e t l => .wr p.1 (.row e t l) k
  | .frz t l => .wr p.1 (.frz t l) k
  | .mp t f => .wr p.1 (.mp t f) k
  | .bts l => .wr p.1 (.bts l) k
  | .bld T c => match Nat.beq p.2 0 with
    | true => .wr p.1 (.bld T (rn ids c)) k
    | false => .fail
  | .gone => .wr p.1 .gone k
  | .tre o fr e be t l cur => match cur with
    | none => .wr p.1 (.tre o fr e be t l none) k
    | some (j, q) => match ids[q]? with
      | some (i, _) => .wr p.1 (.tre o fr e be t l (some (j, i))) k
      | none => .fail
  | .unused => .fail

def backAll (ids : List (Nat × Nat)) : List HE → List (Nat × Nat) → Eff AV → Eff AV
  | h :: hs, p :: ps, k => back1 ids p h (backAll ids hs ps k)
  | _, _, k => k

def Ty.hasSl : Ty → Bool
  | .sl _ => true
  | .pair a b => a.hasSl || b.hasSl
  | _ => false

mutual
def hasCon : AV → Bool
  | .con _ _ => true
  | .elt _ _ _ => true
  | .fn _ _ cs => hasCons cs
  | .agg cs => hasCons cs
  | .tup cs => hasCons cs
  | _ => false
def hasCons : List AV → Bool
  | [] => false
  | c :: cs => hasCon c || hasCons cs
end

def Ty.deep : Ty → Bool
  | .sl b => b.hasSl
  | .pair a b => a.hasSl || b.deep
  | _ => false

def hasConH : List HE → Bool
  | [] => false
  | .box cs :: hs => hasCons cs || hasConH hs
  | .row _ t _ :: hs => t.hasSl || hasConH hs
  | .mp t _ :: hs => t.hasSl || hasConH hs
  | .tre _ _ _ _ t _ _ :: hs => t.deep || hasConH hs
  | .bld _ c :: hs => hasCon c || hasConH hs
  | .frz _ _ :: _ => true
  | _ :: hs => hasConH hs

def freezeL : List Nat → Eff AV → Eff AV
  | [], k => k
  | i :: is, k => .rd i fun
    | .row _ t l => .wr i (.frz t l) (freezeL is k)
    | .box _ => .fail
    | .mp _ _ => .fail
    | .bts _ => .fail
    | .bld _ _ => .fail
    | .tre _ _ _ _ _ _ _ => .fail
    | _ => freezeL is k

def full : List HE → Bool
  | [] => true
  | .gone :: _ => false
  | _ :: hs => full hs

/-- Behind a call: the entries go back to their places. -/
def backE (ps : PS) (r : AV) (H : List HE) : Eff AV :=
  match Nat.ble ps.H.length H.length with
  | false => .fail
  | true => places H ps.m fun ids => backAll ids H ids (match hasCon r || hasConH H with
    | true => freezeL ps.lent (.ret (rn ids r))
    | false => .ret (rn ids r))

/-- The entries that values name. -/
def ownIds : List AV → List Nat
  | [] => []
  | .own i :: r => i :: ownIds r
  | .box i _ :: r => i :: ownIds r
  | _ :: r => ownIds r

/-- .. within structures too. -/
def ownDeep : List AV → List Nat
  | [] => []
  | .own i :: r => i :: ownDeep r
  | .agg cs :: r => ownIds cs ++ ownDeep r
  | _ :: r => ownDeep r

/-- Rows that were taken out of elements go back to them; where such a row is no more, or is held elsewhere, the elements up to that one are forgotten. -/
def closeL {α : Type} (held : List Nat) : Nat → List Nat → Eff α → Eff α
  | 0, _, k => k
  | _ + 1, [], k => k
  | n + 1, i :: is, k => .rd i fun
    | .tre o fr e be t l (some (j, q)) => .rd q fun
      | .row be' b m => match held.any (Nat.beq q) with
        | true => .wr i (.tre o (some (j + 1)) e be t l none) (closeL held n is k)
        | false => match Nat.beq be' be, decEq b t.inn, Nat.beq q i with
          | true, isTrue h, false => .wr q .gone (.wr i (.tre o fr e be t (l.set j (t.put (l.getD j t.zero) (h ▸ m))) none) (closeL held n is k))
          | _, _, _ => .fail
      | .gone => .wr i (.tre o (some (j + 1)) e be t l none) (closeL held n is k)
      | _ => closeL held n is k
    | .box cs => closeL held n (ownIds cs ++ is) k
    | _ => closeL held n is k

def closeIf {α : Type} (b : Bool) (held ids : List Nat) (k : Eff α) : Eff α := match b with
  | true => k
  | false => closeL held 24 ids k

def callE (s : Spec) (fuel : Nat) (args : List AV) : Eff AV :=
  closeIf (hasTrq.hasTrqs s.args) [] (ownIds args) <| pks s.args args ⟨[], [], []⟩ fun avs ps => match full ps.H with
    | false => .fail
    | true => match s.pat fuel avs ps.H with
      | none => .fail
      | some c => .opt c.X c.o fun x => backE ps (c.emb x).1 (c.emb x).2

abbrev Env := List ((FuncId × List FuncId) × Spec)

def fnIds : List AV → List FuncId
  | [] => []
  | .fn f _ _ :: r => f :: fnIds r
  | _ :: r => fnIds r

def sameIds : List Nat → List Nat → Bool
  | [], [] => true
  | a :: r, b :: s => Nat.beq a b && sameIds r s
  | _, _ => false

def look (f : FuncId) (fs : List FuncId) : Env → Option Spec
  | [] => none
  | ((g, gs), s) :: r => match Nat.beq f g && sameIds fs gs with
    | true => some s
    | false => look f fs r

/-- A second contract of the same function: for variables of whose rows a part is out. -/
def look2 (f : FuncId) (fs : List FuncId) : Env → Option Spec
  | [] => none
  | ((g, gs), s) :: r => match Nat.beq f g && sameIds fs gs with
    | true => look f fs r
    | false => look2 f fs r

def anyOut : List AV → (Bool → Eff AV) → Eff AV
  | [], k => k false
  | .own i :: r, k => .rd i fun
    | .tre _ _ _ _ _ _ (some _) => k true
    | _ => anyOut r k
  | _ :: r, k => anyOut r k

def outE : List AV → (Bool → Eff AV) → Eff AV
  | [], k => k false
  | .box i _ :: r, k => .rd i fun
    | .box cs => anyOut cs fun b => match b with
      | true => k true
      | false => outE r k
    | _ => outE r k
  | _ :: r, k => outE r k

def enterE (E : Env) (k : Nat) (f : FuncId) (args : List AV) : Eff AV :=
  match look f (fnIds args) E with
  | some s => match look2 f (fnIds args) E with
    | none => callE s k args
    | some s2 => outE args fun b => match b with
      | true => callE s2 k args
      | false => callE s k args
  | none => .fail

def calleeE (P : Program) (E : Env) (k : Nat) (c : Go.Call) (tm : Nat → AV) : Eff AV :=
  let args := c.args.toList.map (ev tm)
  match c.callee with
  | .value f => match ev tm f with
    | .fn g n caps => enterE E k g (caps.take n ++ (args ++ caps.drop n))
    | _ => .fail
  | .builtin .len => match args, c.argTypes.toList with
    | [x], [T] => lenE P T x
    | _, _ => .fail
  | .builtin .append => match args, c.argTypes.toList with
    | [s, x], [T, T2] => appendXE P T T2 s x
    | _, _ => .fail
  | .builtin .copy => match args, c.argTypes.toList with
    | [d, x], [T, _] => copyE P T d x
    | _, _ => .fail
  | .builtin .min => match args with
    | [x, y] => minE true x y
    | _ => .fail
  | .builtin .max => match args with
    | [x, y] => minE false x y
    | _ => .fail
  | _ => .fail

def effOf (P : Program) (E : Env) (k : Nat) (o : Oper) (tm : Nat → AV) : Eff AV :=
  match o.op with
  | .move x => .ret (ev tm x)
  | .assign x => .ret (ev tm x)
  | .pick c a b => match ev tm c with
    | .v (.bool t) => match t with
      | true => .ret (ev tm a)
      | false => .ret (ev tm b)
    | .bs false t => .br (t = true) inferInstance (.ret (ev tm a)) (.ret (ev tm b))
    | .bs true t => .br (t = true) inferInstance (.ret (ev tm b)) (.ret (ev tm a))
    | .bp false p d => .br p d (.ret (ev tm a)) (.ret (ev tm b))
    | .bp true p d => .br p d (.ret (ev tm b)) (.ret (ev tm a))
    | _ => .fail
  | .alloc T => allocE P T
  | .box _ x => boxE (ev tm x)
  | .build T ps => buildE P T (ps.toList.map fun p => (p.1, ev tm p.2))
  | .buildSlice T n ps => buildOneE P T n (ps.toList.map fun p => (p.1, ev tm p.2)) (buildSliceE P T n (ps.toList.map fun p => (p.1, ev tm p.2)))
  | .load T a => loadE P T (ev tm a)
  | .store T a x => storeE P T (ev tm a) (ev tm x)
  | .nilCheck x => match ev tm x with
    | .box i o => .ret (.box i o)
    | .elt t y o => .ret (.elt t y o)
    | .oel i s j o => .ret (.oel i s j o)
    | .fn f n cs => .ret (.fn f n cs)
    | _ => .fail
  | .binOp op T x y _ => match y with
    | .const .nilIface => ifcE P op T (ev tm x)
    | _ => binE P op T (ev tm x) (ev tm y)
  | .unOp op _ x => unE op (ev tm x)
  | .convert S T x => conv2E P S T (ev tm x)
  | .makeMap T none => makeMapE P T
  | .mapUpdate T m k x => mapPutE P T (ev tm m) (ev tm k) (ev tm x)
  | .insert T m k x => mapPutE P T (ev tm m) (ev tm k) (ev tm x)
  | .lookup T m k false => lookupE P T (ev tm m) (ev tm k)
  | .makeFunc (.func f) first cap => .ret (.fn f first.toList.length ((first.toList ++ cap.toList).map (ev tm)))
  | .makeSlice T n c => match sameTmp n c with
    | true => makeSliceE P T (ev tm n)
    | false => .fail
  | .slice T x lo hi none => sliceE P T (ev tm x) (lo.map (ev tm)) (hi.map (ev tm))
  | .fieldAddr S x f => fieldAddrE P S (ev tm x) f
  | .field S x f => fieldE P S (ev tm x) f
  | .indexAddr T x i => indexAddrE P T (ev tm x) (ev tm i)
  | .index T x i => indexE P T (ev tm x) (ev tm i)
  | .extract x i => match ev tm x with
    | .tup cs => match cs[i]? with
      | some c => .ret c
      | none => .fail
    | _ => .fail
  | .call c => calleeE P E k c tm
  | _ => .fail

/-! ### Regions -/
structure St where
  tm : Nat → AV
  hp : Heap
  nx : Nat

/-- What was read and what was written by an operation. -/
abbrev Foot := List (List Nat × List Nat)

section
variable {R : Type} (P : Program) (E : Env) (k n : Nat) (ops : List Oper)

def put (n : Nat) (dst : Option Tmp) (x : AV) (tm : Nat → AV) (K : (Nat → AV) → Option R) : Option R :=
  match dst with
  | none => K tm
  | some d => match Nat.ble (d + 1) n with
    | true => K (upd tm d x)
    | false => none

/-- A guard: whether the operation is wanted; a test that is open is parted. -/
def guarded (ops : List Oper) (g : Option (Nat × Bool)) (tm : Nat → AV) (K : Bool → (Nat → AV) → Option R) : Option R :=
  match g with
  | none => K true tm
  | some (j, want) => match ops[j]? with
    | none => none
    | some o => match o.dst with
      | none => none
      | some d =>
        let yes (tm : Nat → AV) : Option R := match want with | true => K true tm | false => K false tm
        let no (tm : Nat → AV) : Option R := match want with | true => K false tm | false => K true tm
        match tm d with
        | .v (.bool b) => match b with
          | true => yes tm
          | false => no tm
        | .v (.tuple _) => K false tm
        | .bs false b => if b = true then yes (upd tm d (.v (.bool true))) else no (upd tm d (.v (.bool false)))
        | .bs true b => if b = true then no (upd tm d (.v (.bool false))) else yes (upd tm d (.v (.bool true)))
        | .bp false p dp => @ite _ p dp (yes (upd tm d (.v (.bool true)))) (no (upd tm d (.v (.bool false))))
        | .bp true p dp => @ite _ p dp (no (upd tm d (.v (.bool false)))) (yes (upd tm d (.v (.bool true))))
        | _ => none

/-- Operations in the order of the text. -/
def runOps : List Oper → St → (St → Option R) → Option R
  | [], st, K => K st
  | o :: r, st, K => guarded ops o.guard st.tm fun w tm => match w with
    | true => (effOf P E k o tm).go st.nx st.hp [] [] fun x b hp _ _ => put n o.dst x tm fun tm => runOps r ⟨tm, hp, b⟩ K
    | false => put n o.dst (.v undef) tm fun tm => runOps r ⟨tm, st.hp, st.nx⟩ K

/-- Operations of a region that draws its order: each makes entries in a range of its own. -/
def runD : List Oper → Nat → St → Foot → (St → Foot → Option R) → Option R
  | [], _, st, F, K => K st F
  | o :: r, i, st, F, K => guarded ops o.guard st.tm fun w tm => match w with
    | true => (effOf P E k o tm).go (st.nx + 16 * i) st.hp [] [] fun x b hp rs ws => match Nat.ble b (st.nx + 16 * i + 16) with
      | true => put n o.dst x tm fun tm => runD r (i + 1) ⟨tm, hp, st.nx⟩ (F ++ [(rs, ws)]) K
      | false => none
    | false => put n o.dst (.v undef) tm fun tm => runD r (i + 1) ⟨tm, st.hp, st.nx⟩ (F ++ [([], [])]) K
end

def meets : List Nat → List Nat → Bool
  | [], _ => false
  | a :: r, l => l.any (Nat.beq a) || meets r l

/-- Whether j waits for i, by way of others too. -/
def reach (ops : List Oper) : Nat → Nat → Nat → Bool
  | 0, _, _ => false
  | f + 1, j, i => match ops[j]? with
    | some o => o.after.toList.any fun e => Region.binds .any e && (Nat.beq e.on i || reach ops f e.on i)
    | none => false

/-- Two operations that may come in either order touch nothing of each other. -/
def footOk (ops : List Oper) (F : Foot) : Bool :=
  (List.range ops.length).all fun i => (List.range ops.length).all fun j => !Nat.ble (i + 1) j || (match ops[j]?, F[i]?, F[j]? with
    | some oj, some (ri, wi), some (rj, wj) => (oj.after.toList.any fun e => Region.binds .any e && Nat.beq e.on i) || ((!meets wi rj && !meets wi wj && !meets wj ri) || reach ops ops.length j i)
    | _, _, _ => false)

/-! ### Code -/
/-- What is still to be done, each piece of code with its number in the body. -/
inductive TI where
  | code (c : Code) (p : Nat)
  | inBlock (id : Nat)
  | inLoop (c : Code) (p : Nat)

def csz : Code → Nat
  | .seq a b => csz a + csz b + 1
  | .cond _ a b => csz a + csz b + 1
  | .block _ a => csz a + 1
  | .loop a => csz a + 1
  | _ => 1

def exitA (id : Nat) : List TI → Option (List TI)
  | [] => none
  | .inBlock i :: k => match Nat.beq i id with
    | true => some k
    | false => exitA id k
  | _ :: k => exitA id k

/-- What becomes of an entry that came in: a row that is forgotten, a row that is kept, a box. -/
inductive IC where
  | drop
  | keep
  | box (cs : List RC)

def hasTrqI : List IC → Bool
  | [] => false
  | .box cs :: r => hasTrq.hasTrqs cs || hasTrqI r
  | _ :: r => hasTrqI r

def IC.kind : IC → Nat
  | .drop => 0
  | .keep => 1
  | .box _ => 2

/-- A point of a function (a loop's head, a place where ways meet): what is live there, and as what. -/
structure Pt where
  p : Nat
  live : List Nat
  rcs : List RC
  rc0 : List IC := []

def ptAt (p : Nat) : List Pt → Option Pt
  | [] => none
  | x :: r => match Nat.beq x.p p with
    | true => some x
    | false => ptAt p r

section
variable {X : Type}
/-- What a function has to be known by: its number of temporaries, its result variables, what its results are to be, how many entries came in, its points. -/
structure FnA (X : Type) where
  n : Nat
  res : List ResultVar
  rc : RC
  rc0 : List IC
  pts : List Pt
  fin : AV → List HE → Option X

def bind2 {α β : Type} (e : Eff α) (k : α → Eff β) : Eff β := e.bind k

def resVals {α : Type} (P : Program) (tm : Nat → AV) : List ResultVar → (List AV → Eff α) → Eff α
  | [], k => k []
  | .tmp t :: r, k => resVals P tm r fun xs => k (tm t :: xs)
  | .cell a T :: r, k => bind2 (loadB P T (tm a)) fun x => resVals P tm r fun xs => k (x :: xs)

/-- Rows that are to be kept are rows still. -/
def needRows {α : Type} : List IC → Nat → Eff α → Eff α
  | [], _, k => k
  | .keep :: r, i, k => .rd i fun
    | .row _ _ _ => needRows r (i + 1) k
    | .mp _ _ => needRows r (i + 1) k
    | .tre _ _ _ _ _ _ none => needRows r (i + 1) k
    | _ => .fail
  | .drop :: r, i, k => needRows r (i + 1) k
  | .box _ :: r, i, k => needRows r (i + 1) k

/-- The entries that came in: they are packed first, each at its old place; rows that are not kept are gone. -/
def packIn {α : Type} : List IC → Nat → PS → (PS → Eff α) → Eff α
  | [], _, s, k => k s
  | .drop :: r, i, s, k => packIn r (i + 1) s k
  | .keep :: r, i, s, k => .rd i fun
    | .row e t l => packIn r (i + 1) { s with H := s.H.set i (.row e t l) } k
    | .mp t f => packIn r (i + 1) { s with H := s.H.set i (.mp t f) } k
    | .tre o fr e be t l none => packIn r (i + 1) { s with H := s.H.set i (.tre o fr e be t l none) } k
    | _ => .fail
  | .box rcs :: r, i, s, k => .rd i fun
    | .box cs => match Nat.beq rcs.length cs.length with
      | true => pks rcs cs s fun cs' s' => packIn r (i + 1) { s' with H := s'.H.set i (.box cs') } k
      | false => .fail
    | _ => .fail

def startM : List IC → Nat → List (Option (Nat × Nat))
  | [], _ => []
  | .drop :: r, i => none :: startM r (i + 1)
  | .keep :: r, i => some (i, 0) :: startM r (i + 1)
  | .box _ :: r, i => some (i, 0) :: startM r (i + 1)

def start0 (rc0 : List IC) : PS := ⟨startM rc0 0, rc0.map fun _ => .gone, []⟩

def inE {α : Type} (rc0 : List IC) (k : PS → Eff α) : Eff α := needRows rc0 0 (packIn rc0 0 (start0 rc0) k)

/-- What a result variable, or a point, names; and what came in. -/
def resIds (tm : Nat → AV) : List ResultVar → List Nat
  | [] => []
  | .tmp t :: r => ownIds [tm t] ++ resIds tm r
  | .cell a _ :: r => ownIds [tm a] ++ resIds tm r

def one1 : List AV → AV
  | [x] => x
  | xs => .tup xs

def finishE (P : Program) (f : FnA X) (tm : Nat → AV) : Eff (AV × List HE) :=
  closeIf (hasTrqI f.rc0) [] (List.range f.rc0.length ++ resIds tm f.res) <| inE f.rc0 fun s => resVals P tm f.res fun xs => pk f.rc (one1 xs) s fun x' s' => .ret (x', s'.H)

/-- To a point. -/
def jumpE (q : Pt) (tm : Nat → AV) : Eff (List AV × List HE) :=
  closeIf (hasTrq.hasTrqs q.rcs || hasTrqI q.rc0) (ownDeep (q.live.map tm)) (List.range q.rc0.length ++ ownIds (q.live.map tm)) <| inE q.rc0 fun s => pks q.rcs (q.live.map tm) s fun avs s' => .ret (avs, s'.H)

def brA (x : AV) (K : Bool → AV → Option X) : Option X :=
  match x with
  | .v (.bool b) => match b with
    | true => K true x
    | false => K false x
  | .bs false b => if b = true then K true (.v (.bool true)) else K false (.v (.bool false))
  | .bs true b => if b = true then K false (.v (.bool false)) else K true (.v (.bool true))
  | .bp false p d => @ite _ p d (K true (.v (.bool true))) (K false (.v (.bool false)))
  | .bp true p d => @ite _ p d (K false (.v (.bool false))) (K true (.v (.bool true)))
  | _ => none

def setOp (c : Operand) (x : AV) (tm : Nat → AV) : Nat → AV :=
  match c with
  | .tmp t => upd tm t x
  | _ => tm

variable (P : Program) (E : Env) (k : Nat) (f : FnA X) (G : Nat → List AV → List HE → Option X)

/-- One piece of code; 'rec': on from there. -/
def stepC (rec : List TI → St → Option X) (c : Code) (p : Nat) (t : List TI) (st : St) : Option X :=
  match c with
  | .skip => rec t st
  | .seq a b => rec (.code a (p + 1) :: .code b (p + 1 + csz a) :: t) st
  | .cond c a b => brA (ev st.tm c) fun r x => match r with
    | true => rec (.code a (p + 1) :: t) { st with tm := setOp c x st.tm }
    | false => rec (.code b (p + 1 + csz a) :: t) { st with tm := setOp c x st.tm }
  | .block id a => rec (.code a (p + 1) :: .inBlock id :: t) st
  | .loop a => rec (.code a (p + 1) :: .inLoop a p :: t) st
  | .exit id => match exitA id t with
    | some t' => rec t' st
    | none => none
  | .region _ ops draw => match draw with
    | false => runOps P E k f.n ops.toList ops.toList st fun st' => rec t st'
    | true => match Region.lexB .any ops with
      | true => runD P E k f.n ops.toList ops.toList 0 st [] fun st' F => match footOk ops.toList F with
        | true => rec t { st' with nx := st.nx + 16 * ops.toList.length }
        | false => none
      | false => none
  | .ret => (finishE P f st.tm).go st.nx st.hp [] [] fun x _ _ _ _ => f.fin x.1 x.2
  | _ => none

/-- On from here. 'G': what is told from a point on. -/
def arun : Nat → List TI → St → Option X
  | 0, _, _ => none
  | _ + 1, [], st => (finishE P f st.tm).go st.nx st.hp [] [] fun x _ _ _ _ => f.fin x.1 x.2
  | s + 1, .inBlock _ :: t, st => arun s t st
  | _ + 1, .inLoop _ p :: _, st => match ptAt p f.pts with
    | some q => (jumpE q st.tm).go st.nx st.hp [] [] fun x _ _ _ _ => G p x.1 x.2
    | none => none
  | s + 1, .code c p :: t, st => match ptAt p f.pts with
    | some q => (jumpE q st.tm).go st.nx st.hp [] [] fun x _ _ _ _ => G p x.1 x.2
    | none => stepC P E k f (arun s) c p t st
end

/-- What is still to be done at number q. -/
def tk : Code → Nat → List TI → Nat → Option (List TI)
  | c, p, t, q => match Nat.beq q p with
    | true => some (.code c p :: t)
    | false => match c with
      | .seq a b => match Nat.ble (p + 1 + csz a) q with
        | true => tk b (p + 1 + csz a) t q
        | false => tk a (p + 1) (.code b (p + 1 + csz a) :: t) q
      | .cond _ a b => match Nat.ble (p + 1 + csz a) q with
        | true => tk b (p + 1 + csz a) t q
        | false => tk a (p + 1) t q
      | .block id a => tk a (p + 1) (.inBlock id :: t) q
      | .loop a => tk a (p + 1) (.inLoop a p :: t) q
      | _ => none

/-- From a point on: the point's own code, not the point again. -/
def tmOf : List Nat → List AV → Nat → AV
  | t :: ts, x :: xs => upd (tmOf ts xs) t x
  | _, _ => fun _ => .dead

def hpOf (H : List HE) : Heap := fun i => match H[i]? with
  | some h => h
  | none => .unused

def stOf (q : Pt) (avs : List AV) (H : List HE) : St := ⟨tmOf q.live avs, hpOf H, H.length⟩

/-- From point p on. -/
def fromPt {X : Type} (P : Program) (E : Env) (k : Nat) (f : FnA X) (G : Nat → List AV → List HE → Option X) (steps : Nat) (body : Code) (p : Nat) (avs : List AV) (H : List HE) : Option X :=
  match tk body 0 [] p, ptAt p f.pts with
  | some (.code c p' :: t), some q => stepC P E k f (arun P E k f G steps) c p' t (stOf q avs H)
  | _, _ => none

def argsTm : Nat → List AV → Nat → AV
  | _, [] => fun _ => .v undef
  | i, x :: xs => upd (argsTm (i + 1) xs) i x

/-- Whether the entries that come in are of the kinds that are told. -/
def shapeOk : List IC → List HE → Bool
  | [], [] => true
  | .box rcs :: r, .box cs :: H => Nat.beq rcs.length cs.length && shapeOk r H
  | .drop :: r, .row _ _ _ :: H => shapeOk r H
  | .keep :: r, .row _ _ _ :: H => shapeOk r H
  | .keep :: r, .mp _ _ :: H => shapeOk r H
  | .drop :: r, .tre _ _ _ _ _ _ _ :: H => shapeOk r H
  | .keep :: r, .tre _ _ _ _ _ _ none :: H => shapeOk r H
  | _, _ => false

/-- From the beginning. -/
def fromTop {X : Type} (P : Program) (E : Env) (k : Nat) (f : FnA X) (G : Nat → List AV → List HE → Option X) (steps : Nat) (body : Code) (avs : List AV) (H : List HE) : Option X :=
  match shapeOk f.rc0 H with
  | true => arun P E k f G steps [.code body 0] ⟨argsTm 0 avs, hpOf H, H.length⟩
  | false => none

/-- A contract out of a Lean function. -/
def mkS {X : Type} (args : List RC) (pat : Nat → List AV → List HE → Option (Option X)) (emb : X → AV × List HE) : Spec :=
  ⟨args, fun k avs H => match pat k avs H with
    | some o => some ⟨X, o, emb⟩
    | none => none⟩

def bodyOf (P : Program) (f : FuncId) : Code := match P.funcs[f]? with
  | some fn => match fn.body with
    | some c => c
    | none => .skip
  | none => .skip
end Go.Proofs.YtbpeiilildchlaaGreatDoor.Abs
namespace Go.Proofs.YtbpeiilildchlaaGreatDoor.Abs
open Go Go.MapKept Go.ChangeMaps Go.RowKit
set_option linter.unusedVariables false
set_option linter.unusedSectionVars false
set_option linter.unusedSimpArgs false
section
variable {α : Type} {P : Program} {w : World} {b : Nat} {enc : α → Value} {f : Int → Option α}
/-- Block b is a map: at each number what f says. -/
def MapI (w : World) (b : Nat) (enc : α → Value) (f : Int → Option α) : Prop :=
  ∃ es clock, w.heap[b]? = some (.map es clock) ∧ Stamped es clock ∧ (∀ x ∈ es.toList, ∃ n v, x.key = .int .i64 n ∧ x.val = enc v ∧ f n = some v) ∧ ∀ n v, f n = some v → ∃ x ∈ es.toList, x.key = .int .i64 n ∧ x.val = enc v
theorem MapI.kept {w' : World} (h : MapI w b enc f) (hb : w'.heap[b]? = w.heap[b]?) : MapI w' b enc f := by
  obtain ⟨es, clock, h1, h2⟩ := h
  exact ⟨es, clock, hb.trans h1, h2⟩
theorem MapI.lt (h : MapI w b enc f) : b < w.heap.size := by
  obtain ⟨es, clock, h1, h2⟩ := h
  exact (Array.getElem?_eq_some_iff.1 h1).1
theorem MapI.below {w' : World} (h : MapI w b enc f) (hb : Below w.heap.size w w') : MapI w' b enc f := h.kept (hb.block b h.lt)
theorem MapI.congr {g : Int → Option α} (h : MapI w b enc f) (e : ∀ n, f n = g n) : MapI w b enc g := by
  obtain rfl : f = g := funext e
  exact h
theorem MapI.made {clock : Nat} (hb : w.heap[b]? = some (.map #[] clock)) : MapI w b enc (fun _ => none) :=
  ⟨#[], clock, hb, stamped_empty _, by simp, fun n v h => by cases h⟩
theorem MapI.no_cells (h : MapI w b enc f) {cs : Array Value} {t : Nat} {fr : Nat × Nat} {g : Nat} (hg : w.heap[g]? = some (.cells cs t fr)) : g ≠ b := by
  rintro rfl
  obtain ⟨es, clock, h1, _⟩ := h
  rw [h1] at hg
  cases hg
theorem isKey_int (n : Int) : IsKey (.int .i64) (.int .i64 n) := rfl
theorem MapI.keys {es : Array MapEntry} (h : ∀ x ∈ es.toList, ∃ n v, x.key = .int .i64 n ∧ x.val = enc v ∧ f n = some v) : ∀ x ∈ es.toList, IsKey (.int .i64) x.key := fun x hx => by
  obtain ⟨n, v, e, _⟩ := h x hx
  rw [e]
  exact isKey_int n
variable {t k e : TypeId}
theorem MapI.look (h : MapI w b enc f) (ht : P.underlying t = some (.map k e)) (hk : P.underlying k = some (.int .i64)) {z : Value} (hz : (zeroValue e).run P w = .ok z w) (n : Int) :
    (Instr.lookup t (.map (some b)) (.int .i64 n) false).run P w = .ok (((f n).map enc).getD z) w := by
  obtain ⟨es, clock, hb, hs, h1, h2⟩ := h
  rcases findNow_spec (isKey_int n) es.toList 0 (MapI.keys h1) with ⟨e1, e2⟩ | ⟨j, e0, e1, e2, e3⟩
  · have hn : f n = none := by
      cases hf : f n with
      | none => rfl
      | some v =>
        obtain ⟨x, hx, hxk, _⟩ := h2 n v hf
        exact absurd hxk (e2 x hx)
    simp [Instr.lookup, run_underlying ht, MapKept.run_getObj_map hb, MapKept.run_checkKey hk (isKey_int n), MapKept.run_findKey hk e1, hz, hn, Result.andThen]
  · obtain ⟨m, v, hm1, hm2, hm3⟩ := h1 e0 (List.mem_of_getElem? e2)
    obtain rfl : m = n := by
      rw [hm1] at e3
      injection e3
    simp [Instr.lookup, run_underlying ht, MapKept.run_getObj_map hb, MapKept.run_checkKey hk (isKey_int m), MapKept.run_findKey hk e1, hm3, hm2, Result.andThen]
theorem MapI.put (h : MapI w b enc f) (ht : P.underlying t = some (.map k e)) (hk : P.underlying k = some (.int .i64)) (n : Int) (v : α) :
    ∃ w', (Instr.mapUpdate t (.map (some b)) (.int .i64 n) (enc v)).run P w = .ok () w' ∧ MapI w' b enc (fun m => if m = n then some v else f m) ∧ w.grownBy w' (some b) ∧ w'.heap.size = w.heap.size := by
  obtain ⟨es, clock, hb, hs, h1, h2⟩ := h
  have hpair := ((stamped_iff es clock).1 hs).2.2
  rcases findNow_spec (isKey_int n) es.toList 0 (MapI.keys h1) with ⟨e1, e2⟩ | ⟨j, e0, e1, e2, e3⟩
  · refine ⟨setBlock w b (.map (es.push ⟨.int .i64 n, enc v, clock⟩) (clock + 1)), ?_, ⟨_, _, heap_setBlock_same hb _, stamped_push hs e2, ?_, ?_⟩, ⟨rfl, rfl, rfl, by simp [setBlock], fun i _ hi => heap_setBlock_other hb _ (fun e => hi (by rw [e]))⟩, by simp [setBlock]⟩
    · simp [Instr.mapUpdate, run_underlying ht, MapKept.run_getObj_map hb, MapKept.run_checkKey hk (isKey_int n), MapKept.run_findKey hk e1, MapKept.run_setObj_map _ hb, Result.andThen, setBlock]
    · intro x hx
      simp only [Array.toList_push, List.mem_append, List.mem_singleton] at hx
      rcases hx with hx | rfl
      · obtain ⟨m, u, hm1, hm2, hm3⟩ := h1 x hx
        refine ⟨m, u, hm1, hm2, ?_⟩
        have hne : m ≠ n := fun e => e2 x hx (by rw [hm1, e])
        simp only [if_neg hne, hm3]
      · exact ⟨n, v, rfl, rfl, by simp⟩
    · intro m u hm
      simp only [Array.toList_push, List.mem_append, List.mem_singleton]
      by_cases c : m = n
      · subst c
        simp only [if_true] at hm
        obtain rfl := Option.some.inj hm
        exact ⟨_, .inr rfl, rfl, rfl⟩
      · simp only [if_neg c] at hm
        obtain ⟨x, hx, hx1, hx2⟩ := h2 m u hm
        exact ⟨x, .inl hx, hx1, hx2⟩
  · have hj : es[j]? = some e0 := by simpa using e2
    have hjl : j < es.toList.length := (List.getElem?_eq_some_iff.1 e2).1
    have hkeyf : ∀ e', es[j]? = some e' → ({ e' with key := .int .i64 n, val := enc v } : MapEntry).key = e'.key := fun e' he' => by rw [hj] at he'; cases he'; exact e3.symm
    have hlist : (es.modify j (fun e' => { e' with key := .int .i64 n, val := enc v })).toList = es.toList.set j { e0 with key := .int .i64 n, val := enc v } := by
      rw [Array.toList_modify, modify_eq_set _ _ _ _ e2]
    refine ⟨setBlock w b (.map (es.modify j (fun e' => { e' with key := .int .i64 n, val := enc v })) clock), ?_, ⟨_, _, heap_setBlock_same hb _, stamped_modify hs _ _ (fun _ _ => rfl) (fun e' _ he' => hkeyf e' he'), ?_, ?_⟩, ⟨rfl, rfl, rfl, by simp [setBlock], fun i _ hi => heap_setBlock_other hb _ (fun e => hi (by rw [e]))⟩, by simp [setBlock]⟩
    · simp [Instr.mapUpdate, run_underlying ht, MapKept.run_getObj_map hb, MapKept.run_checkKey hk (isKey_int n), MapKept.run_findKey hk e1, hj, e3, MapKept.run_keyThatStays (isKey_int n), MapKept.run_setObj_map _ hb, Result.andThen, setBlock]
    · rw [hlist]
      intro x hx
      obtain ⟨i, hi, rfl⟩ := List.getElem_of_mem hx
      rw [List.getElem_set]
      split
      · exact ⟨n, v, rfl, rfl, by simp⟩
      · rename_i hne
        have hi' : i < es.toList.length := by rw [List.length_set] at hi; exact hi
        obtain ⟨m, u, hm1, hm2, hm3⟩ := h1 es.toList[i] (List.getElem_mem hi')
        refine ⟨m, u, hm1, hm2, ?_⟩
        have hmn : m ≠ n := by
          rintro rfl
          have he0 : es.toList[j] = e0 := (List.getElem?_eq_some_iff.1 e2).2
          rcases Nat.lt_or_gt_of_ne hne with c | c
          · exact List.pairwise_iff_getElem.1 hpair j i hjl hi' c (by rw [he0, e3, hm1])
          · exact List.pairwise_iff_getElem.1 hpair i j hi' hjl c (by rw [he0, e3, hm1])
        simp only [if_neg hmn, hm3]
    · rw [hlist]
      intro m u hm
      by_cases c : m = n
      · subst c
        simp only [if_true] at hm
        obtain rfl := Option.some.inj hm
        exact ⟨_, List.mem_set hjl _, rfl, rfl⟩
      · simp only [if_neg c] at hm
        obtain ⟨x, hx, hx1, hx2⟩ := h2 m u hm
        obtain ⟨i, hi, rfl⟩ := List.getElem_of_mem hx
        have hne : j ≠ i := by
          rintro rfl
          have he0 : es.toList[j] = e0 := (List.getElem?_eq_some_iff.1 e2).2
          rw [he0, e3] at hx1
          injection hx1 with _ hx1
          exact c hx1.symm
        refine ⟨es.toList[i], ?_, hx1, hx2⟩
        rw [← List.getElem_set_ne hne (l := es.toList) (a := { e0 with key := .int .i64 n, val := enc v }) (by rw [List.length_set]; exact hi)]
        exact List.getElem_mem _
end
/-- Block B of W holds the bytes xs, then spare cells up to c, with the conversion's mark behind all, or none. -/
def BRow (W : World) (B : Nat) (xs : List Int) (c : Nat) : Prop :=
  ∃ (extra : List Value) (e : TypeId) (fr : Nat × Nat), xs.length + extra.length = c ∧ (fr = (0, 0) ∨ fr = (c, c + 1)) ∧ W.heap[B]? = some (.cells (xs.map (Value.int .u8) ++ extra).toArray e fr)
theorem numsOf_length (s : ByteArray) : (numsOf s).length = s.size := by simp [numsOf]
theorem BRow.of_bytes (W : World) (e : TypeId) (s : ByteArray) (hc : s.size ≤ grownCap W s.size 0 e) : BRow (Lib.bytesWorld W e s) W.heap.size (numsOf s) (grownCap W s.size 0 e) := by
  refine ⟨Array.toList (Array.replicate (grownCap W s.size 0 e - s.size) (.int .u8 0)), e, (grownCap W s.size 0 e, grownCap W s.size 0 e + 1), ?_, .inr rfl, ?_⟩
  · simp [numsOf_length]
    omega
  rw [Lib.bytesWorld_at_new]
  have h : Lib.bytesCells W e s = ((numsOf s).map (Value.int .u8) ++ (Array.replicate (grownCap W s.size 0 e - s.size) (Value.int .u8 0)).toList).toArray := by
    unfold Lib.bytesCells
    apply Array.ext'
    simp [numsOf]
  rw [h]
  have hz : s.size + (grownCap W s.size 0 e - s.size) = grownCap W s.size 0 e := by omega
  simp [numsOf_length, hz]
theorem BRow.cell {W : World} {B c : Nat} {xs : List Int} (h : BRow W B xs c) {i : Nat} (hi : i < xs.length) : W.cell? ⟨B, i, none⟩ = some (.int .u8 (xs.getD i 0)) := by
  obtain ⟨extra, e, fr, _, _, h⟩ := h
  simp only [World.cell?, h]
  simp [hi, List.getElem?_append, List.getD_eq_getElem?_getD]
theorem BRow.frozen' {W : World} {B c : Nat} {xs : List Int} (h : BRow W B xs c) {i : Nat} (hi : i < c) : W.frozen? ⟨B, i, none⟩ = false := by
  obtain ⟨extra, e, fr, hc, hf, h⟩ := h
  simp only [World.frozen?, h]
  rcases hf with rfl | rfl
  · simp
  · simp
    omega
theorem BRow.frozen {W : World} {B c : Nat} {xs : List Int} (h : BRow W B xs c) {i : Nat} (hi : i < xs.length) : W.frozen? ⟨B, i, none⟩ = false := by
  have h0 := h
  obtain ⟨extra, e, fr, hc, hf, _⟩ := h0
  exact h.frozen' (by omega)
theorem BRow.lt {W : World} {B c : Nat} {xs : List Int} (h : BRow W B xs c) : B < W.heap.size := by
  obtain ⟨extra, e, fr, _, _, h⟩ := h
  exact (Array.getElem?_eq_some_iff.1 h).1
theorem BRow.set {W : World} {B c : Nat} {xs : List Int} (h : BRow W B xs c) {i : Nat} (hi : i < xs.length) (v : Int) : BRow (W.setCell ⟨B, i, none⟩ (.int .u8 v)) B (xs.set i v) c := by
  obtain ⟨extra, e, fr, hc, hf, h⟩ := h
  refine ⟨extra, e, fr, by rw [List.length_set]; exact hc, hf, ?_⟩
  have hlt : B < W.heap.size := (Array.getElem?_eq_some_iff.1 h).1
  have hv : W.heap[B] = _ := (Array.getElem?_eq_some_iff.1 h).2
  simp only [World.setCell]
  rw [Array.getElem?_eq_getElem (by simpa using hlt), Array.getElem_modify]
  simp [hv, List.map_set, List.set_append, hi]
theorem BRow.same {W W1 : World} {B c : Nat} {xs : List Int} (h : BRow W B xs c) (he : W1.heap[B]? = W.heap[B]?) : BRow W1 B xs c := by
  obtain ⟨extra, e, fr, hc, hf, h⟩ := h
  exact ⟨extra, e, fr, hc, hf, he.trans h⟩
/-- What a store leaves: that cell alone. -/
theorem run_store_byte {P : Program} {W : World} {B c : Nat} {xs : List Int} (h : BRow W B xs c) {i : Nat} (hi : i < xs.length) (v : Int) : (store ⟨B, i, none⟩ (.int .u8 v)).run P W = .ok () (W.setCell ⟨B, i, none⟩ (.int .u8 v)) := by
  unfold store
  simp [Sem.run, h.cell hi, h.frozen hi]
theorem setCell_other (W : World) (a : Addr) (v : Value) (b : Nat) (hb : b ≠ a.block) : (W.setCell a v).heap[b]? = W.heap[b]? := by
  simp [World.setCell, Array.getElem?_modify, Ne.symm hb]
theorem setCell_size (W : World) (a : Addr) (v : Value) : (W.setCell a v).heap.size = W.heap.size := by simp [World.setCell]
/-- What storing bytes one behind the other leaves. -/
theorem run_store_bytes {P : Program} {B c : Nat} : (ys : List Int) → {W : World} → {xs : List Int} → BRow W B xs c → (lo k : Nat) → lo + k + ys.length ≤ xs.length →
    ∃ W', (storeCells ⟨B, lo, none⟩ (ys.map (Value.int .u8)) k).run P W = .ok () W' ∧ BRow W' B (xs.take (lo + k) ++ (ys ++ xs.drop (lo + k + ys.length))) c ∧ W'.heap.size = W.heap.size ∧ W'.os = W.os ∧ W'.tape = W.tape ∧ W'.output = W.output ∧ ∀ b, b ≠ B → W'.heap[b]? = W.heap[b]?
  | [], W, xs, h, lo, k, _ => by
    refine ⟨W, by simp [storeCells], ?_, rfl, rfl, rfl, rfl, fun _ _ => rfl⟩
    simpa using h
  | y :: ys, W, xs, h, lo, k, hl => by
    simp only [List.length_cons] at hl
    have h1 := h.set (i := lo + k) (by omega) y
    obtain ⟨W', g1, g2, g3, g4, g5, g6, g7⟩ := run_store_bytes (P := P) ys h1 lo (k + 1) (by simp; omega)
    refine ⟨W', ?_, ?_, by rw [g3, setCell_size], g4, g5, g6, fun b hb => by rw [g7 b hb, setCell_other _ _ _ _ hb]⟩
    · simp only [List.map_cons, storeCells]
      rw [Sem.run_bind, show (⟨B, lo, none⟩ : Addr).add k = ⟨B, lo + k, none⟩ from ?_, run_store_byte h (by omega) y]
      · exact g1
      · unfold Addr.add
        split
        · rename_i h0; subst h0; rfl
        · rfl
    · have e : xs.take (lo + k) ++ (y :: ys ++ xs.drop (lo + k + (y :: ys).length)) = (xs.set (lo + k) y).take (lo + (k + 1)) ++ (ys ++ (xs.set (lo + k) y).drop (lo + (k + 1) + ys.length)) := by
        simp only [List.length_cons]
        rw [List.drop_set_of_lt (by omega), List.take_set, show lo + (k + 1) = (lo + k) + 1 by omega, List.take_succ_eq_append_getElem (by omega : lo + k < xs.length), List.set_append_right _ _ (by simp; omega)]
        have : (xs.take (lo + k)).length = lo + k := by simp; omega
        rw [this, Nat.sub_self]
        simp
        omega
      rw [e]
      exact g2
end Go.Proofs.YtbpeiilildchlaaGreatDoor.Abs
namespace Go.Proofs.YtbpeiilildchlaaGreatDoor.Abs
open Go Go.RowKit
set_option linter.unusedVariables false
set_option linter.unusedSectionVars false
set_option linter.unusedSimpArgs false

/-- w' is w but for blocks of M and new ones. -/
structure Off (M : Nat → Prop) (w w' : World) : Prop where
  os : w'.os = w.os
  tape : w'.tape = w.tape
  output : w'.output = w.output
  size : w.heap.size ≤ w'.heap.size
  block : ∀ b, b < w.heap.size → ¬ M b → w'.heap[b]? = w.heap[b]?

theorem Off.refl (M : Nat → Prop) (w : World) : Off M w w := ⟨rfl, rfl, rfl, Nat.le_refl _, fun _ _ _ => rfl⟩

theorem Off.trans {M N : Nat → Prop} {a b c : World} (h : Off M a b) (g : Off N b c) (hN : ∀ x, x < a.heap.size → N x → M x) : Off M a c :=
  ⟨g.os.trans h.os, g.tape.trans h.tape, g.output.trans h.output, Nat.le_trans h.size g.size,
    fun x hx hm => (g.block x (Nat.lt_of_lt_of_le hx h.size) (fun hn => hm (hN x hx hn))).trans (h.block x hx hm)⟩

theorem Off.mono {M N : Nat → Prop} {a b : World} (h : Off M a b) (hN : ∀ x, x < a.heap.size → M x → N x) : Off N a b :=
  ⟨h.os, h.tape, h.output, h.size, fun x hx hn => h.block x hx (fun hm => hn (hN x hx hm))⟩

theorem Off.drew (M : Nat → Prop) (w : World) : Off M w w.drew := ⟨rfl, rfl, rfl, Nat.le_refl _, fun _ _ _ => rfl⟩
theorem Off.alloc (M : Nat → Prop) (w : World) (o : Obj) : Off M w (w.alloc o) := ⟨rfl, rfl, rfl, by simp, fun b hb _ => Below.heap_alloc w o b hb⟩
theorem Off.grown {w w' : World} {row : Option Nat} (h : w.grownBy w' row) : Off (fun b => row = some b) w w' :=
  ⟨h.os, h.tape, h.output, h.size, fun b hb hm => h.block b hb (fun e => hm e.symm)⟩
theorem Off.below {w w' : World} (h : Below w.heap.size w w') (M : Nat → Prop) : Off M w w' := ⟨h.os, h.tape, h.output, h.size, fun b hb _ => h.block b hb⟩
theorem Off.toBelow {M : Nat → Prop} {w w' : World} (h : Off M w w') (hM : ∀ b, b < w.heap.size → ¬ M b) : Below w.heap.size w w' :=
  ⟨h.os, h.tape, h.output, h.size, fun b hb => h.block b hb (hM b hb)⟩
theorem Off.cell {M : Nat → Prop} {w w' : World} (h : Off M w w') {b o : Nat} {u : Value} (hb : ¬ M b) (hc : w.cell? ⟨b, o, none⟩ = some u) : w'.cell? ⟨b, o, none⟩ = some u := by
  have hlt : b < w.heap.size := World.block_lt_of_cell? (a := ⟨b, o, none⟩) w hc
  rw [World.cell?_of_block (w := w) (w' := w') (a := ⟨b, o, none⟩) (h.block b hlt hb)]
  exact hc

/-! ### Elements -/
def RowR {α : Type} (M : Nat → Prop) (w : World) (K : α → List Value → Prop) (sz : Nat) (A : Option Addr) (l : List α) : Prop :=
  ∀ i x, l[i]? = some x → ∃ b o cs, A = some ⟨b, o, none⟩ ∧ ¬ M b ∧ cs.length = sz ∧ K x cs ∧ ∀ j u, cs[j]? = some u → w.cell? ⟨b, o + (i * sz + j), none⟩ = some u

def Ty.KR (M : Nat → Prop) (w : World) : (t : Ty) → t.den → List Value → Prop
  | .int k, x, cs => cs = [.int k x]
  | .bool, x, cs => cs = [.bool x]
  | .str, x, cs => cs = [.string x]
  | .sl t, l, cs => ∃ A c, cs = [.slice A l.length c] ∧ l.length ≤ c ∧ RowR M w (t.KR M w) t.sz A l
  | .pair a b, x, cs => ∃ c0 c1, cs = c0 ++ c1 ∧ a.KR M w x.1 c0 ∧ b.KR M w x.2 c1

theorem Ty.sz_pos : (t : Ty) → 0 < t.sz
  | .int _ => Nat.one_pos
  | .bool => Nat.one_pos
  | .str => Nat.one_pos
  | .sl _ => Nat.one_pos
  | .pair a b => Nat.lt_of_lt_of_le a.sz_pos (Nat.le_add_right _ _)

theorem KR_len {M : Nat → Prop} {w : World} : (t : Ty) → {x : t.den} → {cs : List Value} → t.KR M w x cs → cs.length = t.sz
  | .int _, _, _, h => by subst h; rfl
  | .bool, _, _, h => by subst h; rfl
  | .str, _, _, h => by subst h; rfl
  | .sl _, _, _, h => by obtain ⟨A, c, rfl, _⟩ := h; rfl
  | .pair a b, _, _, h => by
    obtain ⟨c0, c1, rfl, h0, h1⟩ := h
    rw [List.length_append, KR_len a h0, KR_len b h1]; rfl

theorem KR_one {M : Nat → Prop} {w : World} : (t : Ty) → {x : t.den} → {cs : List Value} → t.KR M w x cs → ∀ u ∈ cs, u.oneCell' = true
  | .int _, _, _, h, u, hu => by subst h; rw [List.mem_singleton.1 hu]; rfl
  | .bool, _, _, h, u, hu => by subst h; rw [List.mem_singleton.1 hu]; rfl
  | .str, _, _, h, u, hu => by subst h; rw [List.mem_singleton.1 hu]; rfl
  | .sl _, _, _, h, u, hu => by obtain ⟨A, c, rfl, _⟩ := h; rw [List.mem_singleton.1 hu]; rfl
  | .pair a b, _, _, h, u, hu => by
    obtain ⟨c0, c1, rfl, h0, h1⟩ := h
    rcases List.mem_append.1 hu with hu | hu
    · exact KR_one a h0 u hu
    · exact KR_one b h1 u hu

theorem RowR_step {α : Type} {M M' D : Nat → Prop} {w w' : World} {K K' : α → List Value → Prop} {sz : Nat} {A : Option Addr} {l : List α} (hsz : 0 < sz)
    (off : Off D w w') (hD : ∀ b, b < w.heap.size → D b → M b) (hM : ∀ b, b < w.heap.size → M' b → M b) (hK : ∀ x cs, K x cs → K' x cs)
    (h : RowR M w K sz A l) : RowR M' w' K' sz A l := by
  intro i x hx
  obtain ⟨b, o, cs, hA, hb, hl, hk, hc⟩ := h i x hx
  have hlt : b < w.heap.size := by
    obtain ⟨u, hu⟩ : ∃ u, cs[0]? = some u := ⟨_, List.getElem?_eq_getElem (by omega)⟩
    exact World.block_lt_of_cell? (a := ⟨b, _, none⟩) w (hc 0 u hu)
  exact ⟨b, o, cs, hA, fun hm => hb (hM b hlt hm), hl, hK x cs hk, fun j u hu => off.cell (fun hd => hb (hD b hlt hd)) (hc j u hu)⟩

theorem KR_step {M M' D : Nat → Prop} {w w' : World} (off : Off D w w') (hD : ∀ b, b < w.heap.size → D b → M b) (hM : ∀ b, b < w.heap.size → M' b → M b) :
    (t : Ty) → {x : t.den} → {cs : List Value} → t.KR M w x cs → t.KR M' w' x cs
  | .int _, _, _, h => h
  | .bool, _, _, h => h
  | .str, _, _, h => h
  | .sl t, _, _, h => by
    obtain ⟨A, c, rfl, hl, hr⟩ := h
    exact ⟨A, c, rfl, hl, RowR_step t.sz_pos off hD hM (fun _ _ hk => KR_step off hD hM t hk) hr⟩
  | .pair a b, _, _, h => by
    obtain ⟨c0, c1, rfl, h0, h1⟩ := h
    exact ⟨c0, c1, rfl, KR_step off hD hM a h0, KR_step off hD hM b h1⟩

/-- The cells of the elements of a row, one behind the other. -/
def Els {α : Type} (K : α → List Value → Prop) : List α → List Value → Prop
  | [], xs => xs = []
  | x :: l, xs => ∃ c r, xs = c ++ r ∧ K x c ∧ Els K l r

theorem Els.imp {α : Type} {K K' : α → List Value → Prop} (hK : ∀ x cs, K x cs → K' x cs) : {l : List α} → {xs : List Value} → Els K l xs → Els K' l xs
  | [], _, h => h
  | _ :: _, _, ⟨c, r, e, hc, hr⟩ => ⟨c, r, e, hK _ _ hc, Els.imp hK hr⟩

theorem Els.append {α : Type} {K : α → List Value → Prop} : {l m : List α} → {xs ys : List Value} → Els K l xs → Els K m ys → Els K (l ++ m) (xs ++ ys)
  | [], _, _, _, h, g => by cases h; simpa using g
  | _ :: _, _, _, _, ⟨c, r, e, hc, hr⟩, g => ⟨c, r ++ _, by rw [e, List.append_assoc], hc, Els.append hr g⟩

theorem Els.len {α : Type} {K : α → List Value → Prop} {sz : Nat} (hK : ∀ x cs, K x cs → cs.length = sz) : {l : List α} → {xs : List Value} → Els K l xs → xs.length = l.length * sz
  | [], _, h => by cases h; simp
  | _ :: l, _, ⟨c, r, e, hc, hr⟩ => by
    have := Els.len hK hr
    rw [e, List.length_append, hK _ _ hc, this, List.length_cons, Nat.add_mul, Nat.one_mul, Nat.add_comm]

theorem Els.one {α : Type} {K : α → List Value → Prop} {sz : Nat} (hK : ∀ x cs, K x cs → ∀ u ∈ cs, u.oneCell' = true) : {l : List α} → {xs : List Value} → Els K l xs → ∀ u ∈ xs, u.oneCell' = true
  | [], _, h, u, hu => by cases h; cases hu
  | _ :: l, _, ⟨c, r, e, hc, hr⟩, u, hu => by
    rw [e] at hu
    rcases List.mem_append.1 hu with hu | hu
    · exact hK _ _ hc u hu
    · exact Els.one (sz := sz) hK hr u hu

/-- The element at a place, its cells within the row's. -/
theorem Els.get {α : Type} {K : α → List Value → Prop} {sz : Nat} (hK : ∀ x cs, K x cs → cs.length = sz) : {l : List α} → {xs : List Value} → Els K l xs → ∀ i x, l[i]? = some x →
    ∃ cs, K x cs ∧ cs.length = sz ∧ ∀ j, j < sz → xs[i * sz + j]? = cs[j]?
  | [], _, _, i, x, hx => by simp at hx
  | y :: l, _, ⟨c, r, e, hc, hr⟩, 0, x, hx => by
    have : y = x := by simpa using hx
    subst this
    refine ⟨c, hc, hK _ _ hc, fun j hj => ?_⟩
    rw [e, Nat.zero_mul, Nat.zero_add, List.getElem?_append_left (by rw [hK _ _ hc]; exact hj)]
  | y :: l, _, ⟨c, r, e, hc, hr⟩, i + 1, x, hx => by
    obtain ⟨cs, h1, h2, h3⟩ := Els.get hK hr i x (by simpa using hx)
    refine ⟨cs, h1, h2, fun j hj => ?_⟩
    rw [e, List.getElem?_append_right (by rw [hK _ _ hc, Nat.add_mul, Nat.one_mul]; omega), hK _ _ hc, ← h3 j hj]
    congr 1
    rw [Nat.add_mul, Nat.one_mul]; omega

/-- An element replaced. -/
theorem Els.set {α : Type} {K : α → List Value → Prop} {sz : Nat} (hK : ∀ x cs, K x cs → cs.length = sz) : {l : List α} → {xs : List Value} → Els K l xs → ∀ i (y : α) cs, i < l.length → K y cs →
    Els K (l.set i y) (xs.take (i * sz) ++ cs ++ xs.drop (i * sz + sz))
  | [], _, _, i, _, _, hi, _ => by simp at hi
  | x :: l, _, ⟨c, r, e, hc, hr⟩, 0, y, cs, _, hy => by
    refine ⟨cs, r, ?_, hy, hr⟩
    rw [e, Nat.zero_mul, Nat.zero_add]
    simp [hK _ _ hc]
  | x :: l, _, ⟨c, r, e, hc, hr⟩, i + 1, y, cs, hi, hy => by
    have := Els.set hK hr i y cs (by simpa using hi) hy
    refine ⟨c, _, ?_, hc, this⟩
    have hl := hK _ _ hc
    rw [e, Nat.add_mul, Nat.one_mul]
    have h1 : (c ++ r).take (i * sz + sz) = c ++ r.take (i * sz) := by
      rw [List.take_append, hl, List.take_of_length_le (by omega)]
      congr 2; omega
    have h2 : (c ++ r).drop (i * sz + sz + sz) = r.drop (i * sz + sz) := by
      rw [List.drop_append, hl, List.drop_eq_nil_of_le (by omega), List.nil_append]
      congr 1; omega
    rw [h1, h2, List.append_assoc, List.append_assoc, List.append_assoc]

/-! ### Values -/
def xorB (ng b : Bool) : Bool := match ng with
  | true => !b
  | false => b

/-- What a program holds of an entry: the first part, where it is told by several. -/
def hd : Value → Value
  | .tuple a => a.getD 0 undef
  | v => v
/-- What may become of an entry's place: nothing; or other parts behind the first. -/
def Old (v v' : Value) : Prop := v' = v ∨ ((∃ a, v = .tuple a) ∧ (∃ a, v' = .tuple a) ∧ hd v' = hd v)
theorem Old.refl (v : Value) : Old v v := .inl rfl
theorem Old.hd {v v' : Value} (h : Old v v') : Abs.hd v' = Abs.hd v := h.elim (fun e => by rw [e]) (fun h => h.2.2)
theorem Old.trans {a b c : Value} (h : Old a b) (g : Old b c) : Old a c := by
  rcases h with rfl | ⟨h1, h2, h3⟩
  · exact g
  · rcases g with rfl | ⟨_, g2, g3⟩
    · exact .inr ⟨h1, h2, h3⟩
    · exact .inr ⟨h1, g2, g3.trans h3⟩
theorem Old.eq {v v' : Value} (h : Old v v') (hn : ∀ a, v ≠ .tuple a) : v' = v := h.elim id (fun ⟨⟨a, e⟩, _⟩ => absurd e (hn a))
theorem Old.slice {v v' : Value} (h : Old v v') {A : Option Addr} {n c : Nat} (e : v = .slice A n c) : v' = .slice A n c := (h.eq (fun a e' => by rw [e] at e'; cases e')).trans e
theorem Old.ptr {v v' : Value} (h : Old v v') {A : Option Addr} (e : v = .pointer A) : v' = .pointer A := (h.eq (fun a e' => by rw [e] at e'; cases e')).trans e

mutual
/-- y is what the abstract value says. -/
def R (M : Nat → Prop) (w : World) (ρ : Nat → Value) (hp : Heap) : AV → Value → Prop
  | .v x, y => y = x
  | .bs ng b, y => y = .bool (xorB ng b)
  | .bp ng p d, y => y = .bool (xorB ng (@decide p d))
  | .ifc n, y => (n = true ∧ y = .nilIface) ∨ (n = false ∧ ∃ t x, y = .iface t x)
  | .con t l, y => ∃ A c, y = .slice A l.length c ∧ l.length ≤ c ∧ RowR M w (t.KR M w) t.sz A l
  | .own i, y => hp i ≠ .unused ∧ y = hd (ρ i) ∧ ∃ A n c, y = .slice A n c
  | .box i off, y => hp i ≠ .unused ∧ ∃ g o, ρ i = .pointer (some ⟨g, o, none⟩) ∧ y = .pointer (some ⟨g, o + off, none⟩)
  | .elt t x off, y => ∃ b o cs, y = .pointer (some ⟨b, o + off, none⟩) ∧ ¬ M b ∧ t.KR M w x cs ∧ ∀ j u, cs[j]? = some u → w.cell? ⟨b, o + j, none⟩ = some u
  | .oel i sz j off, y => hp i ≠ .unused ∧ ∃ g n c, hd (ρ i) = .slice (some ⟨g, 0, none⟩) n c ∧ j < n ∧ y = .pointer (some ⟨g, j * sz + off, none⟩)
  | .mp i, y => hp i ≠ .unused ∧ y = ρ i ∧ ∃ b, y = .map (some b)
  | .sub i lo, y => hp i ≠ .unused ∧ ∃ g n c c' A, ρ i = .slice (some ⟨g, 0, none⟩) n c ∧ lo ≤ n ∧ y = .slice (some A) (n - lo) c' ∧ (lo < n → A = ⟨g, lo, none⟩) ∧ n - lo ≤ c'
  | .fn f n cs, y => ∃ vs, y = .func (.func f) (vs.take n).toArray (vs.drop n).toArray ∧ Rs M w ρ hp cs vs
  | .agg cs, y => ∃ vs, y = .agg vs.toArray ∧ Rs M w ρ hp cs vs
  | .tup cs, y => ∃ vs, y = .tuple vs.toArray ∧ Rs M w ρ hp cs vs
  | .dead, _ => True
def Rs (M : Nat → Prop) (w : World) (ρ : Nat → Value) (hp : Heap) : List AV → List Value → Prop
  | [], vs => vs = []
  | a :: as, vs => ∃ v r, vs = v :: r ∧ R M w ρ hp a v ∧ Rs M w ρ hp as r
end

mutual
theorem R_step {M M' D : Nat → Prop} {w w' : World} {ρ ρ' : Nat → Value} {hp hp' : Heap} (off : Off D w w') (hD : ∀ b, b < w.heap.size → D b → M b) (hM : ∀ b, b < w.heap.size → M' b → M b)
    (hρ : ∀ i, hp i ≠ .unused → Old (ρ i) (ρ' i) ∧ hp' i ≠ .unused) : (a : AV) → {y : Value} → R M w ρ hp a y → R M' w' ρ' hp' a y
  | .v _, _, h => h
  | .bs _ _, _, h => h
  | .bp _ _ _, _, h => h
  | .ifc _, _, h => h
  | .con t _, _, ⟨A, c, e, hl, hr⟩ => ⟨A, c, e, hl, RowR_step t.sz_pos off hD hM (fun _ _ hk => KR_step off hD hM t hk) hr⟩
  | .own i, _, ⟨hu, e, s⟩ => ⟨(hρ i hu).2, by rw [(hρ i hu).1.hd]; exact e, s⟩
  | .box i _, _, ⟨hu, g, o, e, e'⟩ => ⟨(hρ i hu).2, g, o, (hρ i hu).1.ptr e, e'⟩
  | .elt t x _, _, ⟨b, o, cs, e, hb, hk, hc⟩ => by
    have hlt : b < w.heap.size := by
      obtain ⟨u, hu⟩ : ∃ u, cs[0]? = some u := ⟨_, List.getElem?_eq_getElem (by rw [KR_len t hk]; exact t.sz_pos)⟩
      exact World.block_lt_of_cell? (a := ⟨b, _, none⟩) w (hc 0 u hu)
    exact ⟨b, o, cs, e, fun hm => hb (hM b hlt hm), KR_step off hD hM t hk, fun j u hu => off.cell (fun hd => hb (hD b hlt hd)) (hc j u hu)⟩
  | .oel i _ _ _, _, ⟨hu, g, n, c, e, r⟩ => ⟨(hρ i hu).2, g, n, c, by rw [(hρ i hu).1.hd]; exact e, r⟩
  | .mp i, _, ⟨hu, e, b, s⟩ => ⟨(hρ i hu).2, ((hρ i hu).1.eq (fun a e' => by rw [e, e'] at s; cases s)).symm ▸ e, b, s⟩
  | .sub i _, _, ⟨hu, g, n, c, c', A, e, r⟩ => ⟨(hρ i hu).2, g, n, c, c', A, (hρ i hu).1.slice e, r⟩
  | .fn _ _ cs, _, ⟨vs, e, h⟩ => ⟨vs, e, Rs_step off hD hM hρ cs h⟩
  | .agg cs, _, ⟨vs, e, h⟩ => ⟨vs, e, Rs_step off hD hM hρ cs h⟩
  | .tup cs, _, ⟨vs, e, h⟩ => ⟨vs, e, Rs_step off hD hM hρ cs h⟩
  | .dead, _, _ => trivial
theorem Rs_step {M M' D : Nat → Prop} {w w' : World} {ρ ρ' : Nat → Value} {hp hp' : Heap} (off : Off D w w') (hD : ∀ b, b < w.heap.size → D b → M b) (hM : ∀ b, b < w.heap.size → M' b → M b)
    (hρ : ∀ i, hp i ≠ .unused → Old (ρ i) (ρ' i) ∧ hp' i ≠ .unused) : (as : List AV) → {ys : List Value} → Rs M w ρ hp as ys → Rs M' w' ρ' hp' as ys
  | [], _, h => h
  | a :: as, _, ⟨v, r, e, h0, h1⟩ => ⟨v, r, e, R_step off hD hM hρ a h0, Rs_step off hD hM hρ as h1⟩
end

section
variable {M : Nat → Prop} {w : World} {ρ : Nat → Value} {hp : Heap}
theorem Rs_len : {as : List AV} → {vs : List Value} → Rs M w ρ hp as vs → vs.length = as.length
  | [], _, h => by cases h; rfl
  | _ :: as, _, ⟨v, r, e, _, h⟩ => by rw [e, List.length_cons, Rs_len h, List.length_cons]
theorem Rs_append : {as bs : List AV} → {vs us : List Value} → Rs M w ρ hp as vs → Rs M w ρ hp bs us → Rs M w ρ hp (as ++ bs) (vs ++ us)
  | [], _, _, _, h, g => by cases h; simpa using g
  | _ :: _, _, _, _, ⟨v, r, e, h0, h⟩, g => ⟨v, r ++ _, by rw [e]; rfl, h0, Rs_append h g⟩
theorem Rs_take : {as : List AV} → {vs : List Value} → Rs M w ρ hp as vs → ∀ n, Rs M w ρ hp (as.take n) (vs.take n)
  | [], _, h, n => by cases h; simp [Rs]
  | a :: as, _, _, 0 => by simp [Rs]
  | a :: as, _, ⟨v, r, e, h0, h⟩, n + 1 => by rw [e]; exact ⟨v, r.take n, rfl, h0, Rs_take h n⟩
theorem Rs_drop : {as : List AV} → {vs : List Value} → Rs M w ρ hp as vs → ∀ n, Rs M w ρ hp (as.drop n) (vs.drop n)
  | [], _, h, n => by cases h; simp [Rs]
  | a :: as, _, h, 0 => h
  | a :: as, _, ⟨v, r, e, h0, h⟩, n + 1 => by rw [e]; exact Rs_drop h n
theorem Rs_get : {as : List AV} → {vs : List Value} → Rs M w ρ hp as vs → ∀ (i : Nat) (a : AV), as[i]? = some a → ∃ v, vs[i]? = some v ∧ R M w ρ hp a v
  | [], _, _, i, a, ha => by simp at ha
  | b :: as, _, ⟨v, r, e, h0, h⟩, 0, a, ha => by
    have : b = a := by simpa using ha
    subst this; exact ⟨v, by rw [e]; rfl, h0⟩
  | b :: as, _, ⟨v, r, e, h0, h⟩, i + 1, a, ha => by
    obtain ⟨u, hu, hr⟩ := Rs_get h i a (by simpa using ha)
    exact ⟨u, by rw [e]; simpa using hu, hr⟩
theorem Rs_vals : (l : List Value) → Rs M w ρ hp (l.map .v) l
  | [] => rfl
  | x :: l => ⟨x, l, rfl, rfl, Rs_vals l⟩
theorem Rs_vals_eq : {l : List Value} → {vs : List Value} → Rs M w ρ hp (l.map .v) vs → vs = l
  | [], _, h => h
  | x :: l, _, ⟨v, r, e, h0, h⟩ => by rw [e, Rs_vals_eq h]; cases h0; rfl
end
end Go.Proofs.YtbpeiilildchlaaGreatDoor.Abs
namespace Go.Proofs.YtbpeiilildchlaaGreatDoor.Abs
open Go Go.RowKit
set_option linter.unusedVariables false
set_option linter.unusedSectionVars false
set_option linter.unusedSimpArgs false

def live : HE → Prop
  | .box _ => True
  | .row _ _ _ => True
  | .mp _ _ => True
  | .bts _ => True
  | .bld _ _ => True
  | .tre _ _ _ _ _ _ _ => True
  | _ => False

def blk : Value → Option Nat
  | .pointer (some a) => some a.block
  | .slice (some a) _ _ => some a.block
  | .map (some b) => some b
  | _ => none

/-- The blocks of what stands at an entry: of a value, or of several. -/
def At : Value → Nat → Prop
  | .tuple a => fun b => ∃ x ∈ a.toList, blk x = some b
  | v => fun b => blk v = some b

theorem blk_own {v : Value} (h : ∃ a n c, v = .slice a n c) : At v = fun b => v.ownBlock = some b := by
  obtain ⟨a, n, c, rfl⟩ := h
  cases a <;> rfl

/-- The blocks of what is live. -/
def Lv (hp : Heap) (ρ : Nat → Value) (b : Nat) : Prop := ∃ i, live (hp i) ∧ At (ρ i) b
/-- What may be written, here or by those who called. -/
def Mut (MX : Nat → Prop) (hp : Heap) (ρ : Nat → Value) (b : Nat) : Prop := MX b ∨ Lv hp ρ b

/-- Tables of the program: blocks that nobody writes, and what is known of their cells. -/
def isTab (l : List Value) : Array Value → Prop := fun C => C = l.toArray
def someInt : Array Value → Prop := fun C => ∃ m, C[0]? = some (.int .i64 m)
def someErr : Array Value → Prop := fun C => ∃ ev, C[0]? = some ev ∧ (ev = .nilIface ∨ ∃ te pe, ev = .iface te pe)
def tabs : List (Nat × (Array Value → Prop)) := []
def Tb (w : World) (L : Nat → Prop) : Prop := ∀ p ∈ tabs, (∃ C T f, w.heap[p.1]? = some (.cells C T f) ∧ p.2 C) ∧ ¬ L p.1

theorem Tb.next {D L L' : Nat → Prop} {w w' : World} (h : Tb w L) (off : Off D w w') (hD : ∀ b, b < w.heap.size → D b → L b) (nwl : ∀ b, b < w.heap.size → L' b → L b) : Tb w' L' := by
  intro p hp
  obtain ⟨⟨C, T, f, h1, hC⟩, h2⟩ := h p hp
  have hlt : p.1 < w.heap.size := (Array.getElem?_eq_some_iff.1 h1).1
  exact ⟨⟨C, T, f, (off.block p.1 hlt fun hd => h2 (hD _ hlt hd)).trans h1, hC⟩, fun hl => h2 (nwl _ hlt hl)⟩

/-- The cells of an element whose last cell is a slice. -/
def KT (M : Nat → Prop) (w : World) : (t : Ty) → t.den → Value → List Value → Prop
  | .sl _, _, s, cs => cs = [s]
  | .pair a b, x, s, cs => ∃ c0 c1, cs = c0 ++ c1 ∧ a.KR M w x.1 c0 ∧ KT M w b x.2 s c1
  | .int _, _, _, _ => False
  | .bool, _, _, _ => False
  | .str, _, _, _ => False
/-- The row to which that slice leads. -/
def Inn (M : Nat → Prop) (w : World) (be : TypeId) (t : Ty) (x : t.den) (s : Value) : Prop :=
  ∃ ys, w.ownsRow 0 be t.inn.sz s (t.get x).length ys ∧ Els (t.inn.KR M w) (t.get x) ys
/-- What of the slices is the entry's own: all but the one that was taken out. -/
def hole (cur : Option (Nat × Nat)) (ss : List Value) : List Value :=
  match cur with
  | none => ss
  | some (j, _) => ss.set j (.slice none 0 0)
def Dis (ss : List Value) : Prop := ∀ (j k : Nat) (s s' : Value) (b : Nat), ss[j]? = some s → ss[k]? = some s' → blk s = some b → blk s' = some b → j = k

/-- What an element's last cell holds of a row: the row; or its numbers from a place on. -/
def Vw (o : Nat) (s u : Value) : Prop := match o with
  | 0 => u = s
  | o + 1 => ∃ g n c c' A, s = .slice (some ⟨g, 0, none⟩) n c ∧ o + 1 ≤ n ∧ u = .slice (some A) (n - (o + 1)) c' ∧ (o + 1 < n → A = ⟨g, o + 1, none⟩) ∧ n - (o + 1) ≤ c'

structure TreOk (M : Nat → Prop) (w : World) (ρ : Nat → Value) (hp : Heap) (i : Nat) (o : Nat) (fr : Option Nat) (e be : TypeId) (t : Ty) (l : List t.den) (cur : Option (Nat × Nat)) (v : Value) (ss us xs : List Value) : Prop where
  nest : t.nest = true
  osz : o = 0 ∨ t.inn.sz = 1
  pl : ρ i = .tuple (v :: hole cur ss).toArray ∨ (l = [] ∧ cur = none ∧ v = .slice none 0 0 ∧ ρ i = .slice none 0 0)
  len : ss.length = l.length
  ulen : us.length = l.length
  own : w.ownsRow 0 e t.sz v l.length xs
  els : Els (fun (p : t.den × Value) cs => KT M w t p.1 p.2 cs) (l.zip us) xs
  inn : ∀ (j : Nat) (x : t.den) (s : Value), frN fr ≤ j → l[j]? = some x → ss[j]? = some s → (∀ q, cur ≠ some (j, q)) → Inn M w be t x s
  dead : ∀ (j : Nat) (s : Value), j < frN fr → ss[j]? = some s → s = .slice none 0 0
  vw : ∀ (j : Nat) (s u : Value), frN fr ≤ j → ss[j]? = some s → us[j]? = some u → Vw o s u
  dis : Dis (v :: hole cur ss)
  sl : ∀ s ∈ ss, ∃ A n c, s = .slice A n c
  cur_ : ∀ j q, cur = some (j, q) → frN fr ≤ j ∧ j < ss.length ∧ ss[j]? = some (ρ q) ∧ hp q ≠ .unused

def HEok (M : Nat → Prop) (w : World) (ρ : Nat → Value) (hp : Heap) (i : Nat) : HE → Prop
  | .unused => True
  | .gone => True
  | .box cs => ∃ g o C e vs, ρ i = .pointer (some ⟨g, o, none⟩) ∧ w.heap[g]? = some (.cells C e (0, 0)) ∧ Rs M w ρ hp cs vs ∧ ∀ (j : Nat) (v : Value), vs[j]? = some v → C[o + j]? = some v
  | .row e t l => ∃ xs, w.ownsRow 0 e t.sz (ρ i) l.length xs ∧ Els (t.KR M w) l xs
  | .frz t l => ∃ A c, ρ i = .slice A l.length c ∧ l.length ≤ c ∧ RowR M w (t.KR M w) t.sz A l
  | .mp t f => ∃ b, ρ i = .map (some b) ∧ MapI w b t.enc1 f
  | .bts l => ∃ g c, ρ i = .slice (some ⟨g, 0, none⟩) l.length c ∧ l.length ≤ c ∧ BRow w g l c
  | .bld T c => ∃ g p v, ρ i = .pointer (some ⟨g, 0, none⟩) ∧ w.heap[g]? = some (.cells #[p, v] T (0, 0)) ∧ (p = .pointer none ∨ p = .pointer (some ⟨g, 0, none⟩)) ∧ R M w ρ hp c v
  | .tre o fr e be t l cur => ∃ v ss us xs, TreOk M w ρ hp i o fr e be t l cur v ss us xs

structure HRel (MX : Nat → Prop) (w : World) (ρ : Nat → Value) (hp : Heap) : Prop where
  ok : ∀ i, HEok (Mut MX hp ρ) w ρ hp i (hp i)
  sep : ∀ i j b, live (hp i) → live (hp j) → At (ρ i) b → At (ρ j) b → i = j
  ext : ∀ i b, live (hp i) → At (ρ i) b → ¬ MX b
  mx : ∀ b, MX b → b < w.heap.size
  tb : Tb w (Lv hp ρ)

theorem own_kept {w w' : World} {e sz n : Nat} {v : Value} {xs : List Value} (h : w.ownsRow 0 e sz v n xs) (hb : ∀ b, At v b → b < w.heap.size → w'.heap[b]? = w.heap[b]?) : w'.ownsRow 0 e sz v n xs := by
  refine ⟨h.1, ?_⟩
  rcases h.2 with h2 | ⟨g, cap, cur, rfl, hg, hh, r⟩
  · exact .inl h2
  · exact .inr ⟨g, cap, cur, rfl, hg, (hb g rfl (Array.getElem?_eq_some_iff.1 hh).1).trans hh, r⟩

theorem KT_step {M M' D : Nat → Prop} {w w' : World} (off : Off D w w') (hD : ∀ b, b < w.heap.size → D b → M b) (hM : ∀ b, b < w.heap.size → M' b → M b) :
    (t : Ty) → {x : t.den} → {s : Value} → {cs : List Value} → KT M w t x s cs → KT M' w' t x s cs
  | .sl _, _, _, _, h => h
  | .pair a b, _, _, _, ⟨c0, c1, e, h0, h1⟩ => ⟨c0, c1, e, KR_step off hD hM a h0, KT_step off hD hM b h1⟩
  | .int _, _, _, _, h => h.elim
  | .bool, _, _, _, h => h.elim
  | .str, _, _, _, h => h.elim

theorem hole_len (cur : Option (Nat × Nat)) (ss : List Value) : (hole cur ss).length = ss.length := by
  unfold hole
  split
  · rfl
  · rw [List.length_set]

theorem hole_get {cur : Option (Nat × Nat)} {ss : List Value} {j : Nat} (h : ∀ q, cur ≠ some (j, q)) : (hole cur ss)[j]? = ss[j]? := by
  unfold hole
  split
  · rfl
  · rename_i j' q
    rw [List.getElem?_set_ne (fun e => h q (by rw [e]))]

theorem at_tuple {v : Value} {ss : List Value} {b : Nat} : At (.tuple (v :: ss).toArray) b ↔ ∃ (j : Nat) (s : Value), (v :: ss)[j]? = some s ∧ blk s = some b := by
  constructor
  · rintro ⟨x, hx, hb⟩
    obtain ⟨j, hj, rfl⟩ := List.mem_iff_getElem.1 hx
    exact ⟨j, _, List.getElem?_eq_getElem hj, hb⟩
  · rintro ⟨j, s, hj, hb⟩
    exact ⟨s, List.mem_of_getElem? hj, hb⟩

theorem TreOk.hd_ {M : Nat → Prop} {w : World} {ρ : Nat → Value} {hp : Heap} {i o : Nat} {fr : Option Nat} {e be : TypeId} {t : Ty} {l : List t.den} {cur : Option (Nat × Nat)} {v : Value} {ss us xs : List Value} (h : TreOk M w ρ hp i o fr e be t l cur v ss us xs) : hd (ρ i) = v := by
  rcases h.pl with e | ⟨_, _, e1, e2⟩
  · rw [e]; rfl
  · rw [e2, e1]; rfl
theorem TreOk.tup {M : Nat → Prop} {w : World} {ρ : Nat → Value} {hp : Heap} {i o : Nat} {fr : Option Nat} {e be : TypeId} {t : Ty} {l : List t.den} {cur : Option (Nat × Nat)} {v : Value} {ss us xs : List Value} (h : TreOk M w ρ hp i o fr e be t l cur v ss us xs) (hne : 0 < l.length) : ρ i = .tuple (v :: hole cur ss).toArray :=
  h.pl.resolve_right fun h => by rw [h.1] at hne; simp at hne
theorem TreOk.at_ {M : Nat → Prop} {w : World} {ρ : Nat → Value} {hp : Heap} {i o : Nat} {fr : Option Nat} {e be : TypeId} {t : Ty} {l : List t.den} {cur : Option (Nat × Nat)} {v : Value} {ss us xs : List Value} (h : TreOk M w ρ hp i o fr e be t l cur v ss us xs) {b : Nat} : At (ρ i) b ↔ ∃ (j : Nat) (s : Value), (v :: hole cur ss)[j]? = some s ∧ blk s = some b := by
  rcases h.pl with e | ⟨e0, e1, e2, e3⟩
  · rw [e]; exact at_tuple
  · have hs : ss = [] := List.eq_nil_of_length_eq_zero (by rw [h.len, e0]; rfl)
    rw [e3]
    subst e1 e2 hs
    constructor
    · intro hb; cases hb
    · rintro ⟨j, s, hj, hb⟩
      cases j with
      | zero => simp at hj; subst hj; cases hb
      | succ j => simp [hole] at hj

theorem at_own {w : World} {e sz n : Nat} {v : Value} {xs : List Value} (h : w.ownsRow 0 e sz v n xs) : At v = fun b => blk v = some b := by
  rcases h.2 with ⟨h2, _⟩ | ⟨g, cap, cur, h2, _⟩ <;> rw [h2] <;> rfl
theorem Inn_step {M M' D : Nat → Prop} {w w' : World} (off : Off D w w') (hD : ∀ b, b < w.heap.size → D b → M b) (hM : ∀ b, b < w.heap.size → M' b → M b) {be : TypeId} {t : Ty} {x : t.den} {s : Value} (hb : ∀ b, blk s = some b → ¬ D b) (h : Inn M w be t x s) : Inn M' w' be t x s := by
  obtain ⟨ys, h1, h2⟩ := h
  exact ⟨ys, own_kept h1 fun b hbs hlt => off.block b hlt (hb b (by rw [at_own h1] at hbs; exact hbs)), Els.imp (fun _ _ h => KR_step off hD hM t.inn h) h2⟩

theorem TreOk.step {M M' D : Nat → Prop} {w w' : World} {ρ ρ' : Nat → Value} {hp hp' : Heap} (off : Off D w w') (hD : ∀ b, b < w.heap.size → D b → M b) (hM : ∀ b, b < w.heap.size → M' b → M b)
    (hρ : ∀ i, hp i ≠ .unused → Old (ρ i) (ρ' i) ∧ hp' i ≠ .unused) {i o : Nat} {fr : Option Nat} {e be : TypeId} {t : Ty} {l : List t.den} {cur : Option (Nat × Nat)} {v : Value} {ss us xs : List Value} (hi : ρ' i = ρ i) (hd : ∀ b, At (ρ i) b → ¬ D b) (h : TreOk M w ρ hp i o fr e be t l cur v ss us xs) : TreOk M' w' ρ' hp' i o fr e be t l cur v ss us xs := by
  have hat : ∀ (j : Nat) (s : Value), (v :: hole cur ss)[j]? = some s → ∀ b, blk s = some b → ¬ D b := fun j s hj b hb => hd b (h.at_.2 ⟨j, s, hj, hb⟩)
  refine ⟨h.nest, h.osz, by rw [hi]; exact h.pl, h.len, h.ulen, own_kept h.own fun b hb hlt => off.block b hlt (hat 0 v rfl b (by rw [at_own h.own] at hb; exact hb)), Els.imp (fun _ _ hk => KT_step off hD hM t hk) h.els, fun j x s hf hx hs hc => ?_, h.dead, h.vw, h.dis, h.sl, fun j q hc => ?_⟩
  · refine Inn_step off hD hM (hat (j + 1) s ?_) (h.inn j x s hf hx hs hc)
    rw [List.getElem?_cons_succ, hole_get hc]
    exact hs
  · obtain ⟨h0, h1, h2, h3⟩ := h.cur_ j q hc
    obtain ⟨A, n, c, e'⟩ := h.sl _ (List.mem_of_getElem? h2)
    exact ⟨h0, h1, by rw [(hρ q h3).1.slice e', ← e']; exact h2, (hρ q h3).2⟩

theorem HEok_step {M M' D : Nat → Prop} {w w' : World} {ρ ρ' : Nat → Value} {hp hp' : Heap} (off : Off D w w') (hD : ∀ b, b < w.heap.size → D b → M b) (hM : ∀ b, b < w.heap.size → M' b → M b)
    (hρ : ∀ i, hp i ≠ .unused → Old (ρ i) (ρ' i) ∧ hp' i ≠ .unused) {i : Nat} {h : HE} (hi : ρ' i = ρ i) (hd : live h → ∀ b, At (ρ i) b → ¬ D b) (hk : HEok M w ρ hp i h) : HEok M' w' ρ' hp' i h := by
  cases h with
  | unused => trivial
  | gone => trivial
  | box cs =>
    obtain ⟨g, o, C, e, vs, h1, h2, h3, h4⟩ := hk
    have hlt : g < w.heap.size := (Array.getElem?_eq_some_iff.1 h2).1
    refine ⟨g, o, C, e, vs, by rw [hi]; exact h1, ?_, Rs_step off hD hM hρ cs h3, h4⟩
    rw [off.block g hlt (hd trivial g (by rw [h1]; rfl))]; exact h2
  | row e t l =>
    obtain ⟨xs, h1, h2⟩ := hk
    refine ⟨xs, ?_, Els.imp (fun _ _ h => KR_step off hD hM t h) h2⟩
    rw [hi]
    exact own_kept h1 fun b hb hlt => off.block b hlt (hd trivial b hb)
  | mp t f =>
    obtain ⟨b, h1, h2⟩ := hk
    exact ⟨b, by rw [hi]; exact h1, h2.kept (off.block b h2.lt (hd trivial b (by rw [h1]; rfl)))⟩
  | bld T c =>
    obtain ⟨g, p, v, h1, h2, h3, h4⟩ := hk
    have hlt : g < w.heap.size := (Array.getElem?_eq_some_iff.1 h2).1
    exact ⟨g, p, v, by rw [hi]; exact h1, (off.block g hlt (hd trivial g (by rw [h1]; rfl))).trans h2, h3, R_step off hD hM hρ c h4⟩
  | bts l =>
    obtain ⟨g, c, h1, h2, h3⟩ := hk
    exact ⟨g, c, by rw [hi]; exact h1, h2, h3.same (off.block g h3.lt (hd trivial g (by rw [h1]; rfl)))⟩
  | tre o fr e be t l cur =>
    obtain ⟨v, ss, us, xs, h⟩ := hk
    exact ⟨v, ss, us, xs, h.step off hD hM hρ hi (hd trivial)⟩
  | frz t l =>
    obtain ⟨A, c, h1, h2, h3⟩ := hk
    exact ⟨A, c, by rw [hi]; exact h1, h2, RowR_step t.sz_pos off hD hM (fun _ _ h => KR_step off hD hM t h) h3⟩

theorem hd_slice {v : Value} {A : Option Addr} {n c : Nat} (h : v = .slice A n c) : hd v = v := by rw [h]; rfl
theorem hd_v {v : Value} (h : ∃ A n c, v = .slice A n c) : hd v = v := by
  obtain ⟨A, n, c, rfl⟩ := h
  rfl
theorem hd_own {w : World} {e sz n : Nat} {v : Value} {xs : List Value} (h : w.ownsRow 0 e sz v n xs) : hd v = v := by
  rcases h.2 with ⟨h, _⟩ | ⟨g, cap, cur, h, _⟩ <;> rw [h] <;> rfl

theorem own_lt {w : World} {e sz n b : Nat} {v : Value} {xs : List Value} (h : w.ownsRow 0 e sz v n xs) (hb : blk v = some b) : b < w.heap.size := by
  rcases h.2 with ⟨h2, _⟩ | ⟨g, cap, cur, h2, _, hh, _⟩
  · rw [h2] at hb; cases hb
  · rw [h2] at hb
    have : g = b := by simpa [blk] using hb
    subst this
    exact (Array.getElem?_eq_some_iff.1 hh).1
theorem TreOk.lt {M : Nat → Prop} {w : World} {ρ : Nat → Value} {hp : Heap} {i o : Nat} {fr : Option Nat} {e be : TypeId} {t : Ty} {l : List t.den} {cur : Option (Nat × Nat)} {v : Value} {ss us xs : List Value} (h : TreOk M w ρ hp i o fr e be t l cur v ss us xs) {b : Nat} (hb : At (ρ i) b) : b < w.heap.size := by
  obtain ⟨j, s, hj, hbs⟩ := h.at_.1 hb
  cases j with
  | zero =>
    have : v = s := by simpa using hj
    subst this
    exact own_lt h.own hbs
  | succ j =>
    rw [List.getElem?_cons_succ] at hj
    by_cases hc : ∃ q, cur = some (j, q)
    · obtain ⟨q, rfl⟩ := hc
      have hlt := (h.cur_ j q rfl).2.1
      unfold hole at hj
      rw [List.getElem?_set_self hlt] at hj
      injection hj with hj
      subst hj
      cases hbs
    · have hc' : ∀ q, cur ≠ some (j, q) := fun q e => hc ⟨q, e⟩
      rw [hole_get hc'] at hj
      have hjl : j < l.length := by
        have := (List.getElem?_eq_some_iff.1 hj).1
        rw [h.len] at this
        exact this
      by_cases hf : frN fr ≤ j
      · obtain ⟨ys, h1, _⟩ := h.inn j _ s hf (List.getElem?_eq_getElem hjl) hj hc'
        exact own_lt h1 hbs
      · rw [h.dead j s (by omega) hj] at hbs
        cases hbs
/-- Of the block at p nothing has changed but the n cells from p on. -/
def Inside (w w' : World) (p : Value) (n : Nat) : Prop :=
  ∀ g o, p = .pointer (some ⟨g, o, none⟩) → ∃ C C' e, w.heap[g]? = some (.cells C e (0, 0)) ∧ w'.heap[g]? = some (.cells C' e (0, 0)) ∧ C'.size = C.size ∧ ∀ j : Nat, (j < o ∨ o + n ≤ j) → C'[j]? = C[j]?

theorem Inside.trans {w w1 w2 : World} {p : Value} {n : Nat} (h : Inside w w1 p n) (g : Inside w1 w2 p n) : Inside w w2 p n := by
  intro b o e
  obtain ⟨C, C1, e1, h1, h2, h3, h4⟩ := h b o e
  obtain ⟨C1', C2, e2, g1, g2, g3, g4⟩ := g b o e
  rw [h2] at g1
  injection g1 with g1
  injection g1 with ec ee
  subst ec ee
  exact ⟨C, C2, e1, h1, g2, g3.trans h3, fun j hj => (g4 j hj).trans (h4 j hj)⟩

theorem HEok.inside {M : Nat → Prop} {w w' : World} {ρ : Nat → Value} {hp : Heap} {i : Nat} {cs : List AV} (h : HEok M w ρ hp i (.box cs)) (hb : ∀ b, At (ρ i) b → b < w.heap.size → w'.heap[b]? = w.heap[b]?) (n : Nat) : Inside w w' (ρ i) n := by
  intro g o e
  obtain ⟨g', o', C, ty, vs, h1, h2, _⟩ := h
  rw [e] at h1
  injection h1 with h1
  injection h1 with h1
  injection h1 with e1 e2
  subst e1 e2
  exact ⟨C, C, ty, h2, (hb g (by rw [e]; rfl) (Array.getElem?_eq_some_iff.1 h2).1).trans h2, rfl, fun _ _ => rfl⟩

/-- From one state to a later one. -/
structure Step (MX : Nat → Prop) (w : World) (ρ : Nat → Value) (hp : Heap) (w' : World) (ρ' : Nat → Value) (hp' : Heap) : Prop where
  rel : HRel MX w' ρ' hp'
  off : Off (Lv hp ρ) w w'
  old : ∀ i, hp i ≠ .unused → Old (ρ i) (ρ' i) ∧ hp' i ≠ .unused
  nwl : ∀ b, b < w.heap.size → Lv hp' ρ' b → Lv hp ρ b
  bx : ∀ i cs, hp i = .box cs → ∃ cs', hp' i = .box cs' ∧ cs'.length = cs.length ∧ Inside w w' (ρ i) cs.length

theorem Step.refl {MX : Nat → Prop} {w : World} {ρ : Nat → Value} {hp : Heap} (h : HRel MX w ρ hp) : Step MX w ρ hp w ρ hp :=
  ⟨h, Off.refl _ _, fun _ hu => ⟨Old.refl _, hu⟩, fun _ _ h => h, fun i cs hi => ⟨cs, hi, rfl, HEok.inside (hi ▸ h.ok i) (fun _ _ _ => rfl) _⟩⟩

theorem Step.trans {MX : Nat → Prop} {w w1 w2 : World} {ρ ρ1 ρ2 : Nat → Value} {hp hp1 hp2 : Heap} (h : Step MX w ρ hp w1 ρ1 hp1) (g : Step MX w1 ρ1 hp1 w2 ρ2 hp2) : Step MX w ρ hp w2 ρ2 hp2 :=
  ⟨g.rel, h.off.trans g.off h.nwl, fun i hu => ⟨(h.old i hu).1.trans (g.old i (h.old i hu).2).1, (g.old i (h.old i hu).2).2⟩,
    fun b hb hl => h.nwl b hb (g.nwl b (Nat.lt_of_lt_of_le hb h.off.size) hl), fun i cs hi => by
      obtain ⟨c1, h1, h2, h3⟩ := h.bx i cs hi
      obtain ⟨c2, g1, g2, g3⟩ := g.bx i c1 h1
      refine ⟨c2, g1, g2.trans h2, ?_⟩
      rcases (h.old i (by rw [hi]; simp)).1 with e | ⟨⟨a, e⟩, _⟩
      · rw [e, h2] at g3
        exact h3.trans g3
      · exact fun g o e' => by rw [e] at e'; cases e'⟩

theorem Step.R {MX : Nat → Prop} {w w' : World} {ρ ρ' : Nat → Value} {hp hp' : Heap} (h : Step MX w ρ hp w' ρ' hp') {a : AV} {y : Value} (hr : R (Mut MX hp ρ) w ρ hp a y) : R (Mut MX hp' ρ') w' ρ' hp' a y :=
  R_step h.off (fun _ _ hd => .inr hd) (fun b hb hm => hm.imp id (h.nwl b hb)) h.old a hr

theorem Step.Rs {MX : Nat → Prop} {w w' : World} {ρ ρ' : Nat → Value} {hp hp' : Heap} (h : Step MX w ρ hp w' ρ' hp') {as : List AV} {ys : List Value} (hr : Rs (Mut MX hp ρ) w ρ hp as ys) : Rs (Mut MX hp' ρ') w' ρ' hp' as ys :=
  Rs_step h.off (fun _ _ hd => .inr hd) (fun b hb hm => hm.imp id (h.nwl b hb)) h.old as hr

/-- How a step is made: what was written (D) belongs to entries that are told anew. -/
theorem Step.mk' {MX : Nat → Prop} {w w' : World} {ρ ρ' : Nat → Value} {hp hp' : Heap} {D : Nat → Prop} (H : HRel MX w ρ hp) (off : Off D w w') (hD : ∀ b, b < w.heap.size → D b → Lv hp ρ b)
    (old : ∀ i, hp i ≠ .unused → Old (ρ i) (ρ' i) ∧ hp' i ≠ .unused) (nwl : ∀ b, b < w.heap.size → Lv hp' ρ' b → Lv hp ρ b)
    (ent : ∀ i, (hp' i = hp i ∧ ρ' i = ρ i ∧ (live (hp i) → ∀ b, At (ρ i) b → ¬ D b)) ∨ HEok (Mut MX hp' ρ') w' ρ' hp' i (hp' i))
    (sep : ∀ i j b, live (hp' i) → live (hp' j) → At (ρ' i) b → At (ρ' j) b → i = j)
    (ext : ∀ i b, live (hp' i) → At (ρ' i) b → ¬ MX b)
    (bx : ∀ i cs, hp i = .box cs → (hp' i = hp i ∧ ∀ b, At (ρ i) b → ¬ D b) ∨ ∃ cs', hp' i = .box cs' ∧ cs'.length = cs.length ∧ Inside w w' (ρ i) cs.length) : Step MX w ρ hp w' ρ' hp' := by
  refine ⟨⟨fun i => ?_, sep, ext, fun b hb => Nat.lt_of_lt_of_le (H.mx b hb) off.size, H.tb.next off hD nwl⟩, off.mono hD, old, nwl, fun i cs hi => ?_⟩
  case refine_2 =>
    rcases bx i cs hi with ⟨h1, h2⟩ | h
    · exact ⟨cs, h1.trans hi, rfl, HEok.inside (hi ▸ H.ok i) (fun b hb hlt => off.block b hlt (h2 b hb)) _⟩
    · exact h
  rcases ent i with ⟨e, ei, hd⟩ | h
  · rw [e]
    exact HEok_step off (fun b hb hd => .inr (hD b hb hd)) (fun b hb hm => hm.imp id (nwl b hb)) old ei hd (H.ok i)
  · exact h

theorem upd_same {β : Type} (f : Nat → β) (i : Nat) (x : β) : upd f i x i = x := by simp [upd]
theorem upd_ne {β : Type} (f : Nat → β) {i j : Nat} (x : β) (h : j ≠ i) : upd f i x j = f j := by
  unfold upd
  cases hb : Nat.beq j i with
  | true => exact absurd (Nat.eq_of_beq_eq_true hb) h
  | false => rfl
theorem upd_self {β : Type} (f : Nat → β) (i : Nat) : upd f i (f i) = f := by
  funext j
  by_cases h : j = i
  · subst h; exact upd_same _ _ _
  · exact upd_ne _ _ h

/-- A draw. -/
theorem Step.drew {MX : Nat → Prop} {w : World} {ρ : Nat → Value} {hp : Heap} (H : HRel MX w ρ hp) : Step MX w ρ hp w.drew ρ hp :=
  Step.mk' (D := fun _ => False) H (Off.drew _ _) (fun _ _ h => h.elim) (fun _ hu => ⟨Old.refl _, hu⟩) (fun _ _ h => h) (fun _ => .inl ⟨rfl, rfl, fun _ _ _ h => h⟩) H.sep H.ext (fun _ _ _ => .inl ⟨rfl, fun _ _ h => h⟩)

/-- A new block, and an entry for it. -/
theorem Step.alloc' {MX : Nat → Prop} {w : World} {ρ : Nat → Value} {hp : Heap} (H : HRel MX w ρ hp) {i : Nat} (hu : hp i = .unused) {o : Obj} {h : HE} {v : Value} (hb : At v = fun b => (some w.heap.size : Option Nat) = some b)
    (ok : ∀ (M : Nat → Prop) (ρ' : Nat → Value) (hp' : Heap), (∀ j, hp j ≠ .unused → Old (ρ j) (ρ' j) ∧ hp' j ≠ .unused) → ρ' i = v → hp' i = h → (∀ b, b < w.heap.size → M b → Mut MX hp ρ b) → HEok M (w.alloc o) ρ' hp' i h) :
    Step MX w ρ hp (w.alloc o) (upd ρ i v) (upd hp i h) := by
  have old : ∀ j, hp j ≠ .unused → Old (ρ j) (upd ρ i v j) ∧ upd hp i h j ≠ .unused := by
    intro j hj
    have hne : j ≠ i := fun e => hj (e ▸ hu)
    rw [upd_ne _ _ hne, upd_ne _ _ hne]
    exact ⟨Old.refl _, hj⟩
  have lvi : ∀ j b, live (upd hp i h j) → At (upd ρ i v j) b → (j = i ∧ b = w.heap.size) ∨ (j ≠ i ∧ live (hp j) ∧ At (ρ j) b) := by
    intro j b hl hb'
    by_cases hji : j = i
    · subst hji; rw [upd_same, hb] at hb'; exact .inl ⟨rfl, by injection hb' with e; exact e.symm⟩
    · rw [upd_ne _ _ hji] at hl hb'; exact .inr ⟨hji, hl, hb'⟩
  have ltl : ∀ j b, live (hp j) → At (ρ j) b → b < w.heap.size := by
    intro j b hl hbj
    have := H.ok j
    cases hj : hp j with
    | unused => rw [hj] at hl; exact hl.elim
    | gone => rw [hj] at hl; exact hl.elim
    | frz t l => rw [hj] at hl; exact hl.elim
    | mp t f =>
      rw [hj] at this
      obtain ⟨b', h1, h2⟩ := this
      rw [h1] at hbj
      have : b' = b := by simpa [At, blk] using hbj
      subst this
      exact h2.lt
    | bld T c =>
      rw [hj] at this
      obtain ⟨g, p, v, h1, h2, _⟩ := this
      rw [h1] at hbj
      have : g = b := by simpa [At, blk] using hbj
      subst this
      exact (Array.getElem?_eq_some_iff.1 h2).1
    | bts l =>
      rw [hj] at this
      obtain ⟨g, c, h1, _, h2⟩ := this
      rw [h1] at hbj
      have : g = b := by simpa [At, blk] using hbj
      subst this
      exact h2.lt
    | box cs =>
      rw [hj] at this
      obtain ⟨g, o', C, e, vs, h1, h2, _⟩ := this
      rw [h1] at hbj
      have : g = b := by simpa [At, blk] using hbj
      subst this
      exact (Array.getElem?_eq_some_iff.1 h2).1
    | tre o fr e be t l cur =>
      rw [hj] at this
      obtain ⟨v, ss, us, xs, h⟩ := this
      exact h.lt hbj
    | row e t l =>
      rw [hj] at this
      obtain ⟨xs, h1, _⟩ := this
      rcases h1.2 with ⟨h2, _⟩ | ⟨g, cap, cur, h2, _, hh, _⟩
      · rw [h2] at hbj; simp [At, blk] at hbj
      · rw [h2] at hbj
        have : g = b := by simpa [At, blk] using hbj
        subst this
        exact (Array.getElem?_eq_some_iff.1 hh).1
  refine Step.mk' (D := fun _ => False) H (Off.alloc _ _ _) (fun _ _ hf => hf.elim) old ?_ ?_ ?_ ?_ (fun j cs hj => .inl ⟨upd_ne _ _ (fun e => by rw [e, hu] at hj; cases hj), fun _ _ h => h⟩)
  · rintro b hlt ⟨j, hl, hbj⟩
    rcases lvi j b hl hbj with ⟨_, e⟩ | ⟨_, hl', hb'⟩
    · omega
    · exact ⟨j, hl', hb'⟩
  · intro j
    by_cases hji : j = i
    · subst hji
      refine .inr ?_
      rw [upd_same]
      refine ok _ _ _ old (upd_same _ _ _) (upd_same _ _ _) ?_
      rintro b hlt (hm | ⟨j', hl, hbj⟩)
      · exact .inl hm
      · rcases lvi j' b hl hbj with ⟨_, e⟩ | ⟨_, hl', hb'⟩
        · omega
        · exact .inr ⟨j', hl', hb'⟩
    · exact .inl ⟨upd_ne _ _ hji, upd_ne _ _ hji, fun _ _ _ hf => hf⟩
  · intro j j' b hl hl' hbj hbj'
    rcases lvi j b hl hbj with ⟨rfl, e⟩ | ⟨_, hl1, hb1⟩ <;> rcases lvi j' b hl' hbj' with ⟨rfl, e'⟩ | ⟨_, hl2, hb2⟩
    · rfl
    · have := ltl j' b hl2 hb2; omega
    · have := ltl j b hl1 hb1; omega
    · exact H.sep j j' b hl1 hl2 hb1 hb2
  · intro j b hl hbj hmx
    rcases lvi j b hl hbj with ⟨_, e⟩ | ⟨_, hl', hb'⟩
    · have := H.mx b hmx; omega
    · exact H.ext j b hl' hb' hmx

theorem Step.alloc {MX : Nat → Prop} {w : World} {ρ : Nat → Value} {hp : Heap} (H : HRel MX w ρ hp) {i : Nat} (hu : hp i = .unused) {o : Obj} {h : HE} {v : Value} (hb : At v = fun b => (some w.heap.size : Option Nat) = some b)
    (ok : ∀ (M : Nat → Prop) (ρ' : Nat → Value) (hp' : Heap), (∀ j, hp j ≠ .unused → Old (ρ j) (ρ' j) ∧ hp' j ≠ .unused) → ρ' i = v → (∀ b, b < w.heap.size → M b → Mut MX hp ρ b) → HEok M (w.alloc o) ρ' hp' i h) :
    Step MX w ρ hp (w.alloc o) (upd ρ i v) (upd hp i h) :=
  Step.alloc' H hu hb fun M ρ' hp' a b _ c => ok M ρ' hp' a b c

/-- An entry told anew, in the block that was its own (or nothing of it is live any more). -/
theorem Step.write {MX : Nat → Prop} {w w' : World} {ρ : Nat → Value} {hp : Heap} (H : HRel MX w ρ hp) {i : Nat} {h : HE} (hl : live h → live (hp i)) (hnu : h ≠ .unused) (hbx : ∀ cs, hp i = .box cs → ∃ cs', h = .box cs' ∧ cs'.length = cs.length ∧ Inside w w' (ρ i) cs.length) (off : Off (fun b => live (hp i) ∧ At (ρ i) b) w w')
    (ok : ∀ (hp' : Heap), (∀ j, hp j ≠ .unused → Old (ρ j) (ρ j) ∧ hp' j ≠ .unused) → ∀ M : Nat → Prop, (∀ b, b < w.heap.size → M b → Mut MX hp ρ b) → (live h → M = Mut MX hp ρ) → (¬ live h → ∀ b, M b → ¬ (live (hp i) ∧ At (ρ i) b)) → HEok M w' ρ hp' i h) :
    Step MX w ρ hp w' ρ (upd hp i h) := by
  have old : ∀ j, hp j ≠ .unused → Old (ρ j) (ρ j) ∧ upd hp i h j ≠ .unused := by
    intro j hj
    by_cases hji : j = i
    · subst hji; rw [upd_same]; exact ⟨Old.refl _, hnu⟩
    · rw [upd_ne _ _ hji]; exact ⟨Old.refl _, hj⟩
  have lvi : ∀ j, live (upd hp i h j) → live (hp j) := by
    intro j hj
    by_cases hji : j = i
    · subst hji; rw [upd_same] at hj; exact hl hj
    · rwa [upd_ne _ _ hji] at hj
  have nwl : ∀ b, Lv (upd hp i h) ρ b → Lv hp ρ b := fun b ⟨j, hj, hb⟩ => ⟨j, lvi j hj, hb⟩
  refine Step.mk' H off (fun b _ hb => ⟨i, hb⟩) old (fun b _ => nwl b) ?_ ?_ ?_ ?_
  case refine_4 =>
    intro j cs hj
    by_cases hji : j = i
    · subst hji
      right
      rw [upd_same]
      exact hbx cs hj
    · exact .inl ⟨upd_ne _ _ hji, fun b hbj ⟨h1, h2⟩ => hji (H.sep j i b (by rw [hj]; trivial) h1 hbj h2)⟩
  · intro j
    by_cases hji : j = i
    · subst hji
      refine .inr ?_
      rw [upd_same]
      refine ok _ old _ (fun b _ hm => hm.imp id (nwl b)) ?_ ?_
      · intro hlive
        funext b
        refine propext ⟨fun hm => hm.imp id (nwl b), fun hm => hm.imp id ?_⟩
        rintro ⟨j', hj', hb'⟩
        refine ⟨j', ?_, hb'⟩
        by_cases e : j' = j
        · subst e; rw [upd_same]; exact hlive
        · rw [upd_ne _ _ e]; exact hj'
      · rintro hnl b (hm | ⟨j', hj', hb'⟩) ⟨h1, h2⟩
        · exact H.ext j b h1 h2 hm
        · have := H.sep j' j b (lvi j' hj') h1 hb' h2
          subst this
          rw [upd_same] at hj'
          exact hnl hj'
    · refine .inl ⟨upd_ne _ _ hji, rfl, fun hlj b hbj ⟨h1, h2⟩ => hji (H.sep j i b hlj h1 hbj h2)⟩
  · intro j j' b h1 h2 h3 h4
    exact H.sep j j' b (lvi j h1) (lvi j' h2) h3 h4
  · intro j b h1 h2
    exact H.ext j b (lvi j h1) h2

theorem HRel.lt {MX : Nat → Prop} {w : World} {ρ : Nat → Value} {hp : Heap} (H : HRel MX w ρ hp) {j b : Nat} (hl : live (hp j)) (hbj : At (ρ j) b) : b < w.heap.size := by
  have := H.ok j
  cases hj : hp j with
  | unused => rw [hj] at hl; exact hl.elim
  | gone => rw [hj] at hl; exact hl.elim
  | frz t l => rw [hj] at hl; exact hl.elim
  | mp t f =>
    rw [hj] at this
    obtain ⟨b', h1, h2⟩ := this
    rw [h1] at hbj
    have : b' = b := by simpa [At, blk] using hbj
    subst this
    exact h2.lt
  | bld T c =>
    rw [hj] at this
    obtain ⟨g, p, v, h1, h2, _⟩ := this
    rw [h1] at hbj
    have : g = b := by simpa [At, blk] using hbj
    subst this
    exact (Array.getElem?_eq_some_iff.1 h2).1
  | bts l =>
    rw [hj] at this
    obtain ⟨g, c, h1, _, h2⟩ := this
    rw [h1] at hbj
    have : g = b := by simpa [At, blk] using hbj
    subst this
    exact h2.lt
  | box cs =>
    rw [hj] at this
    obtain ⟨g, o', C, e, vs, h1, h2, _⟩ := this
    rw [h1] at hbj
    have : g = b := by simpa [At, blk] using hbj
    subst this
    exact (Array.getElem?_eq_some_iff.1 h2).1
  | tre o fr e be t l cur =>
    rw [hj] at this
    obtain ⟨v, ss, us, xs, h⟩ := this
    exact h.lt hbj
  | row e t l =>
    rw [hj] at this
    obtain ⟨xs, h1, _⟩ := this
    rcases h1.2 with ⟨h2, _⟩ | ⟨g, cap, cur, h2, _, hh, _⟩
    · rw [h2] at hbj; simp [At, blk] at hbj
    · rw [h2] at hbj
      have : g = b := by simpa [At, blk] using hbj
      subst this
      exact (Array.getElem?_eq_some_iff.1 hh).1

/-- A row that is one's own reads as its elements. -/
theorem own_reads {M : Nat → Prop} {w : World} {e : TypeId} {t : Ty} {v : Value} {l : List t.den} {xs : List Value} (h : w.ownsRow 0 e t.sz v l.length xs) (he : Els (t.KR M w) l xs) :
    ∃ A c, v = .slice A l.length c ∧ l.length ≤ c ∧ ∀ M' : Nat → Prop, (∀ b, b < w.heap.size → M' b → M b ∧ ¬ At v b) → RowR M' w (t.KR M' w) t.sz A l := by
  rcases h.2 with ⟨rfl, hn⟩ | ⟨g, cap, cur, rfl, _, hh, hle, _, hcs, htake⟩
  · refine ⟨none, 0, by rw [hn], by omega, fun M' _ i x hx => ?_⟩
    have : l = [] := List.eq_nil_of_length_eq_zero hn
    subst this
    simp at hx
  · refine ⟨_, cap, rfl, hle, fun M' hM i x hx => ?_⟩
    have hlt : g < w.heap.size := (Array.getElem?_eq_some_iff.1 hh).1
    obtain ⟨cs, h1, h2, h3⟩ := Els.get (fun _ _ hk => KR_len t hk) he i x hx
    refine ⟨g, 0, cs, rfl, fun hm => (hM g hlt hm).2 rfl, h2, KR_step (Off.refl (fun _ => False) w) (fun _ _ hf => hf.elim) (fun b hb hm => (hM b hb hm).1) t h1, fun j u hu => ?_⟩
    have hj : j < t.sz := by
      have := (List.getElem?_eq_some_iff.1 hu).1
      omega
    have hxs := h3 j hj
    rw [hu, ← htake, List.getElem?_take] at hxs
    split at hxs
    · simp only [Nat.zero_add]
      rw [cell_of_row w g _ cur e (0, 0) hh]
      simpa using hxs
    · cases hxs

/-- A row is written no more: it reads as it did. -/
theorem Step.freeze {MX : Nat → Prop} {w : World} {ρ : Nat → Value} {hp : Heap} (H : HRel MX w ρ hp) {i : Nat} {e : TypeId} {t : Ty} {l : List t.den} (hi : hp i = .row e t l) :
    Step MX w ρ hp w ρ (upd hp i (.frz t l)) := by
  refine Step.write H (fun h => h.elim) (by simp) (fun cs h => by rw [hi] at h; cases h) (Off.refl _ _) ?_
  intro hp' _ M hM _ hno
  have hok := H.ok i
  rw [hi] at hok
  obtain ⟨xs, h1, h2⟩ := hok
  obtain ⟨A, c, hv, hle, hr⟩ := own_reads h1 h2
  exact ⟨A, c, hv, hle, hr M fun b hb hm => ⟨hM b hb hm, fun hbe => hno (fun h => h) b hm ⟨by rw [hi]; trivial, hbe⟩⟩⟩

end Go.Proofs.YtbpeiilildchlaaGreatDoor.Abs
namespace Go.Proofs.YtbpeiilildchlaaGreatDoor.Abs
open Go Go.RowKit
set_option linter.unusedVariables false
set_option linter.unusedSectionVars false
set_option linter.unusedSimpArgs false

section
variable {M : Nat → Prop} {w : World} {ρ : Nat → Value} {hp : Heap}

theorem own_elemK {α : Type} {K : α → List Value → Prop} {sz : Nat} (hK : ∀ x cs, K x cs → cs.length = sz) {e : TypeId} {l : List α} {v : Value} {xs : List Value} (h : w.ownsRow 0 e sz v l.length xs) (he : Els K l xs) {g n c : Nat} (hv : v = .slice (some ⟨g, 0, none⟩) n c) {j : Nat} (hj : j < n) :
    ∃ x vs, l[j]? = some x ∧ K x vs ∧ ∀ (q : Nat) (u : Value), vs[q]? = some u → w.cell? ⟨g, j * sz + q, none⟩ = some u := by
  rcases h.2 with ⟨h2, _⟩ | ⟨g', cap, cur, h2, _, hh, hle, _, hcs, htake⟩
  · rw [hv] at h2; cases h2
  · rw [hv] at h2
    injection h2 with e1 e2 e3
    injection e1 with e1
    injection e1 with e1
    subst e1 e2
    obtain ⟨vs, h1, h2, h3⟩ := Els.get hK he j (l[j]) (List.getElem?_eq_getElem hj)
    refine ⟨_, vs, List.getElem?_eq_getElem hj, h1, fun q u hq => ?_⟩
    have hq' : q < sz := by
      have := (List.getElem?_eq_some_iff.1 hq).1
      omega
    have hxs := h3 q hq'
    rw [hq, ← htake, List.getElem?_take] at hxs
    split at hxs
    · rw [cell_of_row w g _ cur e (0, 0) hh]
      simpa using hxs
    · cases hxs

theorem KT_len : (t : Ty) → {x : t.den} → {s : Value} → {cs : List Value} → KT M w t x s cs → cs.length = t.sz
  | .sl _, _, _, _, h => by cases h; rfl
  | .pair a b, _, _, _, ⟨c0, c1, e, h0, h1⟩ => by rw [e, List.length_append, KR_len a h0, KT_len b h1]; rfl
  | .int _, _, _, _, h => h.elim
  | .bool, _, _, _, h => h.elim
  | .str, _, _, _, h => h.elim

theorem KR_cells : (t : Ty) → {x : t.den} → {vs : List Value} → t.KR M w x vs → Rs M w ρ hp (t.cells x) vs
  | .int k, _, _, h => by cases h; exact ⟨_, _, rfl, rfl, rfl⟩
  | .bool, _, _, h => by cases h; exact ⟨_, _, rfl, rfl, rfl⟩
  | .str, _, _, h => by cases h; exact ⟨_, _, rfl, rfl, rfl⟩
  | .sl t, _, _, ⟨A, c, e, hl, hr⟩ => by subst e; exact ⟨_, _, rfl, ⟨A, c, rfl, hl, hr⟩, rfl⟩
  | .pair a b, _, _, ⟨c0, c1, e, h0, h1⟩ => by subst e; exact Rs_append (KR_cells a h0) (KR_cells b h1)

theorem KT_flat : (t : Ty) → {x : t.den} → {s : Value} → {cs : List Value} → KT M w t x s cs → ∃ c0, cs = c0 ++ [s] ∧ Rs M w ρ hp (t.flat x) c0
  | .sl _, _, _, _, h => ⟨[], h, rfl⟩
  | .pair a b, _, _, _, ⟨c0, c1, e, h0, h1⟩ => by
    obtain ⟨c2, e2, h2⟩ := KT_flat b h1
    exact ⟨c0 ++ c2, by rw [e, e2, List.append_assoc], Rs_append (KR_cells a h0) h2⟩
  | .int _, _, _, _, h => h.elim
  | .bool, _, _, _, h => h.elim
  | .str, _, _, _, h => h.elim

theorem KT_put : (t : Ty) → {x : t.den} → {s : Value} → {cs : List Value} → KT M w t x s cs → ∀ m, KT M w t (t.put x m) s cs
  | .sl _, _, _, _, h, _ => h
  | .pair a b, _, _, _, ⟨c0, c1, e, h0, h1⟩, m => ⟨c0, c1, e, h0, KT_put b h1 m⟩
  | .int _, _, _, _, h, _ => h.elim
  | .bool, _, _, _, h, _ => h.elim
  | .str, _, _, _, h, _ => h.elim

theorem get_put : (t : Ty) → t.nest = true → (x : t.den) → (m : List t.inn.den) → t.get (t.put x m) = m
  | .sl _, _, _, _ => rfl
  | .pair _ b, h, x, m => get_put b h x.2 m

/-- The cells of an element, the slice as one that is read. -/
theorem KT_KR {s : Value} : (t : Ty) → {x : t.den} → {cs : List Value} → KT M w t x s cs → (∃ A c, s = .slice A (t.get x).length c ∧ (t.get x).length ≤ c ∧ RowR M w (t.inn.KR M w) t.inn.sz A (t.get x)) → t.KR M w x cs
  | .sl _, _, _, h, ⟨A, c, e, h1, h2⟩ => ⟨A, c, by rw [h, e]; rfl, h1, h2⟩
  | .pair a b, _, _, ⟨c0, c1, e, h0, h1⟩, hs => ⟨c0, c1, e, h0, KT_KR b h1 hs⟩
  | .int _, _, _, h, _ => h.elim
  | .bool, _, _, h, _ => h.elim
  | .str, _, _, h, _ => h.elim

theorem Els.repl {α : Type} {K K' : α → List Value → Prop} : {l l' : List α} → {xs : List Value} → l'.length = l.length → (∀ (j : Nat) x x' cs, l[j]? = some x → l'[j]? = some x' → K x cs → K' x' cs) → Els K l xs → Els K' l' xs
  | [], [], _, _, _, h => h
  | [], _ :: _, _, hl, _, _ => by simp at hl
  | _ :: _, [], _, hl, _, _ => by simp at hl
  | x :: l, x' :: l', _, hl, hh, ⟨c, r, e, hc, hr⟩ => ⟨c, r, e, hh 0 x x' c rfl rfl hc, Els.repl (by simpa using hl) (fun j y y' cs h1 h2 => hh (j + 1) y y' cs (by simpa using h1) (by simpa using h2)) hr⟩

theorem zip_get {α β : Type} {l : List α} {m : List β} {j : Nat} {p : α × β} (h : (l.zip m)[j]? = some p) : l[j]? = some p.1 ∧ m[j]? = some p.2 := by
  rw [List.getElem?_zip_eq_some] at h
  exact h

/-- An element of such a row. -/
theorem TreOk.elem {i o : Nat} {fr : Option Nat} {e be : TypeId} {t : Ty} {l : List t.den} {cur : Option (Nat × Nat)} {v : Value} {ss us xs : List Value} (h : TreOk M w ρ hp i o fr e be t l cur v ss us xs) {g n c : Nat} (hv : v = .slice (some ⟨g, 0, none⟩) n c) {j : Nat} (hj : j < n) :
    n = l.length ∧ ∃ s u vs, ss[j]? = some s ∧ us[j]? = some u ∧ KT M w t (l.getD j t.zero) u vs ∧ ∀ (q : Nat) (u : Value), vs[q]? = some u → w.cell? ⟨g, j * t.sz + q, none⟩ = some u := by
  have hn : n = l.length := by
    rcases h.own.2 with ⟨h2, _⟩ | ⟨g', cap, cur, h2, _⟩
    · rw [hv] at h2; cases h2
    · rw [hv] at h2
      injection h2
  have hz : (l.zip us).length = l.length := by rw [List.length_zip, h.ulen]; omega
  obtain ⟨p, vs, h1, h2, h3⟩ := own_elemK (fun _ _ hk => KT_len t hk) (by rw [hz]; exact h.own) h.els hv hj
  obtain ⟨g1, g2⟩ := zip_get h1
  have hjs : j < ss.length := by rw [h.len]; omega
  refine ⟨hn, ss[j], p.2, vs, List.getElem?_eq_getElem hjs, g2, ?_, h3⟩
  rw [List.getD_eq_getElem?_getD, g1]
  exact h2

/-- A whole elsewhere, at the same place. -/
theorem TreOk.none_ {M' : Nat → Prop} {ρ' : Nat → Value} {hp' : Heap} {i k o : Nat} {fr : Option Nat} {e be : TypeId} {t : Ty} {l : List t.den} {v : Value} {ss us xs : List Value} (h : TreOk M w ρ hp i o fr e be t l none v ss us xs) (hM : ∀ b, b < w.heap.size → M' b → M b) (hk : ρ' k = ρ i) : TreOk M' w ρ' hp' k o fr e be t l none v ss us xs :=
  ⟨h.nest, h.osz, h.pl.imp (hk.trans ·) (fun ⟨a, b, c, d⟩ => ⟨a, b, c, hk.trans d⟩), h.len, h.ulen, h.own, Els.imp (fun _ _ hk => KT_step (D := fun _ => False) (Off.refl _ _) (fun _ _ hf => hf.elim) hM t hk) h.els, fun j x s hf hx hs hc => Inn_step (D := fun _ => False) (Off.refl _ _) (fun _ _ hf => hf.elim) hM (fun _ _ hf => hf) (h.inn j x s hf hx hs hc), h.dead, h.vw, h.dis, h.sl, fun _ _ hc => by cases hc⟩

theorem TreOk.from_ {i o : Nat} {fr fr' : Option Nat} {e be : TypeId} {t : Ty} {l : List t.den} {cur : Option (Nat × Nat)} {v : Value} {ss us xs : List Value} (h : TreOk M w ρ hp i o fr e be t l cur v ss us xs) (hf : frN fr' = frN fr) : TreOk M w ρ hp i o fr' e be t l cur v ss us xs :=
  ⟨h.nest, h.osz, h.pl, h.len, h.ulen, h.own, h.els, fun j x s hj => h.inn j x s (by rw [← hf]; exact hj), fun j s hj => h.dead j s (by rw [← hf]; exact hj), fun j s u hj => h.vw j s u (by rw [← hf]; exact hj), h.dis, h.sl, fun j q hc => by rw [hf]; exact h.cur_ j q hc⟩

/-- .. where a part is out, the part elsewhere too. -/
theorem TreOk.recur {M' : Nat → Prop} {ρ' : Nat → Value} {hp' : Heap} {i k o : Nat} {fr : Option Nat} {e be : TypeId} {t : Ty} {l : List t.den} {j q q' : Nat} {v : Value} {ss us xs : List Value} (h : TreOk M w ρ hp i o fr e be t l (some (j, q)) v ss us xs) (hM : ∀ b, b < w.heap.size → M' b → M b) (hk : ρ' k = ρ i) (hq : ρ' q' = ρ q) (hu : hp' q' ≠ .unused) : TreOk M' w ρ' hp' k o fr e be t l (some (j, q')) v ss us xs :=
  ⟨h.nest, h.osz, .inl (hk.trans (h.pl.resolve_right fun ⟨_, b, _⟩ => by cases b)), h.len, h.ulen, h.own, Els.imp (fun _ _ hk => KT_step (D := fun _ => False) (Off.refl _ _) (fun _ _ hf => hf.elim) hM t hk) h.els, fun j' x s hf hx hs hc => Inn_step (D := fun _ => False) (Off.refl _ _) (fun _ _ hf => hf.elim) hM (fun _ _ hf => hf) (h.inn j' x s hf hx hs (fun r e' => by injection e' with e'; injection e' with e1 _; exact hc q' (by rw [e1]))), h.dead, h.vw, h.dis, h.sl, fun j' r hc => by
    injection hc with hc
    injection hc with e1 e2
    subst e1 e2
    obtain ⟨h0, h1, h2, h3⟩ := h.cur_ j q rfl
    exact ⟨h0, h1, by rw [hq]; exact h2, hu⟩⟩

/-- A part of a row of single cells, as it is read. -/
theorem row_drop {α : Type} {K : α → List Value → Prop} {g lo : Nat} {A : Addr} {l : List α} (h : RowR M w K 1 (some ⟨g, 0, none⟩) l) (hA : lo < l.length → A = ⟨g, lo, none⟩) : RowR M w K 1 (some A) (l.drop lo) := by
  intro j x hx
  rw [List.getElem?_drop] at hx
  have hlt := (List.getElem?_eq_some_iff.1 hx).1
  obtain ⟨b, o, cs, hb, hm, hl, hk, hcell⟩ := h _ x hx
  injection hb with hb
  injection hb with hb1 hb2
  subst hb1 hb2
  refine ⟨g, lo, cs, by rw [hA (by omega)], hm, hl, hk, fun q u hq => ?_⟩
  have := hcell q u hq
  rw [← this]
  congr 2
  omega

theorem lastCell_R {M : Nat → Prop} {o b : Nat} {s u : Value} (hb : hp b ≠ .unused) (hs : ρ b = s) (hsl : ∃ A n c, s = .slice A n c) (h : Vw o s u) : R M w ρ hp (lastCell o b) u := by
  cases o with
  | zero =>
    have h : u = s := h
    obtain ⟨A, n, c, e⟩ := hsl
    exact ⟨hb, by rw [hs, h, e]; rfl, A, n, c, h.trans e⟩
  | succ o =>
    obtain ⟨g, n, c, c', A, e, r⟩ := h
    exact ⟨hb, g, n, c, c', A, hs.trans e, r⟩

theorem needFr_go {α Rt : Type} {fr : Option Nat} {j : Nat} {e : Eff α} {b : Nat} {rs ws : List Nat} {K : α → Nat → Heap → List Nat → List Nat → Option Rt} {r : Rt} (h : (needFr fr j e).go b hp rs ws K = some r) : frN fr ≤ j ∧ e.go b hp rs ws K = some r := by
  unfold needFr at h
  split at h
  · exact ⟨Nat.zero_le _, h⟩
  · simp only [Eff.go] at h
    split at h
    · rename_i hj; exact ⟨hj, h⟩
    · cases h

theorem cut_len (t : Ty) (o : Nat) (l : List t.den) : (t.cut o l).length = l.length := by
  unfold Ty.cut
  split
  · rfl
  · rw [List.length_map]

theorem tup_hd (v : Value) (ss : List Value) : hd (.tuple (v :: ss).toArray) = v := rfl

/-- The whole as it is read. -/
theorem TreOk.view {i o : Nat} {e be : TypeId} {t : Ty} {l : List t.den} {v : Value} {ss us xs : List Value} (h : TreOk M w ρ hp i o none e be t l none v ss us xs) :
    ∃ A c, hd (ρ i) = .slice A (t.cut o l).length c ∧ (t.cut o l).length ≤ c ∧ ∀ M' : Nat → Prop, (∀ b, b < w.heap.size → M' b → M b ∧ ¬ At (ρ i) b) → RowR M' w (t.KR M' w) t.sz A (t.cut o l) := by
  have hat : ∀ (j : Nat) (s : Value) (b : Nat), (v :: ss)[j]? = some s → blk s = some b → At (ρ i) b := fun j s b hj hb => h.at_.2 ⟨j, s, hj, hb⟩
  rw [h.hd_, cut_len]
  rcases h.own.2 with ⟨hv, hn⟩ | ⟨g, cap, cur, hv, _, hh, hle, _⟩
  · refine ⟨none, 0, by rw [hv, hn], by omega, fun M' _ k x hx => ?_⟩
    have hx := (List.getElem?_eq_some_iff.1 hx).1
    rw [cut_len] at hx
    omega
  · refine ⟨_, cap, hv, hle, fun M' hM k x' hx' => ?_⟩
    have hk : k < l.length := by
      have := (List.getElem?_eq_some_iff.1 hx').1
      rwa [cut_len] at this
    have hx : l[k]? = some l[k] := List.getElem?_eq_getElem hk
    generalize l[k] = x at hx
    have hlt : g < w.heap.size := (Array.getElem?_eq_some_iff.1 hh).1
    obtain ⟨_, s, u, vs, h1, h1u, h2, h3⟩ := h.elem hv hk
    rw [List.getD_eq_getElem?_getD, hx] at h2
    refine ⟨g, 0, vs, rfl, fun hm => (hM g hlt hm).2 (hat 0 v g rfl (by rw [hv]; rfl)), KT_len t h2, ?_, fun j u hu => by rw [Nat.zero_add]; exact h3 j u hu⟩
    have hM1 : ∀ b, b < w.heap.size → M' b → M b := fun b hb hm => (hM b hb hm).1
    obtain ⟨ys, q1, q2⟩ := h.inn k x s (Nat.zero_le _) hx h1 (fun q e => by cases e)
    obtain ⟨A, c, q3, q4, q5⟩ := own_reads q1 q2
    have q6 := q5 M' fun b hb hm => ⟨hM1 b hb hm, fun ha => (hM b hb hm).2 (hat (k + 1) s b (by simpa using h1) (by rw [at_own q1] at ha; exact ha))⟩
    have h2 := KT_step (D := fun _ => False) (Off.refl _ _) (fun _ _ hf => hf.elim) hM1 t h2
    have hvw := h.vw k s u (Nat.zero_le _) h1 h1u
    have hosz := h.osz
    cases o with
    | zero =>
      have : x' = x := by
        have : some x' = some x := hx'.symm.trans hx
        exact Option.some.inj this
      subst this
      have hvw : u = s := hvw
      subst hvw
      exact KT_KR t h2 ⟨A, c, q3, q4, q6⟩
    | succ o =>
      have : x' = t.put x ((t.get x).drop (o + 1)) := by
        have h9 : (l.map fun x => t.put x ((t.get x).drop (o + 1)))[k]? = some x' := hx'
        rw [List.getElem?_map, hx] at h9
        exact (Option.some.inj h9).symm
      subst this
      obtain ⟨g', n, c', c'', A', e1, hle', rfl, hA, hc⟩ := hvw
      rw [e1] at q3
      injection q3 with q3a q3b q3c
      subst q3a q3b q3c
      have hsz : t.inn.sz = 1 := hosz.resolve_left (by omega)
      refine KT_KR t (KT_put t h2 _) ⟨some A', c'', ?_, ?_, ?_⟩
      · rw [get_put t h.nest, List.length_drop]
      · rw [get_put t h.nest, List.length_drop]; exact hc
      · rw [get_put t h.nest, hsz]
        rw [hsz] at q6
        exact row_drop q6 hA
end

section
variable {MX : Nat → Prop} {w : World} {ρ : Nat → Value} {hp : Heap}

/-- An element's row is taken out. -/
theorem Step.takeOut (H : HRel MX w ρ hp) {i o : Nat} {fr : Option Nat} {e be : TypeId} {t : Ty} {l : List t.den} {v : Value} {ss us xs : List Value} (hi : hp i = .tre o fr e be t l none) (h : TreOk (Mut MX hp ρ) w ρ hp i o fr e be t l none v ss us xs) {q : Nat} (hq : hp q = .unused) {j : Nat} (hfr : frN fr ≤ j) {s : Value} (hs : ss[j]? = some s) :
    Step MX w ρ hp w (upd (upd ρ q s) i (.tuple (v :: ss.set j (.slice none 0 0)).toArray)) (upd (upd hp q (.row be t.inn (t.get (l.getD j t.zero)))) i (.tre o fr e be t l (some (j, q)))) := by
  have hqi : q ≠ i := fun e' => by rw [e', hi] at hq; cases hq
  have hjl : j < ss.length := (List.getElem?_eq_some_iff.1 hs).1
  have hjl' : j < l.length := by rw [← h.len]; exact hjl
  have hne0 : 0 < l.length := by omega
  have hx : l[j]? = some (l.getD j t.zero) := by rw [List.getD_eq_getElem?_getD, List.getElem?_eq_getElem hjl']; rfl
  have hinn := h.inn j _ s hfr hx hs (fun q e => by cases e)
  have old : ∀ k, hp k ≠ .unused → Old (ρ k) (upd (upd ρ q s) i (.tuple (v :: ss.set j (.slice none 0 0)).toArray) k) ∧ upd (upd hp q (.row be t.inn (t.get (l.getD j t.zero)))) i (.tre o fr e be t l (some (j, q))) k ≠ .unused := by
    intro k hk
    have hkq : k ≠ q := fun e' => hk (by rw [e']; exact hq)
    by_cases hki : k = i
    · subst hki
      rw [upd_same, upd_same]
      exact ⟨.inr ⟨⟨_, h.tup hne0⟩, ⟨_, rfl⟩, by rw [h.hd_]; rfl⟩, by simp⟩
    · rw [upd_ne _ _ hki, upd_ne _ _ hki, upd_ne _ _ hkq, upd_ne _ _ hkq]
      exact ⟨Old.refl _, hk⟩
  have ai : ∀ b, At (.tuple (v :: ss.set j (.slice none 0 0)).toArray) b → ∃ (m : Nat) (u : Value), m ≠ j + 1 ∧ (v :: ss)[m]? = some u ∧ blk u = some b := by
    intro b hb
    obtain ⟨m, u, hm, hu⟩ := at_tuple.1 hb
    refine ⟨m, u, fun e' => ?_, ?_, hu⟩
    · subst e'
      rw [List.getElem?_cons_succ, List.getElem?_set_self hjl] at hm
      injection hm with hm
      subst hm
      cases hu
    · cases m with
      | zero => exact hm
      | succ m =>
        rw [List.getElem?_cons_succ] at hm ⊢
        by_cases hmj : m = j
        · subst hmj
          rw [List.getElem?_set_self hjl] at hm
          injection hm with hm
          subst hm
          cases hu
        · rw [List.getElem?_set_ne (fun e' => hmj e'.symm)] at hm
          exact hm
  have oldAt : ∀ (m : Nat) (u : Value) (b : Nat), (v :: ss)[m]? = some u → blk u = some b → At (ρ i) b := fun m u b hm hu => h.at_.2 ⟨m, u, hm, hu⟩
  have sAt : ∀ b, At s b → blk s = some b := fun b hb => by
    obtain ⟨ys, h1, _⟩ := hinn
    rw [at_own h1] at hb
    exact hb
  have cl : ∀ k b, live (upd (upd hp q (.row be t.inn (t.get (l.getD j t.zero)))) i (.tre o fr e be t l (some (j, q))) k) → At (upd (upd ρ q s) i (.tuple (v :: ss.set j (.slice none 0 0)).toArray) k) b →
      (k = i ∧ ∃ (m : Nat) (u : Value), m ≠ j + 1 ∧ (v :: ss)[m]? = some u ∧ blk u = some b) ∨ (k = q ∧ blk s = some b) ∨ (k ≠ i ∧ k ≠ q ∧ live (hp k) ∧ At (ρ k) b) := by
    intro k b hl hb
    by_cases hki : k = i
    · subst hki
      rw [upd_same] at hb
      exact .inl ⟨rfl, ai b hb⟩
    · rw [upd_ne _ _ hki] at hl hb
      by_cases hkq : k = q
      · subst hkq
        rw [upd_same] at hb
        exact .inr (.inl ⟨rfl, sAt b hb⟩)
      · rw [upd_ne _ _ hkq] at hl hb
        exact .inr (.inr ⟨hki, hkq, hl, hb⟩)
  have lvi : live (hp i) := by rw [hi]; trivial
  have nwl : ∀ b, b < w.heap.size → Lv (upd (upd hp q (.row be t.inn (t.get (l.getD j t.zero)))) i (.tre o fr e be t l (some (j, q)))) (upd (upd ρ q s) i (.tuple (v :: ss.set j (.slice none 0 0)).toArray)) b → Lv hp ρ b := by
    rintro b _ ⟨k, hl, hb⟩
    rcases cl k b hl hb with ⟨_, m, u, _, hm, hu⟩ | ⟨_, hu⟩ | ⟨_, _, h1, h2⟩
    · exact ⟨i, lvi, oldAt m u b hm hu⟩
    · exact ⟨i, lvi, oldAt (j + 1) s b (by simpa using hs) hu⟩
    · exact ⟨k, h1, h2⟩
  have hM : ∀ b, b < w.heap.size → Mut MX (upd (upd hp q (.row be t.inn (t.get (l.getD j t.zero)))) i (.tre o fr e be t l (some (j, q)))) (upd (upd ρ q s) i (.tuple (v :: ss.set j (.slice none 0 0)).toArray)) b → Mut MX hp ρ b := fun b hb hm => hm.imp id (nwl b hb)
  refine Step.mk' (D := fun _ => False) H (Off.refl _ _) (fun _ _ hf => hf.elim) old nwl ?_ ?_ ?_ ?_
  · intro k
    by_cases hki : k = i
    · subst hki
      refine .inr ?_
      rw [upd_same]
      refine ⟨v, ss, us, xs, h.nest, h.osz, .inl (by rw [upd_same]; rfl), h.len, h.ulen, h.own, Els.imp (fun _ _ hk => KT_step (D := fun _ => False) (Off.refl _ _) (fun _ _ hf => hf.elim) hM t hk) h.els, fun m x u hf hx' hu hc => ?_, h.dead, h.vw, ?_, h.sl, fun m r hc => ?_⟩
      · exact Inn_step (D := fun _ => False) (Off.refl _ _) (fun _ _ hf => hf.elim) hM (fun _ _ hf => hf) (h.inn m x u hf hx' hu (fun _ e => by cases e))
      · intro a c u u' b ha hc hu hu'
        have conv : ∀ {a : Nat} {u : Value}, (v :: hole (some (j, q)) ss)[a]? = some u → blk u = some b → (v :: ss)[a]? = some u := by
          intro a u ha hu
          cases a with
          | zero => exact ha
          | succ a =>
            rw [List.getElem?_cons_succ] at ha ⊢
            unfold hole at ha
            by_cases haj : a = j
            · subst haj
              rw [List.getElem?_set_self hjl] at ha
              injection ha with ha
              subst ha
              cases hu
            · rw [List.getElem?_set_ne (fun e' => haj e'.symm)] at ha
              exact ha
        exact h.dis a c u u' b (conv ha hu) (conv hc hu') hu hu'
      · injection hc with hc
        injection hc with e1 e2
        subst e1 e2
        refine ⟨hfr, hjl, by rw [upd_ne _ _ hqi, upd_same]; exact hs, by rw [upd_ne _ _ hqi, upd_same]; simp⟩
    · by_cases hkq : k = q
      · subst hkq
        refine .inr ?_
        rw [upd_ne _ _ hki, upd_same]
        obtain ⟨ys, h1, h2⟩ := hinn
        exact ⟨ys, by rw [upd_ne _ _ hki, upd_same]; exact h1, Els.imp (fun _ _ hk => KR_step (D := fun _ => False) (Off.refl _ _) (fun _ _ hf => hf.elim) hM t.inn hk) h2⟩
      · exact .inl ⟨by rw [upd_ne _ _ hki, upd_ne _ _ hkq], by rw [upd_ne _ _ hki, upd_ne _ _ hkq], fun _ _ _ hf => hf⟩
  · intro k k' b hl hl' hb hb'
    rcases cl k b hl hb with ⟨rfl, m, u, hm0, hm, hu⟩ | ⟨rfl, hu⟩ | ⟨a1, a2, h1, h2⟩ <;> rcases cl k' b hl' hb' with ⟨rfl, m', u', hm0', hm', hu'⟩ | ⟨rfl, hu'⟩ | ⟨a1', a2', h1', h2'⟩
    · rfl
    · exact absurd (h.dis m (j + 1) u s b hm (by simpa [hole] using hs) hu hu') hm0
    · exact absurd (H.sep _ _ b lvi h1' (oldAt m u b hm hu) h2') (fun e' => a1' e'.symm)
    · exact absurd (h.dis m' (j + 1) u' s b hm' (by simpa [hole] using hs) hu' hu) hm0'
    · rfl
    · exact absurd (H.sep _ _ b lvi h1' (oldAt (j + 1) s b (by simpa using hs) hu) h2') (fun e' => a1' e'.symm)
    · exact absurd (H.sep _ _ b h1 lvi h2 (oldAt m' u' b hm' hu')) a1
    · exact absurd (H.sep _ _ b h1 lvi h2 (oldAt (j + 1) s b (by simpa using hs) hu')) a1
    · exact H.sep _ _ b h1 h1' h2 h2'
  · intro k b hl hb hm
    rcases cl k b hl hb with ⟨rfl, m, u, _, hm', hu⟩ | ⟨rfl, hu⟩ | ⟨_, _, h1, h2⟩
    · exact H.ext _ b lvi (oldAt m u b hm' hu) hm
    · exact H.ext _ b lvi (oldAt (j + 1) s b (by simpa using hs) hu) hm
    · exact H.ext k b h1 h2 hm
  · intro k cs hk
    have hki : k ≠ i := fun e' => by rw [e', hi] at hk; cases hk
    have hkq : k ≠ q := fun e' => by rw [e', hq] at hk; cases hk
    exact .inl ⟨by rw [upd_ne _ _ hki, upd_ne _ _ hkq], fun _ _ hf => hf⟩

/-- It goes back. -/
theorem Step.putBack (H : HRel MX w ρ hp) {i o : Nat} {fr : Option Nat} {e be : TypeId} {t : Ty} {l : List t.den} {v : Value} {ss us xs : List Value} {j q : Nat} (hi : hp i = .tre o fr e be t l (some (j, q))) (h : TreOk (Mut MX hp ρ) w ρ hp i o fr e be t l (some (j, q)) v ss us xs) {m : List t.inn.den} (hq : hp q = .row be t.inn m) :
    Step MX w ρ hp w (upd ρ i (.tuple (v :: ss).toArray)) (upd (upd hp q .gone) i (.tre o fr e be t (l.set j (t.put (l.getD j t.zero) m)) none)) := by
  have hqi : q ≠ i := fun e' => by rw [e', hi] at hq; cases hq
  obtain ⟨hfr, hjl, hs, _⟩ := h.cur_ j q rfl
  have hjl' : j < l.length := by rw [← h.len]; exact hjl
  have hne0 : 0 < l.length := by omega
  have hqok := H.ok q
  rw [hq] at hqok
  obtain ⟨ys, y1, y2⟩ := hqok
  have lvi : live (hp i) := by rw [hi]; trivial
  have lvq : live (hp q) := by rw [hq]; trivial
  have hx : l[j]? = some (l.getD j t.zero) := by rw [List.getD_eq_getElem?_getD, List.getElem?_eq_getElem hjl']; rfl
  have old : ∀ k, hp k ≠ .unused → Old (ρ k) (upd ρ i (.tuple (v :: ss).toArray) k) ∧ upd (upd hp q .gone) i (.tre o fr e be t (l.set j (t.put (l.getD j t.zero) m)) none) k ≠ .unused := by
    intro k hk
    by_cases hki : k = i
    · subst hki
      rw [upd_same, upd_same]
      exact ⟨.inr ⟨⟨_, h.tup hne0⟩, ⟨_, rfl⟩, by rw [h.hd_]; rfl⟩, by simp⟩
    · rw [upd_ne _ _ hki, upd_ne _ _ hki]
      refine ⟨Old.refl _, ?_⟩
      by_cases hkq : k = q
      · subst hkq; rw [upd_same]; simp
      · rw [upd_ne _ _ hkq]; exact hk
  -- a block of the whole is one of what stood here, or of what was taken out
  have ai : ∀ (a : Nat) (u : Value) (b : Nat), (v :: ss)[a]? = some u → blk u = some b → (a ≠ j + 1 ∧ At (ρ i) b ∧ (v :: hole (some (j, q)) ss)[a]? = some u) ∨ (a = j + 1 ∧ u = ρ q ∧ At (ρ q) b) := by
    intro a u b ha hu
    by_cases haj : a = j + 1
    · subst haj
      rw [List.getElem?_cons_succ, hs] at ha
      injection ha with ha
      exact .inr ⟨rfl, ha.symm, by rw [at_own y1, ha]; exact hu⟩
    · have h2 : (v :: hole (some (j, q)) ss)[a]? = some u := by
        cases a with
        | zero => exact ha
        | succ a =>
          rw [List.getElem?_cons_succ] at ha ⊢
          unfold hole
          rw [List.getElem?_set_ne (fun e' => haj (by rw [e']))]
          exact ha
      exact .inl ⟨haj, h.at_.2 ⟨a, u, h2, hu⟩, h2⟩
  have cl : ∀ k b, live (upd (upd hp q .gone) i (.tre o fr e be t (l.set j (t.put (l.getD j t.zero) m)) none) k) → At (upd ρ i (.tuple (v :: ss).toArray) k) b →
      (k = i ∧ (At (ρ i) b ∨ At (ρ q) b)) ∨ (k ≠ i ∧ k ≠ q ∧ live (hp k) ∧ At (ρ k) b) := by
    intro k b hl hb
    by_cases hki : k = i
    · subst hki
      rw [upd_same] at hb
      obtain ⟨a, u, ha, hu⟩ := at_tuple.1 hb
      rcases ai a u b ha hu with ⟨_, h1, _⟩ | ⟨_, _, h1⟩
      · exact .inl ⟨rfl, .inl h1⟩
      · exact .inl ⟨rfl, .inr h1⟩
    · rw [upd_ne _ _ hki] at hl hb
      have hkq : k ≠ q := fun e' => by rw [e', upd_same] at hl; exact hl
      rw [upd_ne _ _ hkq] at hl
      exact .inr ⟨hki, hkq, hl, hb⟩
  have nwl : ∀ b, b < w.heap.size → Lv (upd (upd hp q .gone) i (.tre o fr e be t (l.set j (t.put (l.getD j t.zero) m)) none)) (upd ρ i (.tuple (v :: ss).toArray)) b → Lv hp ρ b := by
    rintro b _ ⟨k, hl, hb⟩
    rcases cl k b hl hb with ⟨_, h1 | h1⟩ | ⟨_, _, h1, h2⟩
    · exact ⟨i, lvi, h1⟩
    · exact ⟨q, lvq, h1⟩
    · exact ⟨k, h1, h2⟩
  have hM : ∀ b, b < w.heap.size → Mut MX (upd (upd hp q .gone) i (.tre o fr e be t (l.set j (t.put (l.getD j t.zero) m)) none)) (upd ρ i (.tuple (v :: ss).toArray)) b → Mut MX hp ρ b := fun b hb hm => hm.imp id (nwl b hb)
  refine Step.mk' (D := fun _ => False) H (Off.refl _ _) (fun _ _ hf => hf.elim) old nwl ?_ ?_ ?_ ?_
  · intro k
    by_cases hki : k = i
    · subst hki
      refine .inr ?_
      rw [upd_same]
      refine ⟨v, ss, us, xs, h.nest, h.osz, .inl (by rw [upd_same]; rfl), by rw [List.length_set]; exact h.len, by rw [List.length_set]; exact h.ulen, by rw [List.length_set]; exact h.own, ?_, fun a x u hf hx' hu _ => ?_, h.dead, h.vw, ?_, h.sl, fun a r hc => by cases hc⟩
      · refine Els.repl (by simp) (fun a p p' cs g1 g2 hk => ?_) h.els
        obtain ⟨z1, z2⟩ := zip_get g1
        obtain ⟨z3, z4⟩ := zip_get g2
        rw [z2] at z4
        injection z4 with z4
        have hk := KT_step (D := fun _ => False) (Off.refl _ _) (fun _ _ hf => hf.elim) hM t hk
        rw [← z4]
        by_cases haj : a = j
        · subst haj
          rw [List.getElem?_set_self hjl'] at z3
          injection z3 with z3
          rw [hx] at z1
          injection z1 with z1
          rw [← z3]
          exact (show t.put p.1 m = t.put (l.getD a t.zero) m by rw [z1]) ▸ KT_put t hk m
        · rw [List.getElem?_set_ne (fun e' => haj e'.symm), z1] at z3
          injection z3 with z3
          rw [← z3]
          exact hk
      · by_cases haj : a = j
        · subst haj
          rw [List.getElem?_set_self hjl'] at hx'
          injection hx' with hx'
          rw [hs] at hu
          injection hu with hu
          subst hx' hu
          unfold Inn
          rw [get_put t h.nest]
          exact ⟨ys, y1, Els.imp (fun _ _ hk => KR_step (D := fun _ => False) (Off.refl _ _) (fun _ _ hf => hf.elim) hM t.inn hk) y2⟩
        · rw [List.getElem?_set_ne (fun e' => haj e'.symm)] at hx'
          exact Inn_step (D := fun _ => False) (Off.refl _ _) (fun _ _ hf => hf.elim) hM (fun _ _ hf => hf) (h.inn a x u hf hx' hu (fun r e' => haj (by injection e' with e'; injection e' with e1 _; exact e1.symm)))
      · intro a c u u' b ha hc hu hu'
        rcases ai a u b ha hu with ⟨_, p1, p2⟩ | ⟨p0, _, p1⟩ <;> rcases ai c u' b hc hu' with ⟨_, p1', p2'⟩ | ⟨p0', _, p1'⟩
        · exact h.dis a c u u' b p2 p2' hu hu'
        · exact absurd (H.sep _ _ b lvi lvq p1 p1') (fun e' => hqi e'.symm)
        · exact absurd (H.sep _ _ b lvq lvi p1 p1') hqi
        · rw [p0, p0']
    · by_cases hkq : k = q
      · subst hkq
        exact .inr (by rw [upd_ne _ _ hki, upd_same]; trivial)
      · exact .inl ⟨by rw [upd_ne _ _ hki, upd_ne _ _ hkq], by rw [upd_ne _ _ hki], fun _ _ _ hf => hf⟩
  · intro k k' b hl hl' hb hb'
    rcases cl k b hl hb with ⟨rfl, h1 | h1⟩ | ⟨a1, a2, h1, h2⟩ <;> rcases cl k' b hl' hb' with ⟨rfl, h1' | h1'⟩ | ⟨a1', a2', h1', h2'⟩
    · rfl
    · rfl
    · exact absurd (H.sep _ _ b lvi h1' h1 h2') (fun e' => a1' e'.symm)
    · rfl
    · rfl
    · exact absurd (H.sep _ _ b lvq h1' h1 h2') (fun e' => a2' e'.symm)
    · exact absurd (H.sep _ _ b h1 lvi h2 h1') a1
    · exact absurd (H.sep _ _ b h1 lvq h2 h1') a2
    · exact H.sep _ _ b h1 h1' h2 h2'
  · intro k b hl hb hm
    rcases cl k b hl hb with ⟨rfl, h1 | h1⟩ | ⟨_, _, h1, h2⟩
    · exact H.ext _ b lvi h1 hm
    · exact H.ext _ b lvq h1 hm
    · exact H.ext k b h1 h2 hm
  · intro k cs hk
    have hki : k ≠ i := fun e' => by rw [e', hi] at hk; cases hk
    have hkq : k ≠ q := fun e' => by rw [e', hq] at hk; cases hk
    exact .inl ⟨by rw [upd_ne _ _ hki, upd_ne _ _ hkq], fun _ _ hf => hf⟩

theorem zip_set {α β : Type} : {l : List α} → {m : List β} → {j : Nat} → {y : α} → {s : β} → m[j]? = some s → (l.set j y).zip m = (l.zip m).set j (y, s)
  | [], _, _, _, _, _ => by simp
  | _ :: _, [], _, _, _, h => by simp at h
  | _ :: _, _ :: _, 0, _, _, h => by simp at h; subst h; rfl
  | _ :: l, _ :: m, j + 1, y, s, h => by
    simp only [List.set_cons_succ, List.zip_cons_cons]
    rw [zip_set (by simpa using h)]

theorem zip_set2 {α β : Type} : {l : List α} → {m : List β} → {j : Nat} → {y : α} → {s : β} → (l.set j y).zip (m.set j s) = (l.zip m).set j (y, s)
  | [], _, _, _, _ => by simp
  | _ :: _, [], _, _, _ => by simp
  | _ :: _, _ :: _, 0, _, _ => rfl
  | _ :: l, _ :: m, j + 1, y, s => by
    simp only [List.set_cons_succ, List.zip_cons_cons]
    rw [zip_set2]

theorem TreOk.at0 {M : Nat → Prop} {i o : Nat} {fr : Option Nat} {e be : TypeId} {t : Ty} {l : List t.den} {cur : Option (Nat × Nat)} {v : Value} {ss us xs : List Value} (h : TreOk M w ρ hp i o fr e be t l cur v ss us xs) {b : Nat} (hb : blk v = some b) : At (ρ i) b := by
  exact h.at_.2 ⟨0, v, rfl, hb⟩

/-- Of an element's own cells some are written. -/
theorem Step.storeFlat (H : HRel MX w ρ hp) {i o : Nat} {fr : Option Nat} {e be : TypeId} {t : Ty} {l : List t.den} {cur : Option (Nat × Nat)} {v : Value} {ss us xs : List Value} (hi : hp i = .tre o fr e be t l cur) (h : TreOk (Mut MX hp ρ) w ρ hp i o fr e be t l cur v ss us xs) {g n c : Nat} (hv : v = .slice (some ⟨g, 0, none⟩) n c) (hn : n = l.length) {j : Nat} (hj : j < n)
    {w' : World} (hoff : Off (fun b => b = g) w w') {s : Value} (hs : us[j]? = some s) {vs : List Value} (hown : w'.ownsRow 0 e t.sz v n (xs.take (j * t.sz) ++ vs ++ xs.drop (j * t.sz + t.sz))) {y : t.den} (hy : KT (Mut MX hp ρ) w t y s vs) (hget : t.get y = t.get (l.getD j t.zero)) :
    Step MX w ρ hp w' ρ (upd hp i (.tre o fr e be t (l.set j y) cur)) := by
  have lvi : live (hp i) := by rw [hi]; trivial
  have hbv : blk v = some g := by rw [hv]; rfl
  refine Step.write H (fun _ => lvi) (by simp) (fun cs h => by rw [hi] at h; cases h) (hoff.mono fun b _ hb => ⟨lvi, hb ▸ h.at0 hbv⟩) ?_
  intro hp' hp'u M hM hMl _
  have hMe := hMl trivial
  subst hMe
  have hD : ∀ b, b < w.heap.size → b = g → Mut MX hp ρ b := fun b _ hb => .inr ⟨i, lvi, hb ▸ h.at0 hbv⟩
  have hz : (l.zip us).length = l.length := by rw [List.length_zip, h.ulen]; omega
  refine ⟨v, ss, us, _, h.nest, h.osz, .inl (h.tup (by omega)), by rw [List.length_set]; exact h.len, by rw [List.length_set]; exact h.ulen, by rw [List.length_set, ← hn]; exact hown, ?_, fun a x u hf hx hu hc => ?_, h.dead, h.vw, h.dis, h.sl, fun a q hc => ?_⟩
  · rw [zip_set hs]
    refine Els.set (fun _ _ hk => KT_len t hk) (Els.imp (fun _ _ hk => KT_step hoff hD (fun _ _ h => h) t hk) h.els) j (y, s) vs (by omega) (KT_step hoff hD (fun _ _ h => h) t hy)
  · have hng : ∀ b, blk u = some b → ¬ b = g := fun b hb e' => by
      have := h.dis 0 (a + 1) v u b rfl (by rw [List.getElem?_cons_succ, hole_get hc]; exact hu) (by rw [e']; exact hbv) hb
      omega
    by_cases haj : a = j
    · subst haj
      rw [List.getElem?_set_self (by omega)] at hx
      injection hx with hx
      subst hx
      have := h.inn a (l.getD a t.zero) u hf (by rw [List.getD_eq_getElem?_getD, List.getElem?_eq_getElem (by omega)]; rfl) hu hc
      unfold Inn at this ⊢
      rw [hget]
      exact Inn_step hoff hD (fun _ _ h => h) (x := l.getD a t.zero) hng this
    · rw [List.getElem?_set_ne (fun e' => haj e'.symm)] at hx
      exact Inn_step hoff hD (fun _ _ h => h) hng (h.inn a x u hf hx hu hc)
  · obtain ⟨h0, h1, h2, h3⟩ := h.cur_ a q hc
    exact ⟨h0, h1, h2, (hp'u q h3).2⟩

/-- The slice of a row of one's own is written into an element: as if the row had been taken out of it. -/
theorem Step.storeHole (H : HRel MX w ρ hp) {i : Nat} {e be : TypeId} {t : Ty} {l : List t.den} {cur : Option (Nat × Nat)} {v : Value} {ss us xs : List Value} (hi : hp i = .tre 0 none e be t l cur) (h : TreOk (Mut MX hp ρ) w ρ hp i 0 none e be t l cur v ss us xs) {g n c : Nat} (hv : v = .slice (some ⟨g, 0, none⟩) n c) (hn : n = l.length) {j : Nat} (hj : j < n) (hcur : ∀ a q0, cur = some (a, q0) → a = j)
    {w' : World} (hoff : Off (fun b => b = g) w w') {q : Nat} {e' : TypeId} {t' : Ty} {m : List t'.den} (hq : hp q = .row e' t' m) (hsl : ∃ A n c, ρ q = .slice A n c) {vs : List Value} (hown : w'.ownsRow 0 e t.sz v n (xs.take (j * t.sz) ++ vs ++ xs.drop (j * t.sz + t.sz))) {y : t.den} (hy : KT (Mut MX hp ρ) w t y (ρ q) vs) :
    Step MX w ρ hp w' (upd ρ i (.tuple (v :: ss.set j (.slice none 0 0)).toArray)) (upd hp i (.tre 0 none e be t (l.set j y) (some (j, q)))) := by
  have hqi : q ≠ i := fun e' => by rw [e', hi] at hq; cases hq
  have lvi : live (hp i) := by rw [hi]; trivial
  have hbv : blk v = some g := by rw [hv]; rfl
  have hjl : j < ss.length := by rw [h.len]; omega
  have hne0 : 0 < l.length := by omega
  have ai : ∀ b, At (.tuple (v :: ss.set j (.slice none 0 0)).toArray) b → At (ρ i) b := by
    intro b hb
    obtain ⟨a, u, ha, hu⟩ := at_tuple.1 hb
    refine h.at_.2 ⟨a, u, ?_, hu⟩
    cases a with
    | zero => exact ha
    | succ a =>
      rw [List.getElem?_cons_succ] at ha ⊢
      by_cases haj : a = j
      · subst haj
        rw [List.getElem?_set_self hjl] at ha
        injection ha with ha
        subst ha
        cases hu
      · rw [List.getElem?_set_ne (fun e' => haj e'.symm)] at ha
        rw [hole_get (fun q0 e => haj (hcur a q0 e))]
        exact ha
  have old : ∀ k, hp k ≠ .unused → Old (ρ k) (upd ρ i (.tuple (v :: ss.set j (.slice none 0 0)).toArray) k) ∧ upd hp i (.tre 0 none e be t (l.set j y) (some (j, q))) k ≠ .unused := by
    intro k hk
    by_cases hki : k = i
    · subst hki
      rw [upd_same, upd_same]
      exact ⟨.inr ⟨⟨_, h.tup hne0⟩, ⟨_, rfl⟩, by rw [h.hd_]; rfl⟩, by simp⟩
    · rw [upd_ne _ _ hki, upd_ne _ _ hki]
      exact ⟨Old.refl _, hk⟩
  have cl : ∀ k b, live (upd hp i (.tre 0 none e be t (l.set j y) (some (j, q))) k) → At (upd ρ i (.tuple (v :: ss.set j (.slice none 0 0)).toArray) k) b → live (hp k) ∧ At (ρ k) b := by
    intro k b hl hb
    by_cases hki : k = i
    · subst hki
      rw [upd_same] at hb
      exact ⟨lvi, ai b hb⟩
    · rw [upd_ne _ _ hki] at hl hb
      exact ⟨hl, hb⟩
  have nwl : ∀ b, b < w.heap.size → Lv (upd hp i (.tre 0 none e be t (l.set j y) (some (j, q)))) (upd ρ i (.tuple (v :: ss.set j (.slice none 0 0)).toArray)) b → Lv hp ρ b := fun b _ ⟨k, hl, hb⟩ => ⟨k, cl k b hl hb⟩
  have hM : ∀ b, b < w.heap.size → Mut MX (upd hp i (.tre 0 none e be t (l.set j y) (some (j, q)))) (upd ρ i (.tuple (v :: ss.set j (.slice none 0 0)).toArray)) b → Mut MX hp ρ b := fun b hb hm => hm.imp id (nwl b hb)
  have hDl : ∀ b, b < w.heap.size → b = g → Lv hp ρ b := fun b _ hb => ⟨i, lvi, hb ▸ h.at0 hbv⟩
  have hD : ∀ b, b < w.heap.size → b = g → Mut MX hp ρ b := fun b hb hg => .inr (hDl b hb hg)
  have hz : (l.zip us).length = l.length := by rw [List.length_zip, h.ulen]; omega
  refine Step.mk' (D := fun b => b = g) H hoff hDl old nwl ?_ ?_ ?_ ?_
  · intro k
    by_cases hki : k = i
    · subst hki
      refine .inr ?_
      rw [upd_same]
      refine ⟨v, ss.set j (ρ q), us.set j (ρ q), _, h.nest, h.osz, .inl (by rw [upd_same]; unfold hole; simp only [List.set_set]), by rw [List.length_set, List.length_set]; exact h.len, by rw [List.length_set, List.length_set]; exact h.ulen, by rw [List.length_set, ← hn]; exact hown, ?_, fun a x u hf hx hu hc => ?_, fun a s hf => absurd hf (Nat.not_lt_zero _), fun a s u hf hs hu => ?_, ?_, ?_, fun a r hc => ?_⟩
      · rw [zip_set2]
        exact Els.set (fun _ _ hk => KT_len t hk) (Els.imp (fun _ _ hk => KT_step hoff hD hM t hk) h.els) j (y, ρ q) vs (by omega) (KT_step hoff hD hM t hy)
      · have haj : a ≠ j := fun e' => hc q (by rw [e'])
        rw [List.getElem?_set_ne (fun e' => haj e'.symm)] at hx hu
        have hng : ∀ b, blk u = some b → ¬ b = g := fun b hb e' => by
          have := h.dis 0 (a + 1) v u b rfl (by rw [List.getElem?_cons_succ, hole_get (fun q0 e => haj (hcur a q0 e))]; exact hu) (by rw [e']; exact hbv) hb
          omega
        exact Inn_step hoff hD hM hng (h.inn a x u hf hx hu (fun q0 e => haj (hcur a q0 e)))
      · show u = s
        by_cases haj : a = j
        · subst haj
          rw [List.getElem?_set_self hjl] at hs
          rw [List.getElem?_set_self (by rw [h.ulen, ← h.len]; exact hjl)] at hu
          injection hs with hs
          injection hu with hu
          rw [← hs, ← hu]
        · rw [List.getElem?_set_ne (fun e' => haj e'.symm)] at hs hu
          exact h.vw a s u hf hs hu
      · intro a c' u u' b ha hc hu hu'
        have conv : ∀ {a : Nat} {u : Value}, (v :: hole (some (j, q)) (ss.set j (ρ q)))[a]? = some u → blk u = some b → (v :: hole cur ss)[a]? = some u := by
          intro a u ha hu
          cases a with
          | zero => exact ha
          | succ a =>
            rw [List.getElem?_cons_succ] at ha ⊢
            unfold hole at ha
            simp only [List.set_set] at ha
            by_cases haj : a = j
            · subst haj
              rw [List.getElem?_set_self hjl] at ha
              injection ha with ha
              subst ha
              cases hu
            · rw [List.getElem?_set_ne (fun e' => haj e'.symm)] at ha
              rw [hole_get (fun q0 e => haj (hcur a q0 e))]
              exact ha
        exact h.dis a c' u u' b (conv ha hu) (conv hc hu') hu hu'
      · intro u hu
        rcases List.mem_or_eq_of_mem_set hu with hu | hu
        · exact h.sl u hu
        · rw [hu]; exact hsl
      · injection hc with hc
        injection hc with e1 e2
        subst e1 e2
        exact ⟨Nat.zero_le _, by rw [List.length_set]; exact hjl, by rw [upd_ne _ _ hqi, List.getElem?_set_self hjl], by rw [upd_ne _ _ hqi, hq]; simp⟩
    · refine .inl ⟨upd_ne _ _ hki, upd_ne _ _ hki, fun hl b hb e' => ?_⟩
      exact hki (H.sep k i b hl lvi hb (e' ▸ h.at0 hbv))
  · intro k k' b hl hl' hb hb'
    exact H.sep k k' b (cl k b hl hb).1 (cl k' b hl' hb').1 (cl k b hl hb).2 (cl k' b hl' hb').2
  · intro k b hl hb hm
    exact H.ext k b (cl k b hl hb).1 (cl k b hl hb).2 hm
  · intro k cs hk
    have hki : k ≠ i := fun e' => by rw [e', hi] at hk; cases hk
    refine .inl ⟨upd_ne _ _ hki, fun b hb e' => ?_⟩
    exact hki (H.sep k i b (by rw [hk]; trivial) lvi hb (e' ▸ h.at0 hbv))

/-- An element that ends in a row of one's own is appended: the row stays outside. -/
theorem Step.appendOne (H : HRel MX w ρ hp) {hp1 : Heap} (hq : ∀ k, hp1 k = hp k ∨ (hp1 k = .gone ∧ hp k ≠ .unused)) (hqb : ∀ k, hp1 k = .gone → ∀ cs, hp k ≠ .box cs) {b : Nat} (hbs : hp b = .unused)
    {o : Nat} {e be : TypeId} {t : Ty} {l : List t.den} {y : t.den} {v uq : Value} {ss us xs ys : List Value} {q : Nat}
    (hnest : t.nest = true) (hosz : o = 0 ∨ t.inn.sz = 1) (hlen : ss.length = l.length) (hulen : us.length = l.length) (hown : w.ownsRow 0 e t.sz v l.length xs) (hels : Els (fun (p : t.den × Value) cs => KT (Mut MX hp ρ) w t p.1 p.2 cs) (l.zip us) xs) (hvw : ∀ (j : Nat) (s u : Value), ss[j]? = some s → us[j]? = some u → Vw o s u)
    (hinn : ∀ (j : Nat) (x : t.den) (s : Value), l[j]? = some x → ss[j]? = some s → Inn (Mut MX hp ρ) w be t x s) (hdis : Dis (v :: ss)) (hsl : ∀ s ∈ ss, ∃ A n c, s = .slice A n c)
    (hlv : ∀ (j : Nat) (s : Value) (g : Nat), (v :: ss)[j]? = some s → blk s = some g → Lv hp ρ g ∧ ∀ k, live (hp1 k) → ¬ At (ρ k) g)
    (hqr : hp q ≠ .unused) (hq1 : hp1 q ≠ .unused) (hqs : ∃ A n c, ρ q = .slice A n c) (huq : Vw o (ρ q) uq) (hy : KT (Mut MX hp ρ) w t y uq ys)
    {w' : World} {v' : Value} (hown' : w'.ownsRow 0 e t.sz v' (l.length + 1) (xs ++ ys)) (hg : w.grownBy w' v.ownBlock) (hat : v'.ownBlock = v.ownBlock ∨ ∀ g, v'.ownBlock = some g → w.heap.size ≤ g) :
    Step MX w ρ hp w' (upd ρ b (.tuple (v' :: (ss ++ [.slice none 0 0])).toArray)) (upd hp1 b (.tre o none e be t (l ++ [y]) (some (l.length, q)))) := by
  have hqb' : q ≠ b := fun e' => hqr (by rw [e', hbs])
  have hvb : ∀ g, blk v = some g ↔ v.ownBlock = some g := fun g => by rw [← show At v g ↔ blk v = some g from by rw [at_own hown]]; rw [blk_own (by rcases hown.2 with ⟨h, _⟩ | ⟨_, _, _, h, _⟩ <;> exact ⟨_, _, _, h⟩)]
  have hvb' : ∀ g, blk v' = some g ↔ v'.ownBlock = some g := fun g => by rw [← show At v' g ↔ blk v' = some g from by rw [at_own hown']]; rw [blk_own (by rcases hown'.2 with ⟨h, _⟩ | ⟨_, _, _, h, _⟩ <;> exact ⟨_, _, _, h⟩)]
  have hoff : Off (fun g => v.ownBlock = some g) w w' := Off.grown hg
  have hl1 : ∀ k, live (hp1 k) → live (hp k) := by
    intro k hk
    rcases hq k with h | ⟨h, _⟩
    · rwa [h] at hk
    · rw [h] at hk; exact hk.elim
  -- a block of the new row
  have ab : ∀ (a : Nat) (u : Value) (g : Nat), (v' :: (ss ++ [.slice none 0 0]))[a]? = some u → blk u = some g → (∃ s, (v :: ss)[a]? = some s ∧ blk s = some g) ∨ (a = 0 ∧ w.heap.size ≤ g) := by
    intro a u g ha hu
    cases a with
    | zero =>
      have : v' = u := by simpa using ha
      subst this
      rcases hat with h | h
      · exact .inl ⟨v, rfl, (hvb g).2 (by rw [← h]; exact (hvb' g).1 hu)⟩
      · exact .inr ⟨rfl, h g ((hvb' g).1 hu)⟩
    | succ a =>
      rw [List.getElem?_cons_succ] at ha
      by_cases hal : a < ss.length
      · rw [List.getElem?_append_left hal] at ha
        exact .inl ⟨u, by rw [List.getElem?_cons_succ]; exact ha, hu⟩
      · rw [List.getElem?_append_right (by omega)] at ha
        have : u = .slice none 0 0 := by
          have := List.mem_of_getElem? ha
          exact List.mem_singleton.1 this
        rw [this] at hu
        cases hu
  have anew : ∀ g, At (.tuple (v' :: (ss ++ [.slice none 0 0])).toArray) g → g < w.heap.size → Lv hp ρ g ∧ ∀ k, live (hp1 k) → ¬ At (ρ k) g := by
    intro g hg1 hlt
    obtain ⟨a, u, ha, hu⟩ := at_tuple.1 hg1
    rcases ab a u g ha hu with ⟨s, hs, hb⟩ | ⟨_, h⟩
    · exact hlv a s g hs hb
    · omega
  have lvi : ∀ k g, live (upd hp1 b (.tre o none e be t (l ++ [y]) (some (l.length, q))) k) → At (upd ρ b (.tuple (v' :: (ss ++ [.slice none 0 0])).toArray) k) g → (k = b ∧ At (.tuple (v' :: (ss ++ [.slice none 0 0])).toArray) g) ∨ (k ≠ b ∧ live (hp1 k) ∧ At (ρ k) g) := by
    intro k g hl hb'
    by_cases hkb : k = b
    · subst hkb; rw [upd_same] at hb'; exact .inl ⟨rfl, hb'⟩
    · rw [upd_ne _ _ hkb] at hl hb'; exact .inr ⟨hkb, hl, hb'⟩
  have old : ∀ k, hp k ≠ .unused → Old (ρ k) (upd ρ b (.tuple (v' :: (ss ++ [.slice none 0 0])).toArray) k) ∧ upd hp1 b (.tre o none e be t (l ++ [y]) (some (l.length, q))) k ≠ .unused := by
    intro k hk
    have hne : k ≠ b := fun e => hk (e ▸ hbs)
    rw [upd_ne _ _ hne, upd_ne _ _ hne]
    refine ⟨Old.refl _, ?_⟩
    rcases hq k with h | ⟨h, _⟩
    · rw [h]; exact hk
    · rw [h]; simp
  have nwl : ∀ g, g < w.heap.size → Lv (upd hp1 b (.tre o none e be t (l ++ [y]) (some (l.length, q)))) (upd ρ b (.tuple (v' :: (ss ++ [.slice none 0 0])).toArray)) g → Lv hp ρ g := by
    rintro g hlt ⟨k, hl, hbj⟩
    rcases lvi k g hl hbj with ⟨_, h⟩ | ⟨_, h1, h2⟩
    · exact (anew g h hlt).1
    · exact ⟨k, hl1 k h1, h2⟩
  have hD : ∀ g, v.ownBlock = some g → Lv hp ρ g ∧ ∀ k, live (hp1 k) → ¬ At (ρ k) g := fun g h => hlv 0 v g rfl ((hvb g).2 h)
  have hM : ∀ g, g < w.heap.size → Mut MX (upd hp1 b (.tre o none e be t (l ++ [y]) (some (l.length, q)))) (upd ρ b (.tuple (v' :: (ss ++ [.slice none 0 0])).toArray)) g → Mut MX hp ρ g := fun g hg hm => hm.imp id (nwl g hg)
  have hDM : ∀ g, g < w.heap.size → v.ownBlock = some g → Mut MX hp ρ g := fun g _ h => .inr (hD g h).1
  refine Step.mk' (D := fun g => v.ownBlock = some g) H hoff (fun g _ h => (hD g h).1) old nwl ?_ ?_ ?_ (fun k cs hk => ?_)
  case refine_4 =>
    left
    have hkb : k ≠ b := fun e => by rw [e, hbs] at hk; cases hk
    rcases hq k with h | ⟨h, _⟩
    · exact ⟨by rw [upd_ne _ _ hkb, h], fun g hbg hDg => (hD g hDg).2 k (by rw [h, hk]; trivial) hbg⟩
    · exact absurd hk (hqb k h cs)
  · intro k
    by_cases hkb : k = b
    · subst hkb
      right
      rw [upd_same]
      have hz : (l ++ [y]).zip (us ++ [uq]) = l.zip us ++ [(y, uq)] := by rw [List.zip_append hulen.symm]; rfl
      refine ⟨v', ss ++ [ρ q], us ++ [uq], xs ++ ys, hnest, hosz, ?_, by simp [hlen], by simp [hulen], by rw [List.length_append]; exact hown', ?_, fun a x s _ hx hs hc => ?_, fun a s hf => absurd hf (Nat.not_lt_zero _), fun a s u _ hs hu => ?_, ?_, ?_, fun a r hc => ?_⟩
      · left
        rw [upd_same]
        unfold hole
        simp only [← hlen]
        rw [List.set_append_right _ _ (Nat.le_refl _)]
        simp
      · rw [hz]
        refine Els.append (Els.imp (fun _ _ hk => KT_step hoff hDM hM t hk) hels) ⟨ys, [], by simp, KT_step hoff hDM hM t hy, rfl⟩
      · have hal : a < l.length := by
          have h1 := (List.getElem?_eq_some_iff.1 hx).1
          rw [List.length_append] at h1
          have : a ≠ l.length := fun e => hc q (by rw [e])
          simp at h1
          omega
        rw [List.getElem?_append_left hal] at hx
        rw [List.getElem?_append_left (by omega)] at hs
        refine Inn_step hoff hDM hM (fun g hgs hDg => ?_) (hinn a x s hx hs)
        have := hdis 0 (a + 1) v s g rfl (by rw [List.getElem?_cons_succ]; exact hs) ((hvb g).2 hDg) hgs
        omega
      · by_cases hal : a < l.length
        · rw [List.getElem?_append_left (by omega)] at hs hu
          exact hvw a s u hs hu
        · have h1 := (List.getElem?_eq_some_iff.1 hs).1
          simp only [List.length_append, List.length_singleton] at h1
          obtain rfl : a = l.length := by omega
          rw [List.getElem?_append_right (by omega), hlen, Nat.sub_self] at hs
          rw [List.getElem?_append_right (by omega), hulen, Nat.sub_self] at hu
          injection hs with hs
          injection hu with hu
          rw [← hs, ← hu]
          exact huq
      · have conv : ∀ (a : Nat) (u : Value), (v' :: hole (some (l.length, q)) (ss ++ [ρ q]))[a]? = some u → (v' :: (ss ++ [.slice none 0 0]))[a]? = some u := by
          intro a u ha
          unfold hole at ha
          simp only [← hlen] at ha
          rw [List.set_append_right _ _ (Nat.le_refl _)] at ha
          simpa using ha
        intro a c u u' g ha hc hu hu'
        rcases ab a u g (conv a u ha) hu with ⟨s, hs, hb⟩ | ⟨h0, h⟩ <;> rcases ab c u' g (conv c u' hc) hu' with ⟨s', hs', hb'⟩ | ⟨h0', h'⟩
        · exact hdis a c s s' g hs hs' hb hb'
        · obtain ⟨k2, hk2, hk3⟩ := (hlv a s g hs hb).1
          have := H.lt hk2 hk3; omega
        · obtain ⟨k2, hk2, hk3⟩ := (hlv c s' g hs' hb').1
          have := H.lt hk2 hk3; omega
        · rw [h0, h0']
      · intro s hs
        rcases List.mem_append.1 hs with hs | hs
        · exact hsl s hs
        · rw [List.mem_singleton.1 hs]; exact hqs
      · injection hc with hc
        injection hc with e1 e2
        subst e1 e2
        refine ⟨Nat.zero_le _, by simp [hlen], ?_, ?_⟩
        · rw [upd_ne _ _ hqb', List.getElem?_append_right (by omega), hlen, Nat.sub_self]
          rfl
        · rw [upd_ne _ _ hqb']; exact hq1
    · rcases hq k with h | ⟨h, _⟩
      · refine .inl ⟨by rw [upd_ne _ _ hkb, h], upd_ne _ _ hkb, fun hl g hbg hDg => ?_⟩
        exact (hD g hDg).2 k (by rw [h]; exact hl) hbg
      · right
        rw [upd_ne _ _ hkb, h]
        trivial
  · intro k k' g hl hl' hb hb'
    rcases lvi k g hl hb with ⟨rfl, e1⟩ | ⟨_, hl1', hb1⟩ <;> rcases lvi k' g hl' hb' with ⟨rfl, e2⟩ | ⟨_, hl2', hb2⟩
    · rfl
    · by_cases hlt : g < w.heap.size
      · exact absurd hb2 ((anew g e1 hlt).2 k' hl2')
      · exact absurd (H.lt (hl1 k' hl2') hb2) hlt
    · by_cases hlt : g < w.heap.size
      · exact absurd hb1 ((anew g e2 hlt).2 k hl1')
      · exact absurd (H.lt (hl1 k hl1') hb1) hlt
    · exact H.sep k k' g (hl1 k hl1') (hl1 k' hl2') hb1 hb2
  · intro k g hl hb hmx
    rcases lvi k g hl hb with ⟨rfl, e1⟩ | ⟨_, hl1', hb1⟩
    · obtain ⟨k2, h1, h2⟩ := (anew g e1 (H.mx g hmx)).1
      exact H.ext k2 g h1 h2 hmx
    · exact H.ext k g (hl1 k hl1') hb1 hmx

theorem hole_append {cur : Option (Nat × Nat)} {ss sm : List Value} (h : ∀ j q, cur = some (j, q) → j < ss.length) : hole cur (ss ++ sm) = hole cur ss ++ sm := by
  unfold hole
  split
  · rfl
  · rename_i j q
    rw [List.set_append_left _ _ (h j q rfl)]

/-- An element whose row is nothing is appended: what is out stays out. -/
theorem Step.appendNil (H : HRel MX w ρ hp) {hp1 : Heap} (hq : ∀ k, hp1 k = hp k ∨ (hp1 k = .gone ∧ hp k ≠ .unused)) (hqb : ∀ k, hp1 k = .gone → ∀ cs, hp k ≠ .box cs) {b : Nat} (hbs : hp b = .unused)
    {o : Nat} {e be : TypeId} {t : Ty} {l : List t.den} {y : t.den} {cur : Option (Nat × Nat)} {v sq uq : Value} {ss us xs ys : List Value}
    (hnest : t.nest = true) (hosz : o = 0 ∨ t.inn.sz = 1) (hlen : ss.length = l.length) (hulen : us.length = l.length) (hown : w.ownsRow 0 e t.sz v l.length xs) (hels : Els (fun (p : t.den × Value) cs => KT (Mut MX hp ρ) w t p.1 p.2 cs) (l.zip us) xs) (hvw : ∀ (j : Nat) (s u : Value), ss[j]? = some s → us[j]? = some u → Vw o s u)
    (hinn : ∀ (j : Nat) (x : t.den) (s : Value), l[j]? = some x → ss[j]? = some s → (∀ q, cur ≠ some (j, q)) → Inn (Mut MX hp ρ) w be t x s) (hdis : Dis (v :: (hole cur ss ++ [sq]))) (hsl : ∀ s ∈ ss, ∃ A n c, s = .slice A n c)
    (hlv : ∀ (j : Nat) (s : Value) (g : Nat), (v :: (hole cur ss ++ [sq]))[j]? = some s → blk s = some g → Lv hp ρ g ∧ ∀ k, live (hp1 k) → ¬ At (ρ k) g)
    (hcur : ∀ j q, cur = some (j, q) → j < ss.length ∧ ss[j]? = some (ρ q) ∧ hp q ≠ .unused ∧ hp1 q ≠ .unused)
    (hqs : ∃ A n c, sq = .slice A n c) (hqi : Inn (Mut MX hp ρ) w be t y sq) (huq : Vw o sq uq) (hy : KT (Mut MX hp ρ) w t y uq ys)
    {w' : World} {v' : Value} (hown' : w'.ownsRow 0 e t.sz v' (l.length + 1) (xs ++ ys)) (hg : w.grownBy w' v.ownBlock) (hat : v'.ownBlock = v.ownBlock ∨ ∀ g, v'.ownBlock = some g → w.heap.size ≤ g) :
    Step MX w ρ hp w' (upd ρ b (.tuple (v' :: hole cur (ss ++ [sq])).toArray)) (upd hp1 b (.tre o none e be t (l ++ [y]) cur)) := by
  have hha : hole cur (ss ++ [sq]) = hole cur ss ++ [sq] := hole_append fun j q h => (hcur j q h).1
  rw [hha]
  have hvb : ∀ g, blk v = some g ↔ v.ownBlock = some g := fun g => by rw [← show At v g ↔ blk v = some g from by rw [at_own hown]]; rw [blk_own (by rcases hown.2 with ⟨h, _⟩ | ⟨_, _, _, h, _⟩ <;> exact ⟨_, _, _, h⟩)]
  have hvb' : ∀ g, blk v' = some g ↔ v'.ownBlock = some g := fun g => by rw [← show At v' g ↔ blk v' = some g from by rw [at_own hown']]; rw [blk_own (by rcases hown'.2 with ⟨h, _⟩ | ⟨_, _, _, h, _⟩ <;> exact ⟨_, _, _, h⟩)]
  have hoff : Off (fun g => v.ownBlock = some g) w w' := Off.grown hg
  have hl1 : ∀ k, live (hp1 k) → live (hp k) := by
    intro k hk
    rcases hq k with h | ⟨h, _⟩
    · rwa [h] at hk
    · rw [h] at hk; exact hk.elim
  have ab : ∀ (a : Nat) (u : Value) (g : Nat), (v' :: (hole cur ss ++ [sq]))[a]? = some u → blk u = some g → (∃ s, (v :: (hole cur ss ++ [sq]))[a]? = some s ∧ blk s = some g) ∨ (a = 0 ∧ w.heap.size ≤ g) := by
    intro a u g ha hu
    cases a with
    | zero =>
      have : v' = u := by simpa using ha
      subst this
      rcases hat with h | h
      · exact .inl ⟨v, rfl, (hvb g).2 (by rw [← h]; exact (hvb' g).1 hu)⟩
      · exact .inr ⟨rfl, h g ((hvb' g).1 hu)⟩
    | succ a =>
      rw [List.getElem?_cons_succ] at ha
      exact .inl ⟨u, by rw [List.getElem?_cons_succ]; exact ha, hu⟩
  have anew : ∀ g, At (.tuple (v' :: (hole cur ss ++ [sq])).toArray) g → g < w.heap.size → Lv hp ρ g ∧ ∀ k, live (hp1 k) → ¬ At (ρ k) g := by
    intro g hg1 hlt
    obtain ⟨a, u, ha, hu⟩ := at_tuple.1 hg1
    rcases ab a u g ha hu with ⟨s, hs, hb⟩ | ⟨_, h⟩
    · exact hlv a s g hs hb
    · omega
  have lvi : ∀ k g, live (upd hp1 b (.tre o none e be t (l ++ [y]) cur) k) → At (upd ρ b (.tuple (v' :: (hole cur ss ++ [sq])).toArray) k) g → (k = b ∧ At (.tuple (v' :: (hole cur ss ++ [sq])).toArray) g) ∨ (k ≠ b ∧ live (hp1 k) ∧ At (ρ k) g) := by
    intro k g hl hb'
    by_cases hkb : k = b
    · subst hkb; rw [upd_same] at hb'; exact .inl ⟨rfl, hb'⟩
    · rw [upd_ne _ _ hkb] at hl hb'; exact .inr ⟨hkb, hl, hb'⟩
  have old : ∀ k, hp k ≠ .unused → Old (ρ k) (upd ρ b (.tuple (v' :: (hole cur ss ++ [sq])).toArray) k) ∧ upd hp1 b (.tre o none e be t (l ++ [y]) cur) k ≠ .unused := by
    intro k hk
    have hne : k ≠ b := fun e => hk (e ▸ hbs)
    rw [upd_ne _ _ hne, upd_ne _ _ hne]
    refine ⟨Old.refl _, ?_⟩
    rcases hq k with h | ⟨h, _⟩
    · rw [h]; exact hk
    · rw [h]; simp
  have nwl : ∀ g, g < w.heap.size → Lv (upd hp1 b (.tre o none e be t (l ++ [y]) cur)) (upd ρ b (.tuple (v' :: (hole cur ss ++ [sq])).toArray)) g → Lv hp ρ g := by
    rintro g hlt ⟨k, hl, hbj⟩
    rcases lvi k g hl hbj with ⟨_, h⟩ | ⟨_, h1, h2⟩
    · exact (anew g h hlt).1
    · exact ⟨k, hl1 k h1, h2⟩
  have hD : ∀ g, v.ownBlock = some g → Lv hp ρ g ∧ ∀ k, live (hp1 k) → ¬ At (ρ k) g := fun g h => hlv 0 v g rfl ((hvb g).2 h)
  have hM : ∀ g, g < w.heap.size → Mut MX (upd hp1 b (.tre o none e be t (l ++ [y]) cur)) (upd ρ b (.tuple (v' :: (hole cur ss ++ [sq])).toArray)) g → Mut MX hp ρ g := fun g hg hm => hm.imp id (nwl g hg)
  have hDM : ∀ g, g < w.heap.size → v.ownBlock = some g → Mut MX hp ρ g := fun g _ h => .inr (hD g h).1
  have hl9 : (hole cur ss).length = l.length := by rw [hole_len, hlen]
  refine Step.mk' (D := fun g => v.ownBlock = some g) H hoff (fun g _ h => (hD g h).1) old nwl ?_ ?_ ?_ (fun k cs hk => ?_)
  case refine_4 =>
    left
    have hkb : k ≠ b := fun e => by rw [e, hbs] at hk; cases hk
    rcases hq k with h | ⟨h, _⟩
    · exact ⟨by rw [upd_ne _ _ hkb, h], fun g hbg hDg => (hD g hDg).2 k (by rw [h, hk]; trivial) hbg⟩
    · exact absurd hk (hqb k h cs)
  · intro k
    by_cases hkb : k = b
    · subst hkb
      right
      rw [upd_same]
      have hz : (l ++ [y]).zip (us ++ [uq]) = l.zip us ++ [(y, uq)] := by rw [List.zip_append hulen.symm]; rfl
      refine ⟨v', ss ++ [sq], us ++ [uq], xs ++ ys, hnest, hosz, .inl (by rw [upd_same, hha]), by simp [hlen], by simp [hulen], by rw [List.length_append]; exact hown', ?_, fun a x s _ hx hs hc => ?_, fun a s hf => absurd hf (Nat.not_lt_zero _), fun a s u _ hs hu => ?_, ?_, ?_, fun a r hc => ?_⟩
      · rw [hz]
        refine Els.append (Els.imp (fun _ _ hk => KT_step hoff hDM hM t hk) hels) ⟨ys, [], by simp, KT_step hoff hDM hM t hy, rfl⟩
      · have hng : ∀ g, (v :: (hole cur ss ++ [sq]))[a + 1]? = some s → blk s = some g → ¬ v.ownBlock = some g := fun g hs hgs hDg => by
          have := hdis 0 (a + 1) v s g rfl hs ((hvb g).2 hDg) hgs
          omega
        by_cases hal : a < l.length
        · rw [List.getElem?_append_left hal] at hx
          rw [List.getElem?_append_left (by omega)] at hs
          refine Inn_step hoff hDM hM (fun g hgs => hng g ?_ hgs) (hinn a x s hx hs hc)
          rw [List.getElem?_cons_succ, List.getElem?_append_left (by omega), hole_get hc]
          exact hs
        · have h1 := (List.getElem?_eq_some_iff.1 hx).1
          simp only [List.length_append, List.length_singleton] at h1
          obtain rfl : a = l.length := by omega
          rw [List.getElem?_append_right (by omega), hlen, Nat.sub_self] at hs
          rw [List.getElem?_append_right (by omega), Nat.sub_self] at hx
          have e1 : sq = s := by simpa using hs
          have e2 : y = x := by simpa using hx
          subst e1 e2
          refine Inn_step hoff hDM hM (fun g hgs => hng g ?_ hgs) hqi
          rw [List.getElem?_cons_succ, List.getElem?_append_right (by omega), hl9, Nat.sub_self]
          rfl
      · by_cases hal : a < l.length
        · rw [List.getElem?_append_left (by omega)] at hs hu
          exact hvw a s u hs hu
        · have h1 := (List.getElem?_eq_some_iff.1 hs).1
          simp only [List.length_append, List.length_singleton] at h1
          obtain rfl : a = l.length := by omega
          rw [List.getElem?_append_right (by omega), hlen, Nat.sub_self] at hs
          rw [List.getElem?_append_right (by omega), hulen, Nat.sub_self] at hu
          have e1 : sq = s := by simpa using hs
          have e2 : uq = u := by simpa using hu
          rw [← e1, ← e2]
          exact huq
      · rw [hha]
        intro a c u u' g ha hc hu hu'
        rcases ab a u g ha hu with ⟨s, hs, hb⟩ | ⟨h0, h⟩ <;> rcases ab c u' g hc hu' with ⟨s', hs', hb'⟩ | ⟨h0', h'⟩
        · exact hdis a c s s' g hs hs' hb hb'
        · obtain ⟨k2, hk2, hk3⟩ := (hlv a s g hs hb).1
          have := H.lt hk2 hk3; omega
        · obtain ⟨k2, hk2, hk3⟩ := (hlv c s' g hs' hb').1
          have := H.lt hk2 hk3; omega
        · rw [h0, h0']
      · intro s hs
        rcases List.mem_append.1 hs with hs | hs
        · exact hsl s hs
        · rw [List.mem_singleton.1 hs]; exact hqs
      · obtain ⟨h1, h2, h3, h4⟩ := hcur a r hc
        have hrb : r ≠ k := fun e' => h3 (by rw [e', hbs])
        refine ⟨Nat.zero_le _, by simp; omega, ?_, ?_⟩
        · rw [upd_ne _ _ hrb, List.getElem?_append_left h1]
          exact h2
        · rw [upd_ne _ _ hrb]; exact h4
    · rcases hq k with h | ⟨h, _⟩
      · refine .inl ⟨by rw [upd_ne _ _ hkb, h], upd_ne _ _ hkb, fun hl g hbg hDg => ?_⟩
        exact (hD g hDg).2 k (by rw [h]; exact hl) hbg
      · right
        rw [upd_ne _ _ hkb, h]
        trivial
  · intro k k' g hl hl' hb hb'
    rcases lvi k g hl hb with ⟨rfl, e1⟩ | ⟨_, hl1', hb1⟩ <;> rcases lvi k' g hl' hb' with ⟨rfl, e2⟩ | ⟨_, hl2', hb2⟩
    · rfl
    · by_cases hlt : g < w.heap.size
      · exact absurd hb2 ((anew g e1 hlt).2 k' hl2')
      · exact absurd (H.lt (hl1 k' hl2') hb2) hlt
    · by_cases hlt : g < w.heap.size
      · exact absurd hb1 ((anew g e2 hlt).2 k hl1')
      · exact absurd (H.lt (hl1 k hl1') hb1) hlt
    · exact H.sep k k' g (hl1 k hl1') (hl1 k' hl2') hb1 hb2
  · intro k g hl hb hmx
    rcases lvi k g hl hb with ⟨rfl, e1⟩ | ⟨_, hl1', hb1⟩
    · obtain ⟨k2, h1, h2⟩ := (anew g e1 (H.mx g hmx)).1
      exact H.ext k2 g h1 h2 hmx
    · exact H.ext k g (hl1 k hl1') hb1 hmx

/-- A row that was taken out is no more one's own: the elements up to it are forgotten. -/
theorem Step.forget (H : HRel MX w ρ hp) {i o : Nat} {fr : Option Nat} {e be : TypeId} {t : Ty} {l : List t.den} {v : Value} {ss us xs : List Value} {j q : Nat} (hi : hp i = .tre o fr e be t l (some (j, q))) (h : TreOk (Mut MX hp ρ) w ρ hp i o fr e be t l (some (j, q)) v ss us xs) :
    Step MX w ρ hp w (upd ρ i (.tuple (v :: (List.replicate (j + 1) (.slice none 0 0) ++ ss.drop (j + 1))).toArray)) (upd hp i (.tre o (some (j + 1)) e be t l none)) := by
  obtain ⟨hfr, hjl, hs, _⟩ := h.cur_ j q rfl
  have hjl' : j < l.length := by rw [← h.len]; exact hjl
  have hne0 : 0 < l.length := by omega
  have lvi : live (hp i) := by rw [hi]; trivial
  have hget : ∀ (a : Nat), j + 1 ≤ a → (List.replicate (j + 1) (.slice none 0 0) ++ ss.drop (j + 1))[a]? = ss[a]? := fun a ha => by
    rw [List.getElem?_append_right (by simpa using ha), List.length_replicate, List.getElem?_drop]
    congr 1
    omega
  have hget2 : ∀ (a : Nat) (u : Value), a < j + 1 → (List.replicate (j + 1) (Value.slice none 0 0) ++ ss.drop (j + 1))[a]? = some u → u = .slice none 0 0 := fun a u ha hu => by
    rw [List.getElem?_append_left (by simpa using ha)] at hu
    exact (List.mem_replicate.1 (List.mem_of_getElem? hu)).2
  have conv : ∀ (a : Nat) (u : Value) (b : Nat), (v :: (List.replicate (j + 1) (.slice none 0 0) ++ ss.drop (j + 1)))[a]? = some u → blk u = some b → (v :: hole (some (j, q)) ss)[a]? = some u := by
    intro a u b ha hu
    cases a with
    | zero => exact ha
    | succ a =>
      rw [List.getElem?_cons_succ] at ha ⊢
      by_cases haj : a < j + 1
      · rw [hget2 a u haj ha] at hu
        cases hu
      · rw [hget a (by omega)] at ha
        rw [hole_get (fun q' e => haj (by injection e with e; injection e with e1 _; omega))]
        exact ha
  have old : ∀ k, hp k ≠ .unused → Old (ρ k) (upd ρ i (.tuple (v :: (List.replicate (j + 1) (.slice none 0 0) ++ ss.drop (j + 1))).toArray) k) ∧ upd hp i (.tre o (some (j + 1)) e be t l none) k ≠ .unused := by
    intro k hk
    by_cases hki : k = i
    · subst hki
      rw [upd_same, upd_same]
      exact ⟨.inr ⟨⟨_, h.tup hne0⟩, ⟨_, rfl⟩, by rw [h.hd_]; rfl⟩, by simp⟩
    · rw [upd_ne _ _ hki, upd_ne _ _ hki]
      exact ⟨Old.refl _, hk⟩
  have cl : ∀ k b, live (upd hp i (.tre o (some (j + 1)) e be t l none) k) → At (upd ρ i (.tuple (v :: (List.replicate (j + 1) (.slice none 0 0) ++ ss.drop (j + 1))).toArray) k) b → live (hp k) ∧ At (ρ k) b := by
    intro k b hl hb
    by_cases hki : k = i
    · subst hki
      rw [upd_same] at hb
      obtain ⟨a, u, ha, hu⟩ := at_tuple.1 hb
      exact ⟨lvi, h.at_.2 ⟨a, u, conv a u b ha hu, hu⟩⟩
    · rw [upd_ne _ _ hki] at hl hb
      exact ⟨hl, hb⟩
  have nwl : ∀ b, b < w.heap.size → Lv (upd hp i (.tre o (some (j + 1)) e be t l none)) (upd ρ i (.tuple (v :: (List.replicate (j + 1) (.slice none 0 0) ++ ss.drop (j + 1))).toArray)) b → Lv hp ρ b := fun b _ ⟨k, hl, hb⟩ => ⟨k, cl k b hl hb⟩
  have hM : ∀ b, b < w.heap.size → Mut MX (upd hp i (.tre o (some (j + 1)) e be t l none)) (upd ρ i (.tuple (v :: (List.replicate (j + 1) (.slice none 0 0) ++ ss.drop (j + 1))).toArray)) b → Mut MX hp ρ b := fun b hb hm => hm.imp id (nwl b hb)
  refine Step.mk' (D := fun _ => False) H (Off.refl _ _) (fun _ _ hf => hf.elim) old nwl ?_ ?_ ?_ ?_
  · intro k
    by_cases hki : k = i
    · subst hki
      refine .inr ?_
      rw [upd_same]
      refine ⟨v, List.replicate (j + 1) (.slice none 0 0) ++ ss.drop (j + 1), us, xs, h.nest, h.osz, .inl (by rw [upd_same]; rfl), ?_, h.ulen, h.own, Els.imp (fun _ _ hk => KT_step (D := fun _ => False) (Off.refl _ _) (fun _ _ hf => hf.elim) hM t hk) h.els, fun a x u (hf : j + 1 ≤ a) hx hu _ => ?_, fun a s hf hs => hget2 a s hf hs, fun a s u (hf : j + 1 ≤ a) hs hu => ?_, ?_, ?_, fun a r hc => by cases hc⟩
      · rw [List.length_append, List.length_replicate, List.length_drop, ← h.len]
        omega
      · rw [hget a hf] at hu
        exact Inn_step (D := fun _ => False) (Off.refl _ _) (fun _ _ hf => hf.elim) hM (fun _ _ hf => hf) (h.inn a x u (by omega) hx hu (fun r e' => by injection e' with e'; injection e' with e1 _; omega))
      · rw [hget a hf] at hs
        exact h.vw a s u (by omega) hs hu
      · intro a c u u' b ha hc hu hu'
        exact h.dis a c u u' b (conv a u b ha hu) (conv c u' b hc hu') hu hu'
      · intro s hs
        rcases List.mem_append.1 hs with hs | hs
        · exact ⟨_, _, _, (List.mem_replicate.1 hs).2⟩
        · exact h.sl s (List.mem_of_mem_drop hs)
    · exact .inl ⟨upd_ne _ _ hki, upd_ne _ _ hki, fun _ _ _ hf => hf⟩
  · intro k k' b hl hl' hb hb'
    exact H.sep k k' b (cl k b hl hb).1 (cl k' b hl' hb').1 (cl k b hl hb).2 (cl k' b hl' hb').2
  · intro k b hl hb hm
    exact H.ext k b (cl k b hl hb).1 (cl k b hl hb).2 hm
  · intro k cs hk
    have hki : k ≠ i := fun e' => by rw [e', hi] at hk; cases hk
    exact .inl ⟨upd_ne _ _ hki, fun _ _ hf => hf⟩
end
end Go.Proofs.YtbpeiilildchlaaGreatDoor.Abs
namespace Go.Proofs.YtbpeiilildchlaaGreatDoor.Abs
open Go Go.RowKit
set_option linter.unusedVariables false
set_option linter.unusedSectionVars false
set_option linter.unusedSimpArgs false

theorem add_at' (b o n : Nat) : (⟨b, o, none⟩ : Addr).add n = ⟨b, o + n, none⟩ := by
  unfold Addr.add
  split
  · rename_i h; subst h; rfl
  · rfl

section
variable {Rt : Type} {P : Program} {M : Nat → Prop} {w : World} {ρ : Nat → Value} {hp : Heap} {b : Nat} {rs ws : List Nat} {K : AV → Nat → Heap → List Nat → List Nat → Option Rt} {r : Rt}

theorem run_isAgg {T : TypeId} {t : Bool} (h : isAgg P T = some t) : (Go.isAgg T).run P w = .ok t w := by
  unfold isAgg at h
  cases hu : P.underlying T with
  | none => rw [hu] at h; cases h
  | some d =>
    rw [hu] at h
    unfold Go.isAgg
    rw [Sem.run_bind, run_underlying hu w]
    cases d <;> simp_all

theorem run_sizeOf {T n : Nat} (h : sizeAt P T = some n) : (Go.sizeOf T).run P w = .ok n w := by
  unfold sizeAt at h
  cases hi : P.info? T with
  | none => rw [hi] at h; cases h
  | some i =>
    rw [hi] at h
    have : i.size = n := by simpa using h
    subst this
    simp [Go.sizeOf, typeInfo, hi]

theorem shut_sound {agg : Option Bool} {cs : List AV} {vs : List Value} (h : Rs M w ρ hp cs vs) (hk : (shut agg cs).go b hp rs ws K = some r) :
    (agg = some true ∧ K (.agg cs) b hp rs ws = some r) ∨ (agg = some false ∧ ∃ c v, cs = [c] ∧ vs = [v] ∧ R M w ρ hp c v ∧ K c b hp rs ws = some r) := by
  match agg, cs, hk with
  | some true, cs, hk => exact .inl ⟨rfl, hk⟩
  | some false, [c], hk =>
    obtain ⟨v, q, rfl, hr, hq⟩ := h
    cases hq
    exact .inr ⟨rfl, c, v, rfl, rfl, hr, hk⟩
  | some false, [], hk => cases hk
  | some false, _ :: _ :: _, hk => cases hk
  | none, _, hk => cases hk

/-- Reading a variable out of cells. -/
theorem finLoad_sound {T : TypeId} {cs : List AV} {vs : List Value} {g o off : Nat} (h : Rs M w ρ hp cs vs) (hc : ∀ (j : Nat) (v : Value), vs[j]? = some v → w.cell? ⟨g, o + j, none⟩ = some v)
    (hk : (finLoad P T cs off).go b hp rs ws K = some r) : ∃ x v, K x b hp rs ws = some r ∧ (loadVar T ⟨g, o + off, none⟩).run P w = .ok v w ∧ R M w ρ hp x v := by
  unfold finLoad at hk
  split at hk
  · cases hk
  rename_i n hn
  split at hk
  case h_2 => cases hk
  rename_i hle
  have hle : off + n ≤ cs.length := Nat.le_of_ble_eq_true hle
  have hl := Rs_len h
  have h' := Rs_take (Rs_drop h off) n
  have hc' : ∀ (j : Nat) (v : Value), ((vs.drop off).take n)[j]? = some v → w.cell? ((⟨g, o + off, none⟩ : Addr).add j) = some v := by
    intro j v hv
    rw [add_at', Nat.add_assoc]
    rw [List.getElem?_take] at hv
    split at hv
    · exact hc _ _ (by simpa using hv)
    · cases hv
  rcases shut_sound h' hk with ⟨ha, hK⟩ | ⟨ha, c, v, e1, e2, hr, hK⟩
  · refine ⟨_, .agg ((vs.drop off).take n).toArray, hK, ?_, _, rfl, h'⟩
    have hlen : ((vs.drop off).take n).length = n := by simp; omega
    have := run_loadCells_list (P := P) w ⟨g, o + off, none⟩ _ hc'
    rw [hlen] at this
    simp [loadVar, run_isAgg ha, run_sizeOf hn, this]
  · refine ⟨c, v, hK, ?_, hr⟩
    have := hc' 0 v (by rw [e2]; rfl)
    rw [add_at', Nat.add_zero] at this
    simp [loadVar, run_isAgg ha, this]

mutual
theorem R_cells' {t : Ty} {x : t.den} {vs : List Value} (hx : t.KR M w x vs) : Rs M w ρ hp (t.cells x) vs := by
  cases t with
  | int k => rw [show vs = [.int k x] from hx]; exact ⟨_, _, rfl, rfl, rfl⟩
  | bool => rw [show vs = [.bool x] from hx]; exact ⟨_, _, rfl, rfl, rfl⟩
  | str => rw [show vs = [.string x] from hx]; exact ⟨_, _, rfl, rfl, rfl⟩
  | sl t =>
    obtain ⟨A, c, rfl, hl, hr⟩ := hx
    exact ⟨_, _, rfl, ⟨A, c, rfl, hl, hr⟩, rfl⟩
  | pair a b =>
    obtain ⟨c0, c1, rfl, h0, h1⟩ := hx
    exact Rs_append (R_cells' h0) (R_cells' h1)
end

/-- The element of a row that is one's own, its cells in memory. -/
theorem own_elem {e : TypeId} {t : Ty} {l : List t.den} {v : Value} {xs : List Value} (h : w.ownsRow 0 e t.sz v l.length xs) (he : Els (t.KR M w) l xs) {g n c : Nat} (hv : v = .slice (some ⟨g, 0, none⟩) n c) {j : Nat} (hj : j < n) :
    ∃ vs, t.KR M w (l.getD j t.zero) vs ∧ j < l.length ∧ ∀ (q : Nat) (u : Value), vs[q]? = some u → w.cell? ⟨g, j * t.sz + q, none⟩ = some u := by
  rcases h.2 with ⟨h2, _⟩ | ⟨g', cap, cur, h2, _, hh, hle, _, hcs, htake⟩
  · rw [hv] at h2; cases h2
  · rw [hv] at h2
    injection h2 with e1 e2 e3
    injection e1 with e1
    injection e1 with e1
    subst e1 e2
    obtain ⟨vs, h1, h2, h3⟩ := Els.get (fun _ _ hk => KR_len t hk) he j (l[j]) (List.getElem?_eq_getElem hj)
    refine ⟨vs, by rw [List.getD_eq_getElem?_getD, List.getElem?_eq_getElem hj]; exact h1, hj, fun q u hq => ?_⟩
    have hq' : q < t.sz := by
      have := (List.getElem?_eq_some_iff.1 hq).1
      omega
    have hxs := h3 q hq'
    rw [hq, ← htake, List.getElem?_take] at hxs
    split at hxs
    · rw [cell_of_row w g _ cur e (0, 0) hh]
      simpa using hxs
    · cases hxs

theorem frz_elem {t : Ty} {l : List t.den} {A : Option Addr} (h : RowR M w (t.KR M w) t.sz A l) {g : Nat} (hv : A = some ⟨g, 0, none⟩) {j : Nat} (hj : j < l.length) :
    ∃ vs, t.KR M w (l.getD j t.zero) vs ∧ ∀ (q : Nat) (u : Value), vs[q]? = some u → w.cell? ⟨g, j * t.sz + q, none⟩ = some u := by
  obtain ⟨b, o, cs, hA, _, hl, hk, hc⟩ := h j l[j] (List.getElem?_eq_getElem hj)
  rw [hv] at hA
  injection hA with hA
  injection hA with e1 e2
  subst e1 e2
  refine ⟨cs, by rw [List.getD_eq_getElem?_getD, List.getElem?_eq_getElem hj]; exact hk, fun q u hq => ?_⟩
  have := hc q u hq
  rwa [Nat.zero_add] at this

theorem loadB_sound {MX : Nat → Prop} (H : HRel MX w ρ hp) {T : TypeId} {a : AV} {y : Value} (ha : R (Mut MX hp ρ) w ρ hp a y) (hk : (loadB P T a).go b hp rs ws K = some r) :
    ∃ x v rs', K x b hp rs' ws = some r ∧ (Instr.loadAt T y).run P w = .ok v w ∧ R (Mut MX hp ρ) w ρ hp x v := by
  unfold loadB at hk
  split at hk
  case h_3 => cases hk
  · rename_i i off
    obtain ⟨hu, g, o, he, rfl⟩ := ha
    simp only [loadE, Eff.go] at hk
    have hok := H.ok i
    split at hk
    · rename_i cs hi
      rw [hi] at hok
      obtain ⟨g', o', C, e, vs, h1, h2, h3, h4⟩ := hok
      rw [he] at h1
      injection h1 with h1
      injection h1 with h1
      injection h1 with e1 e2
      subst e1 e2
      obtain ⟨x, v, hK, hr, hR⟩ := finLoad_sound (g := g) (o := o) h3 (fun j v hv => by rw [cell_of_row w g _ C e (0, 0) h2]; exact h4 j v hv) hk
      exact ⟨x, v, _, hK, by simpa [Instr.loadAt, Instr.sureAddr] using hr, hR⟩
    · cases hk
  · rename_i t x off
    obtain ⟨g, o, cs, rfl, hb, hkr, hc⟩ := ha
    simp only [loadE] at hk
    obtain ⟨x, v, hK, hr, hR⟩ := finLoad_sound (ρ := ρ) (hp := hp) (g := g) (o := o) (R_cells' hkr) hc hk
    exact ⟨x, v, _, hK, by simpa [Instr.loadAt, Instr.sureAddr] using hr, hR⟩

theorem loadE_sound {MX : Nat → Prop} (H : HRel MX w ρ hp) {T : TypeId} {a : AV} {y : Value} (ha : R (Mut MX hp ρ) w ρ hp a y) (hk : (loadE P T a).go b hp rs ws K = some r) :
    ∃ x b' hp' rs' ws' v ρ', K x b' hp' rs' ws' = some r ∧ (Instr.loadAt T y).run P w = .ok v w ∧ Step MX w ρ hp w ρ' hp' ∧ R (Mut MX hp' ρ') w ρ' hp' x v := by
  have hB : (loadB P T a).go b hp rs ws K = some r → ∃ x b' hp' rs' ws' v ρ', K x b' hp' rs' ws' = some r ∧ (Instr.loadAt T y).run P w = .ok v w ∧ Step MX w ρ hp w ρ' hp' ∧ R (Mut MX hp' ρ') w ρ' hp' x v := fun hk => by
    obtain ⟨x, v, rs', h1, h2, h3⟩ := loadB_sound H ha hk
    exact ⟨x, b, hp, rs', ws, v, ρ, h1, h2, Step.refl H, h3⟩
  cases a with
  | box i off => exact hB hk
  | elt t x off => exact hB hk
  | oel i sz j off =>
    unfold loadE at hk
    obtain ⟨hu, g, n, c, he, hj, rfl⟩ := ha
    simp only [Eff.go] at hk
    have hok := H.ok i
    split at hk
    · rename_i e t l hi
      split at hk
      case h_2 => cases hk
      rename_i hsz
      have hsz := Nat.eq_of_beq_eq_true hsz
      subst hsz
      rw [hi] at hok
      obtain ⟨xs, h1, h2⟩ := hok
      rw [hd_own h1] at he
      obtain ⟨vs, hkr, _, hc⟩ := own_elem h1 h2 he hj
      obtain ⟨x, v, hK, hr, hR⟩ := finLoad_sound (ρ := ρ) (hp := hp) (g := g) (o := j * t.sz) (R_cells' hkr) hc hk
      exact ⟨x, b, hp, _, _, v, ρ, hK, by simpa [Instr.loadAt, Instr.sureAddr] using hr, Step.refl H, hR⟩
    · rename_i t l hi
      split at hk
      case h_2 => cases hk
      rename_i hsz
      have hsz := Nat.eq_of_beq_eq_true hsz
      subst hsz
      rw [hi] at hok
      obtain ⟨A, c', h1, h2, h3⟩ := hok
      rw [hd_slice h1] at he
      rw [he] at h1
      injection h1 with e1 e2 e3
      subst e2
      obtain ⟨vs, hkr, hc⟩ := frz_elem h3 e1.symm hj
      obtain ⟨x, v, hK, hr, hR⟩ := finLoad_sound (ρ := ρ) (hp := hp) (g := g) (o := j * t.sz) (R_cells' hkr) hc hk
      exact ⟨x, b, hp, _, _, v, ρ, hK, by simpa [Instr.loadAt, Instr.sureAddr] using hr, Step.refl H, hR⟩
    · rename_i l hi
      split at hk
      case h_2 => cases hk
      rename_i hsz
      have hsz := Nat.eq_of_beq_eq_true hsz
      subst hsz
      rw [hi] at hok
      obtain ⟨g', c', h1, h2, h3⟩ := hok
      rw [hd_slice h1] at he
      rw [he] at h1
      injection h1 with e1 e2 e3
      injection e1 with e1
      injection e1 with e1
      subst e1 e2
      obtain ⟨x, v, hK, hr, hR⟩ := finLoad_sound (M := Mut MX hp ρ) (ρ := ρ) (hp := hp) (g := g) (o := j * 1) (vs := [.int .u8 (l.getD j 0)]) (show Rs _ _ _ _ [.v (.int .u8 (l.getD j 0))] _ from ⟨_, _, rfl, rfl, rfl⟩) (fun q v hq => by
        cases q with
        | zero =>
          simp at hq
          subst hq
          rw [Nat.mul_one, Nat.add_zero, h3.cell hj]
          simp [List.getD_eq_getElem?_getD]
        | succ q => simp at hq) hk
      exact ⟨x, b, hp, _, _, v, ρ, hK, by simpa [Instr.loadAt, Instr.sureAddr] using hr, Step.refl H, hR⟩
    · rename_i o fr e be t l cur hi
      rw [hi] at hok
      obtain ⟨v0, ss, us, xs, ht⟩ := hok
      split at hk
      case h_2 => cases hk
      rename_i nn hsz hnn
      have hsz := Nat.eq_of_beq_eq_true hsz
      subst hsz
      have hv0 : v0 = .slice (some ⟨g, 0, none⟩) n c := by rw [ht.hd_] at he; exact he
      obtain ⟨hnl, s, u0, vs, hs, hus, hkt, hc⟩ := ht.elem hv0 hj
      obtain ⟨c0, rfl, hfl⟩ := KT_flat (ρ := ρ) (hp := hp) t hkt
      split at hk
      · obtain ⟨x, v, hK, hr, hR⟩ := finLoad_sound (ρ := ρ) (hp := hp) (g := g) (o := j * t.sz) hfl (fun q u hq => hc q u (by rw [List.getElem?_append_left (List.getElem?_eq_some_iff.1 hq).1]; exact hq)) hk
        exact ⟨x, b, hp, _, _, v, ρ, hK, by simpa [Instr.loadAt, Instr.sureAddr] using hr, Step.refl H, hR⟩
      · split at hk
        case h_2 => cases hk
        obtain ⟨hfr, hk⟩ := needFr_go hk
        simp only [Eff.go] at hk
        split at hk
        case h_2 => cases hk
        rename_i hub
        have hst := Step.takeOut H hi ht hub hfr hs
        have hbi : b ≠ i := fun e' => by rw [e', hi] at hub; cases hub
        rw [upd_ne _ _ (fun e' => hbi e'.symm), hi] at hk
        simp only [setCur] at hk
        obtain ⟨A, n1, c1, hsl⟩ := ht.sl s (List.mem_of_getElem? hs)
        obtain ⟨x, v, hK, hr, hR⟩ := finLoad_sound (g := g) (o := j * t.sz) (Rs_append (hst.Rs hfl) (show Rs _ _ _ _ [lastCell o b] [u0] from ⟨u0, [], rfl, lastCell_R (by rw [upd_ne _ _ hbi, upd_same]; simp) (by rw [upd_ne _ _ hbi, upd_same]) ⟨A, n1, c1, hsl⟩ (ht.vw j s u0 hfr hs hus), rfl⟩)) hc hk
        exact ⟨x, _, _, _, _, v, _, hK, by simpa [Instr.loadAt, Instr.sureAddr] using hr, hst, hR⟩
    · cases hk
  | _ => exact absurd hk (by simp [loadE, Eff.go])

theorem fieldOff_some {S f o : Nat} (h : fieldOff P S f = some o) : ∃ (fs : Array Field) (fd : Field) (n : Nat), P.underlying S = some (.struct fs) ∧ fs[f]? = some fd ∧ sizeAt P fd.type = some (n + 1) ∧ fd.offset = o := by
  unfold fieldOff at h
  split at h
  · rename_i fs hu
    split at h
    · rename_i fd hf
      split at h
      · rename_i n hn
        exact ⟨fs, fd, n, hu, hf, hn, by simpa using h⟩
      · cases h
    · cases h
  · cases h

theorem run_fieldAt {S f o : Nat} (h : fieldOff P S f = some o) (g p : Nat) : (Instr.fieldAt S (.pointer (some ⟨g, p, none⟩)) f).run P w = .ok (.pointer (some ⟨g, p + o, none⟩)) w := by
  obtain ⟨fs, fd, n, hu, hf, hs, rfl⟩ := fieldOff_some h
  simp [Instr.fieldAt, run_underlying hu, hf, Instr.sureAddr, fieldPlace, run_sizeOf hs, add_at']

theorem fieldAddrE_sound {S f : Nat} {a : AV} {y : Value} (ha : R M w ρ hp a y) (hk : (fieldAddrE P S a f).go b hp rs ws K = some r) :
    ∃ x v, K x b hp rs ws = some r ∧ (Instr.fieldAt S y f).run P w = .ok v w ∧ R M w ρ hp x v := by
  unfold fieldAddrE at hk
  split at hk
  case h_2 => cases hk
  rename_i o ho
  split at hk
  · obtain ⟨hu, g, p, he, rfl⟩ := ha
    exact ⟨_, _, hk, run_fieldAt ho _ _, hu, g, p, he, by rw [Nat.add_assoc]⟩
  · obtain ⟨g, p, cs, rfl, h⟩ := ha
    exact ⟨_, _, hk, run_fieldAt ho _ _, g, p, cs, by rw [Nat.add_assoc], h⟩
  · obtain ⟨hu, g, n, c, he, hj, rfl⟩ := ha
    exact ⟨_, _, hk, run_fieldAt ho _ _, hu, g, n, c, he, hj, by rw [Nat.add_assoc]⟩
  · cases hk

/-- The cells of a value that is told by its cells. -/
theorem cellsOf_sound {a : AV} {y : Value} {cs : List AV} (ha : R M w ρ hp a y) (hc : cellsOf a = some cs) : ∃ vs, y.cells.toList = vs ∧ Rs M w ρ hp cs vs := by
  refine ⟨_, rfl, ?_⟩
  unfold cellsOf at hc
  split at hc
  · cases hc
    rw [show y = _ from ha]
    exact Rs_vals _
  · cases hc
  · cases hc
    obtain ⟨vs, rfl, h⟩ := ha
    simpa [Value.cells] using h
  · cases hc
  · cases hc
  · rename_i h1 h2 h3 h4 h5
    cases hc
    have : y.cells = #[y] := by
      cases a with
      | v x =>
        rw [show y = x from ha]
        cases x with
        | agg cs => exact absurd rfl (h1 cs)
        | _ => rfl
      | bs ng b => rw [show y = _ from ha]; rfl
      | bp ng p d => rw [show y = _ from ha]; rfl
      | ifc n => rcases ha with ⟨_, rfl⟩ | ⟨_, t, x, rfl⟩ <;> rfl
      | con t l => obtain ⟨A, c, rfl, _⟩ := ha; rfl
      | own i =>
        obtain ⟨_, _, A, n, c, rfl⟩ := ha
        rfl
      | box i off => obtain ⟨_, g, o, _, rfl⟩ := ha; rfl
      | elt t x off => obtain ⟨g, o, cs, rfl, _⟩ := ha; rfl
      | oel i sz j off => obtain ⟨_, g, n, c, _, _, rfl⟩ := ha; rfl
      | mp i => obtain ⟨_, _, b', rfl⟩ := ha; rfl
      | sub i lo => obtain ⟨_, g, n, c, c', A, _, _, rfl, _⟩ := ha; rfl
      | fn f n cs => obtain ⟨vs, rfl, _⟩ := ha; rfl
      | agg cs => exact absurd rfl (h3 cs)
      | tup cs => exact absurd rfl (h4 cs)
      | dead => exact absurd rfl h5
    rw [this]
    exact ⟨y, [], rfl, ha, rfl⟩
end
end Go.Proofs.YtbpeiilildchlaaGreatDoor.Abs
namespace Go.Proofs.YtbpeiilildchlaaGreatDoor.Abs
open Go Go.RowKit
set_option linter.unusedVariables false
set_option linter.unusedSectionVars false
set_option linter.unusedSimpArgs false

section
variable {Rt : Type} {P : Program} {M : Nat → Prop} {w : World} {ρ : Nat → Value} {hp : Heap} {b : Nat} {rs ws : List Nat} {K : AV → Nat → Heap → List Nat → List Nat → Option Rt} {r : Rt}

theorem wrp_eq (k : IntKind) (n : Int) : wrp k n = k.wrap n := by
  cases k <;> simp only [wrp]
  case i64 => rw [IntKind.wrap_i64]; unfold wrap64; rfl
  case u8 => rfl

theorem guardE_some {c : Prop} [Decidable c] {e : Eff AV} (hk : (guardE c e).go b hp rs ws K = some r) : ¬ c ∧ e.go b hp rs ws K = some r := by
  unfold guardE at hk
  simp only [Eff.go] at hk
  split at hk
  · rename_i h _; exact ⟨h, hk⟩
  · cases hk

theorem fdiv_pow (x : Int) (n : Nat) : x.fdiv (2 ^ n) = x / 2 ^ n := Int.fdiv_eq_ediv_of_nonneg x (Int.le_of_lt (Int.pow_pos (by decide)))

theorem intOpE_sound {op : BinOp} {k : IntKind} {x y : Int} {T : TypeId} (hs : op ≠ .shl ∧ op ≠ .shr) (hk : (intOpE op k x y).go b hp rs ws K = some r) :
    ∃ z v, K z b hp rs ws = some r ∧ (binOp op T (.int k x) (.int k y)).run P w = .ok v w ∧ R M w ρ hp z v := by
  cases op <;> simp only [intOpE] at hk
  case add => exact ⟨_, _, hk, by simp [binOp, Op.intArith, wrp_eq], rfl⟩
  case sub => exact ⟨_, _, hk, by simp [binOp, Op.intArith, wrp_eq], rfl⟩
  case mul => exact ⟨_, _, hk, by simp [binOp, Op.intArith, wrp_eq], rfl⟩
  case quo =>
    obtain ⟨h0, hk⟩ := guardE_some hk
    exact ⟨_, _, hk, by simp [binOp, Op.intDiv, h0, wrp_eq], rfl⟩
  case rem =>
    obtain ⟨h0, hk⟩ := guardE_some hk
    exact ⟨_, _, hk, by simp [binOp, Op.intDiv, h0], rfl⟩
  case and => exact ⟨_, _, hk, by simp [binOp, Op.intBits, andA], rfl⟩
  case or => exact ⟨_, _, hk, by simp [binOp, Op.intBits, orA], rfl⟩
  case xor => exact ⟨_, _, hk, by simp [binOp, Op.intBits, xorA], rfl⟩
  case andNot => exact ⟨_, _, hk, by simp [binOp, Op.intBits, andNotA], rfl⟩
  case shl => exact absurd rfl hs.1
  case shr => exact absurd rfl hs.2
  case eql => exact ⟨_, .bool (x == y), hk, by simp [binOp, Op.intCmp], by simp only [R, xorB]; rfl⟩
  case neq => exact ⟨_, .bool (x != y), hk, by simp [binOp, Op.intCmp], by simp only [R, xorB]; rfl⟩
  case lss => exact ⟨_, .bool (decide (x < y)), hk, by simp [binOp, Op.intCmp], by simp only [R, xorB]⟩
  case leq => exact ⟨_, .bool (decide (x ≤ y)), hk, by simp [binOp, Op.intCmp], by simp only [R, xorB]⟩
  case gtr => exact ⟨_, .bool (decide (x > y)), hk, by simp [binOp, Op.intCmp], by simp only [R, xorB]⟩
  case geq => exact ⟨_, .bool (decide (x ≥ y)), hk, by simp [binOp, Op.intCmp], by simp only [R, xorB]⟩

theorem strOpE_sound {op : BinOp} {x y : ByteArray} {T : TypeId} (hk : (strOpE op x y).go b hp rs ws K = some r) :
    ∃ z v, K z b hp rs ws = some r ∧ (binOp op T (.string x) (.string y)).run P w = .ok v w ∧ R M w ρ hp z v := by
  cases op <;> simp only [strOpE] at hk <;> try (cases hk; done)
  case add =>
    simp only [Eff.go] at hk
    split at hk
    · rename_i h
      have h' : ¬ ((x.size + y.size : Nat) : Int) > IntKind.i64.max := by simp [IntKind.max, IntKind.signed, IntKind.bits]; omega
      exact ⟨_, _, hk, by simp only [binOp, Op.stringOp, if_neg h', Sem.run_pure], rfl⟩
    · cases hk
  case eql => exact ⟨_, .bool (x.toList == y.toList), hk, by simp [binOp, Op.stringOp], by simp only [R, xorB]; rw [Value.bool.injEq, Bool.eq_iff_iff]; simp⟩
  case neq => exact ⟨_, .bool (!(x.toList == y.toList)), hk, by simp [binOp, Op.stringOp], by simp only [R, xorB]; rw [Value.bool.injEq, Bool.eq_iff_iff]; simp⟩

theorem boolOf_sound {a : AV} {y : Value} {t : Bool} (ha : R M w ρ hp a y) (h : boolOf a = some t) : y = .bool t := by
  unfold boolOf at h
  split at h
  · cases h; exact ha
  · cases h; exact ha
  · cases h; exact ha
  · cases h; exact ha
  · cases h; exact ha
  · cases h

@[simp] theorem run_eqGuard_int {op : BinOp} {T : TypeId} {ox oy : Operand} {k k' : IntKind} {x y : Int} : (eqGuard op T ox oy (.int k x) (.int k' y)).run P w = .ok () w := by
  unfold eqGuard; cases op <;> rfl
@[simp] theorem run_eqGuard_str {op : BinOp} {T : TypeId} {ox oy : Operand} {x y : ByteArray} : (eqGuard op T ox oy (.string x) (.string y)).run P w = .ok () w := by
  unfold eqGuard; cases op <;> rfl
@[simp] theorem run_eqGuard_bool {op : BinOp} {T : TypeId} {ox oy : Operand} {x y : Bool} : (eqGuard op T ox oy (.bool x) (.bool y)).run P w = .ok () w := by
  unfold eqGuard; cases op <;> rfl

theorem eqOne_sound {T : TypeId} {x y : AV} {vx vy : Value} {a : DP} (hx : R M w ρ hp x vx) (hy : R M w ρ hp y vy) (h : eqOne P T x y = some a) :
    (∀ d, (Op.equalIn (d + 1) T vx vy).run P w = .ok (@decide a.p a.d) w) ∧ ∀ (xs : Array Value) off v, xs[off]? = some v → (part T xs off).run P w = .ok v w := by
  unfold eqOne at h
  split at h
  · rename_i k0 hu
    split at h
    case h_2 => cases h
    rename_i k n k' m
    split at h
    case h_2 => cases h
    rename_i hk _
    subst hk
    injection h with h
    subst h
    rw [show vx = _ from hx, show vy = _ from hy]
    refine ⟨fun d => ?_, fun xs off v hv => by simp [part, Go.isAgg, run_underlying hu, hv]⟩
    rw [run_equalIn_int w d T k k0 n m hu]
    congr 1
  · rename_i hu
    split at h
    case h_2 => cases h
    injection h with h
    subst h
    rw [show vx = _ from hx, show vy = _ from hy]
    refine ⟨fun d => ?_, fun xs off v hv => by simp [part, Go.isAgg, run_underlying hu, hv]⟩
    rw [run_equalIn_string w d T _ _ hu]
    congr 1
    exact Bool.eq_iff_iff.2 (by simp)
  · rename_i hu
    split at h
    case h_2 => cases h
    rename_i t u ht hu'
    injection h with h
    subst h
    rw [boolOf_sound hx ht, boolOf_sound hy hu']
    refine ⟨fun d => ?_, fun xs off v hv => by simp [part, Go.isAgg, run_underlying hu, hv]⟩
    rw [run_equalIn_bool' w d T t u hu]
    congr 1
  · cases h

theorem eqFieldsA_sound {xs ys : List AV} {vxs vys : List Value} (hx : Rs M w ρ hp xs vxs) (hy : Rs M w ρ hp ys vys) (d : Nat) : (fs : List Field) → {a : DP} → eqFieldsA P xs ys fs = some a →
    (Op.eqFields (d + 1) vxs.toArray vys.toArray fs).run P w = .ok (@decide a.p a.d) w
  | [], a, h => by cases h
  | f :: fs, a, h => by
    unfold eqFieldsA at h
    split at h
    case h_1 => cases h
    rename_i hn _
    split at h
    case h_2 => cases h
    rename_i x y hgx hgy
    split at h
    case h_2 => cases h
    rename_i a1 h1
    obtain ⟨v, hv, hrv⟩ := Rs_get hx _ _ hgx
    obtain ⟨u, hu, hru⟩ := Rs_get hy _ _ hgy
    obtain ⟨e1, e2⟩ := eqOne_sound hrv hru h1
    have p1 := e2 vxs.toArray f.offset v (by simpa using hv)
    have p2 := e2 vys.toArray f.offset u (by simpa using hu)
    simp only [Op.eqFields, if_pos hn, Sem.run_bind, p1, p2, e1, Result.andThen_ok]
    split at h
    · injection h with h
      subst h
      cases hb : @decide a1.p a1.d <;> simp [Op.eqFields]
    · rename_i f2 fs2
      split at h
      case h_2 => cases h
      rename_i b h2
      injection h with h
      subst h
      have ih := eqFieldsA_sound hx hy d _ h2
      cases hb : @decide a1.p a1.d with
      | false =>
        have hna : ¬ a1.p := @of_decide_eq_false _ a1.d hb
        simp only [Bool.not_false, if_true, Sem.run_pure]
        congr 1
        exact (@decide_eq_false (a1.p ∧ b.p) (@instDecidableAnd _ _ a1.d b.d) (fun h => hna h.1)).symm
      | true =>
        have hya : a1.p := @of_decide_eq_true _ a1.d hb
        simp only [Bool.not_true, Bool.false_eq_true, if_false]
        rw [ih]
        congr 1
        cases hc : @decide b.p b.d with
        | false => exact (@decide_eq_false (a1.p ∧ b.p) (@instDecidableAnd _ _ a1.d b.d) (fun h => @of_decide_eq_false _ b.d hc h.2)).symm
        | true => exact (@decide_eq_true (a1.p ∧ b.p) (@instDecidableAnd _ _ a1.d b.d) ⟨hya, @of_decide_eq_true _ b.d hc⟩).symm

theorem eqAggE_sound {op : BinOp} {T : TypeId} {x y : AV} {vx vy : Value} (hx : R M w ρ hp x vx) (hy : R M w ρ hp y vy) (hk : (eqAggE P op T x y).go b hp rs ws K = some r) :
    ∃ z v, K z b hp rs ws = some r ∧ (∀ ox oy, (do eqGuard op T ox oy vx vy; binOp op T vx vy : Sem Value).run P w = .ok v w) ∧ R M w ρ hp z v := by
  unfold eqAggE at hk
  split at hk
  case h_2 => cases hk
  obtain ⟨vxs, rfl, hxs⟩ := hx
  obtain ⟨vys, rfl, hys⟩ := hy
  split at hk
  case h_2 => cases hk
  rename_i fs hu
  split at hk
  case h_2 => cases hk
  rename_i a h1 h2 h3
  have hf : P.fieldsOf T = fs := by simp [Program.fieldsOf, hu]
  have hq : (Op.equalIn 10000 T (.agg vxs.toArray) (.agg vys.toArray)).run P w = .ok (@decide a.p a.d) w := by
    rw [run_equalIn_agg w 9999 T _ _ (by rw [hf]; exact hu) h1, hf]
    exact eqFieldsA_sound hxs hys 9998 fs.toList h3
  split at hk
  · exact ⟨_, .bool (@decide a.p a.d), hk, fun ox oy => by simp only [Sem.run_bind, run_eqGuard_agg w _ T ox oy _ _ h2, Result.andThen_ok, run_eql_struct, hq], by simp only [R, xorB]⟩
  · exact ⟨_, .bool (!(@decide a.p a.d)), hk, fun ox oy => by simp only [Sem.run_bind, run_eqGuard_agg w _ T ox oy _ _ h2, Result.andThen_ok, run_neq_struct, hq], by simp only [R, xorB]⟩
  · cases hk

theorem binE_sound {op : BinOp} {T : TypeId} {x y : AV} {vx vy : Value} (hx : R M w ρ hp x vx) (hy : R M w ρ hp y vy) (hk : (binE P op T x y).go b hp rs ws K = some r) :
    ∃ z v, K z b hp rs ws = some r ∧ (∀ ox oy, (do eqGuard op T ox oy vx vy; binOp op T vx vy : Sem Value).run P w = .ok v w) ∧ R M w ρ hp z v := by
  unfold binE at hk
  split at hk
  · rw [show vx = _ from hx, show vy = _ from hy]
    obtain ⟨h0, hk⟩ := guardE_some hk
    exact ⟨_, _, hk, fun ox oy => by simp [binOp, Op.shift, shlA, h0], rfl⟩
  · rw [show vx = _ from hx, show vy = _ from hy]
    obtain ⟨h0, hk⟩ := guardE_some hk
    exact ⟨_, _, hk, fun ox oy => by simp [binOp, Op.shift, shrA, h0, fdiv_pow], rfl⟩
  · rename_i op k a k' b' h1 h2
    rw [show vx = _ from hx, show vy = _ from hy]
    split at hk
    case h_2 => cases hk
    rename_i hkk _
    subst hkk
    obtain ⟨z, v, hK, hr, hR⟩ := intOpE_sound (P := P) (M := M) (w := w) (ρ := ρ) (hp := hp) (T := T) ⟨h1, h2⟩ hk
    exact ⟨z, v, hK, fun ox oy => by simp [hr], hR⟩
  · rw [show vx = _ from hx, show vy = _ from hy]
    obtain ⟨z, v, hK, hr, hR⟩ := strOpE_sound (P := P) (M := M) (w := w) (ρ := ρ) (hp := hp) (T := T) hk
    exact ⟨z, v, hK, fun ox oy => by simp [hr], hR⟩
  · split at hk
    case h_2 => exact eqAggE_sound hx hy hk
    rename_i a b' ha hb
    rw [boolOf_sound hx ha, boolOf_sound hy hb]
    split at hk
    case h_2 => cases hk
    rename_i hu
    split at hk
    · exact ⟨_, .bool (a == b'), hk, fun ox oy => by simp [run_eql_bool w T a b' hu], by simp only [R, xorB]; cases a <;> cases b' <;> rfl⟩
    · exact ⟨_, .bool (!(a == b')), hk, fun ox oy => by simp [run_neq_bool w T a b' hu], by simp only [R, xorB]; cases a <;> cases b' <;> rfl⟩
    · cases hk

theorem ifcE_sound {op : BinOp} {T : TypeId} {x : AV} {vx : Value} (hx : R M w ρ hp x vx) (hk : (ifcE P op T x).go b hp rs ws K = some r) :
    ∃ z v, K z b hp rs ws = some r ∧ (∀ ox, (do eqGuard op T ox (.const .nilIface) vx .nilIface; binOp op T vx .nilIface : Sem Value).run P w = .ok v w) ∧ R M w ρ hp z v := by
  unfold ifcE at hk
  split at hk
  case h_2 => cases hk
  rename_i ms n hu
  have hg : ∀ ox, (op matches .eql | .neq) = true → (eqGuard op T ox (.const .nilIface) vx .nilIface).run P w = .ok () w := by
    intro ox _
    rcases hx with ⟨_, rfl⟩ | ⟨_, t, y, rfl⟩ <;> unfold eqGuard <;> cases op <;> simp
  have he : ∀ d : Nat, (Op.equalIn (d + 1) T vx .nilIface).run P w = .ok n w := fun d => by
    rcases hx with ⟨rfl, rfl⟩ | ⟨rfl, t, y, rfl⟩ <;> simp [Op.equalIn, run_underlying hu]
  have hb : ∀ x : Value, x = vx → (binOp .eql T x .nilIface).run P w = .ok (.bool n) w ∧ (binOp .neq T x .nilIface).run P w = .ok (.bool (!n)) w := by
    intro x hxe
    have h9 := he 9999
    rw [← hxe] at h9
    rcases hx with ⟨rfl, rfl⟩ | ⟨rfl, t, y, rfl⟩ <;> subst hxe <;> constructor <;> simp only [binOp, Op.equal, Op.maxDepth, Sem.run_bind, h9, Result.andThen_ok, Sem.run_pure]
  split at hk
  · refine ⟨_, .bool n, hk, fun ox => ?_, by simp only [R, xorB]⟩
    simp only [Sem.run_bind, hg ox rfl, Result.andThen_ok]
    exact (hb _ rfl).1
  · refine ⟨_, .bool (!n), hk, fun ox => ?_, by simp only [R, xorB]⟩
    simp only [Sem.run_bind, hg ox rfl, Result.andThen_ok]
    exact (hb _ rfl).2
  · cases hk

theorem unE_sound {op : UnOp} {x : AV} {vx : Value} (hx : R M w ρ hp x vx) (hk : (unE op x).go b hp rs ws K = some r) :
    ∃ z v, K z b hp rs ws = some r ∧ (Op.unary op vx).run P w = .ok v w ∧ R M w ρ hp z v := by
  unfold unE at hk
  split at hk
  · rw [show vx = _ from hx]; exact ⟨_, _, hk, by simp [Op.unary, Op.intArith, wrp_eq], rfl⟩
  · rw [show vx = _ from hx]; exact ⟨_, _, hk, by simp [Op.unary, Op.intBits, xorA], rfl⟩
  · rw [show vx = _ from hx]; exact ⟨_, _, hk, by simp [Op.unary], rfl⟩
  · rename_i ng t
    rw [show vx = _ from hx]; exact ⟨_, .bool (!xorB ng t), hk, by simp [Op.unary], by cases ng <;> simp [R, xorB]⟩
  · rename_i ng p d
    rw [show vx = _ from hx]; exact ⟨_, .bool (!xorB ng (decide p)), hk, by simp [Op.unary], by cases ng <;> simp [R, xorB]⟩
  · cases hk

theorem indexE_sound {T : TypeId} {x i : AV} {vx vi : Value} (hx : R M w ρ hp x vx) (hi : R M w ρ hp i vi) (hk : (indexE P T x i).go b hp rs ws K = some r) :
    ∃ z v, K z b hp rs ws = some r ∧ (Instr.index T vx vi).run P w = .ok v w ∧ R M w ρ hp z v := by
  unfold indexE at hk
  split at hk
  case h_2 => cases hk
  rename_i s k n hu
  rw [show vx = _ from hx, show vi = _ from hi]
  simp only [Eff.go] at hk
  split at hk
  case isFalse => cases hk
  rename_i h0
  split at hk
  case isFalse => cases hk
  rename_i h1
  have h2 : ∀ (s : ByteArray) (n : Int), 0 ≤ n → n < (s.size : Int) → n.toNat < s.size := fun s n _ _ => by omega
  refine ⟨_, _, hk, by rw [run_index_string _ _ _ _ _ hu, dif_pos ⟨h0, h1⟩], ?_⟩
  simp only [R, byteAt]
  rw [dif_pos (h2 _ _ h0 h1)]

theorem run_indexAt {T e : TypeId} {s : Nat} (hu : P.underlying T = some (.slice e)) (hs : sizeAt P e = some s) {g o n c : Nat} {k : IntKind} {i : Int} (h0 : 0 ≤ i) (h1 : i < (n : Int)) :
    (Instr.indexAt T (.slice (some ⟨g, o, none⟩) n c) (.int k i)).run P w = .ok (.pointer (some ⟨g, o + i.toNat * s, none⟩)) w := by
  simp [Instr.indexAt, asIntOf, run_underlying hu, h0, h1, run_sizeOf hs, add_at']

theorem con_elem {t : Ty} {l : List t.den} {A : Option Addr} (h : RowR M w (t.KR M w) t.sz A l) {j : Nat} (hj : j < l.length) :
    ∃ g o vs, A = some ⟨g, o, none⟩ ∧ ¬ M g ∧ t.KR M w (l.getD j t.zero) vs ∧ ∀ (q : Nat) (u : Value), vs[q]? = some u → w.cell? ⟨g, o + j * t.sz + q, none⟩ = some u := by
  obtain ⟨b, o, cs, hA, hb, hl, hk, hc⟩ := h j l[j] (List.getElem?_eq_getElem hj)
  refine ⟨b, o, cs, hA, hb, by rw [List.getD_eq_getElem?_getD, List.getElem?_eq_getElem hj]; exact hk, fun q u hq => ?_⟩
  rw [Nat.add_assoc]
  exact hc q u hq

theorem indexAddrE_sound {MX : Nat → Prop} (H : HRel MX w ρ hp) {T : TypeId} {x i : AV} {vx vi : Value} (hx : R (Mut MX hp ρ) w ρ hp x vx) (hi : R (Mut MX hp ρ) w ρ hp i vi) (hk : (indexAddrE P T x i).go b hp rs ws K = some r) :
    ∃ z v rs', K z b hp rs' ws = some r ∧ (Instr.indexAt T vx vi).run P w = .ok v w ∧ R (Mut MX hp ρ) w ρ hp z v := by
  unfold indexAddrE at hk
  split at hk
  case h_2 => cases hk
  rename_i e k n hu
  rw [show vi = _ from hi]
  split at hk
  · rename_i s t l hs
    split at hk
    case h_2 => cases hk
    rename_i hsz
    have hsz := Nat.eq_of_beq_eq_true hsz
    subst hsz
    simp only [Eff.go] at hk
    split at hk
    case isFalse => cases hk
    rename_i h0
    split at hk
    case isFalse => cases hk
    rename_i h1
    obtain ⟨A, c, rfl, hle, hr⟩ := hx
    obtain ⟨g, o, vs, rfl, hg, hkr, hc⟩ := con_elem hr (j := n.toNat) (by omega)
    exact ⟨_, _, _, hk, run_indexAt hu hs h0 h1, g, o + n.toNat * t.sz, vs, rfl, hg, hkr, hc⟩
  · rename_i s q hs
    simp only [Eff.go] at hk
    obtain ⟨hne, rfl, A, m, c, hv⟩ := hx
    have hok := H.ok q
    split at hk
    · rename_i e' t l hq
      rw [hq] at hok
      obtain ⟨xs, h1, h2⟩ := hok
      split at hk
      case h_2 => cases hk
      rename_i hsz
      have hsz := Nat.eq_of_beq_eq_true hsz
      subst hsz
      simp only [Eff.go] at hk
      split at hk
      case isFalse => cases hk
      rename_i h0
      split at hk
      case isFalse => cases hk
      rename_i hlt
      rcases h1.2 with ⟨h3, h4⟩ | ⟨g, cap, cur, h3, _⟩
      · omega
      · rw [h3]
        exact ⟨_, _, _, hk, run_indexAt hu hs h0 hlt, hne, g, l.length, cap, (by rw [h3]; rfl), by omega, by rw [Nat.zero_add, Nat.add_zero]⟩
    · rename_i t l hq
      rw [hq] at hok
      obtain ⟨A', c', h1, hle, hr⟩ := hok
      split at hk
      case h_2 => cases hk
      rename_i hsz
      have hsz := Nat.eq_of_beq_eq_true hsz
      subst hsz
      simp only [Eff.go] at hk
      split at hk
      case isFalse => cases hk
      rename_i h0
      split at hk
      case isFalse => cases hk
      rename_i hlt
      rw [h1]
      obtain ⟨g, o, vs, rfl, hg, hkr, hc⟩ := con_elem hr (j := n.toNat) (by omega)
      exact ⟨_, _, _, hk, run_indexAt hu hs h0 hlt, g, o + n.toNat * t.sz, vs, rfl, hg, hkr, hc⟩
    · rename_i l hq
      rw [hq] at hok
      obtain ⟨g', c', h1, h2, h3⟩ := hok
      split at hk
      case h_2 => cases hk
      rename_i hsz
      have hsz := Nat.eq_of_beq_eq_true hsz
      subst hsz
      simp only [Eff.go] at hk
      split at hk
      case isFalse => cases hk
      rename_i h0
      split at hk
      case isFalse => cases hk
      rename_i hlt
      rw [h1]
      exact ⟨_, _, _, hk, run_indexAt hu hs h0 hlt, hne, g', l.length, c', (by rw [h1]; rfl), by omega, by rw [Nat.zero_add, Nat.add_zero]⟩
    · rename_i o fr e' be t l cur hq
      rw [hq] at hok
      obtain ⟨v0, ss, us, xs, ht⟩ := hok
      split at hk
      case h_2 => cases hk
      rename_i hsz
      have hsz := Nat.eq_of_beq_eq_true hsz
      subst hsz
      simp only [Eff.go] at hk
      split at hk
      case isFalse => cases hk
      rename_i h0
      split at hk
      case isFalse => cases hk
      rename_i hlt
      have hh : hd (ρ q) = v0 := ht.hd_
      rw [hh]
      rcases ht.own.2 with ⟨h3, h4⟩ | ⟨g, cap, cur', h3, _⟩
      · omega
      · rw [h3]
        exact ⟨_, _, _, hk, run_indexAt hu hs h0 hlt, hne, g, l.length, cap, (by rw [hh, h3]), by omega, by rw [Nat.zero_add, Nat.add_zero]⟩
    · cases hk
  · rename_i s q lo hs
    obtain ⟨hne, g0, n0, c0, c1, A0, hv, hlo, rfl, hA, hc1⟩ := hx
    have hok := H.ok q
    simp only [Eff.go] at hk
    split at hk
    case h_2 => cases hk
    rename_i e' t l hq
    rw [hq] at hok
    obtain ⟨xs, h1, h2⟩ := hok
    split at hk
    case h_2 => cases hk
    rename_i hsz h1z
    have hsz := Nat.eq_of_beq_eq_true hsz
    have h1z := Nat.eq_of_beq_eq_true h1z
    subst hsz
    simp only [Eff.go] at hk
    split at hk
    case isFalse => cases hk
    rename_i h0
    split at hk
    case isFalse => cases hk
    rename_i hlt
    have hn0 : n0 = l.length := by
      rcases h1.2 with ⟨h3, h4⟩ | ⟨g, cap, cur, h3, _⟩
      · rw [hv] at h3; cases h3
      · rw [hv] at h3
        injection h3
    subst hn0
    have hA := hA (by omega)
    subst hA
    exact ⟨_, _, _, hk, run_indexAt hu hs h0 hlt, hne, g0, l.length, c0, (by rw [hv]; rfl), by omega, by rw [h1z, Nat.mul_one, Nat.mul_one, Nat.add_zero]⟩
  · cases hk

theorem run_len_sl (w : World) {T e : TypeId} {ty : TypeId} (hu : P.underlying T = some (.slice e)) (a : Option Addr) (n c : Nat) : (Builtin.len_ #[T] ty #[.slice a n c]).run P w = .ok (goInt n) w := by
  simp [Builtin.len_, run_underlying hu]
theorem run_len_str (w : World) {T ty : TypeId} (hu : P.underlying T = some .string) (s : ByteArray) : (Builtin.len_ #[T] ty #[.string s]).run P w = .ok (goInt s.size) w := by
  simp [Builtin.len_, run_underlying hu]
end
end Go.Proofs.YtbpeiilildchlaaGreatDoor.Abs
