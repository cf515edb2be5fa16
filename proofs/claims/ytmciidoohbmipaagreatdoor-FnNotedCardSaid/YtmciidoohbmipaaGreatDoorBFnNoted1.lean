/- The abstract machine: values without addresses, effects, an interpreter of the program's own code. Definitions alone. (Merged out of this claim's own texts.) -/
import Derived.Below
import Derived.Orders
import Derived.Laws.AppendOwn
import Derived.Laws.OwnMore
import Derived.KernelRfl
import Derived.Still
import Derived.Maps.OwnOps
import Derived.WalkKit
import Derived.Lib.ConvBytes
import Derived.Laws.StructEq
import Derived.IntWalk
import Derived.WalkLawsBesides
import Derived.Laws.MakeOwn
import Derived.Maps.AppendAt
import Derived.Laws.AppendOwnNone
import Derived.Laws.BytesString
import Derived.Lib.FrozenHead
namespace Go.Proofs.YtmciidoohbmipaaGreatDoor.Abs
open Go Go.RowKit
set_option linter.unusedVariables false
set_option linter.unusedSectionVars false
set_option linter.unusedSimpArgs false

inductive Ty where
  | int (k : IntKind)
  | bool
  | str
  | sl (t : Ty)
  | pair (a b : Ty)
  deriving DecidableEq

def Ty.den : Ty → Type
  | .int _ => Int
  | .bool => Bool
  | .str => ByteArray
  | .sl t => List t.den
  | .pair a b => a.den × b.den

def Ty.zero : (t : Ty) → t.den
  | .int _ => (0 : Int)
  | .bool => false
  | .str => (⟨#[]⟩ : ByteArray)
  | .sl _ => []
  | .pair a b => (a.zero, b.zero)

def Ty.sz : Ty → Nat
  | .pair a b => a.sz + b.sz
  | _ => 1

/-- Abstract values. -/
inductive AV where
  | v (x : Value)
  | con (t : Ty) (l : List t.den)
  | own (i : Nat)
  | box (i off : Nat)
  | elt (t : Ty) (x : t.den) (off : Nat)
  | oel (i sz j off : Nat)
  | mp (i : Nat)
  | sub (i lo : Nat)
  | fn (f : FuncId) (n : Nat) (cs : List AV)
  | agg (cs : List AV)
  | tup (cs : List AV)
  | bs (ng b : Bool)
  | bp (ng : Bool) (p : Prop) (d : Decidable p)
  | dead

/-- Entries of the abstract heap. -/
inductive HE where
  | unused
  | gone
  | box (cs : List AV)
  | row (e : TypeId) (t : Ty) (l : List t.den)
  | frz (t : Ty) (l : List t.den)
  | mp (t : Ty) (f : Int → Option t.den)
  | bts (l : List Int)
  | bld (T : TypeId) (c : AV)

def Ty.cells : (t : Ty) → t.den → List AV
  | .int k, x => [.v (.int k x)]
  | .bool, x => [.bs false x]
  | .str, x => [.v (.string x)]
  | .sl t, x => [.con t x]
  | .pair a b, x => a.cells x.1 ++ b.cells x.2

/-- What cells say at a type. -/
def Ty.dec : (t : Ty) → List AV → Option t.den
  | .int k, cs => match cs with
    | [.v (.int k' x)] => match decEq k' k with | isTrue _ => some x | isFalse _ => none
    | _ => none
  | .bool, cs => match cs with
    | [.v (.bool b)] => some b
    | [.bs false b] => some b
    | [.bs true b] => some (!b)
    | [.bp false p d] => some (@decide p d)
    | [.bp true p d] => some (!@decide p d)
    | _ => none
  | .str, cs => match cs with
    | [.v (.string s)] => some s
    | _ => none
  | .sl t, cs => match cs with
    | [.con t' l] => match decEq t' t with | isTrue h => some (h ▸ l) | isFalse _ => none
    | [.v (.slice none 0 0)] => some []
    | _ => none
  | .pair a b, cs => match a.dec (cs.take a.sz) with
    | some x => match b.dec (cs.drop a.sz) with
      | some y => some (x, y)
      | none => none
    | none => none

/-- What an operation does, step by step. -/
inductive Eff (α : Type) : Type 1 where
  | ret (a : α)
  | fail
  | rd (i : Nat) (k : HE → Eff α)
  | wr (i : Nat) (h : HE) (k : Eff α)
  | nw (h : HE) (k : Nat → Eff α)
  | br (c : Prop) (d : Decidable c) (t e : Eff α)
  | gd (c : Prop) (d : Decidable c) (e : Eff α)
  | opt (X : Type) (o : Option X) (k : X → Eff α)

namespace Eff
def bind {α β : Type} : Eff α → (α → Eff β) → Eff β
  | .ret a, f => f a
  | .fail, _ => .fail
  | .rd i k, f => .rd i fun h => (k h).bind f
  | .wr i h k, f => .wr i h (k.bind f)
  | .nw h k, f => .nw h fun i => (k i).bind f
  | .br c d t e, f => .br c d (t.bind f) (e.bind f)
  | .gd c d e, f => .gd c d (e.bind f)
  | .opt X o k, f => .opt X o fun x => (k x).bind f
end Eff

def upd {β : Type} (f : Nat → β) (i : Nat) (x : β) : Nat → β := fun j => match Nat.beq j i with
  | true => x
  | false => f j

abbrev Heap := Nat → HE

/-- Carries it out: base: the next number for a new entry; what was read and written is told. -/
def Eff.go {α R : Type} : Eff α → Nat → Heap → List Nat → List Nat → (α → Nat → Heap → List Nat → List Nat → Option R) → Option R
  | .ret a, b, hp, rs, ws, K => K a b hp rs ws
  | .fail, _, _, _, _, _ => none
  | .rd i k, b, hp, rs, ws, K => (k (hp i)).go b hp (i :: rs) ws K
  | .wr i h k, b, hp, rs, ws, K => k.go b (upd hp i h) rs (i :: ws) K
  | .nw h k, b, hp, rs, ws, K => match hp b with
    | .unused => (k b).go (b + 1) (upd hp b h) rs (b :: ws) K
    | _ => none
  | .br c d t e, b, hp, rs, ws, K => @ite _ c d (t.go b hp rs ws K) (e.go b hp rs ws K)
  | .gd _ d e, b, hp, rs, ws, K => match d with
    | isFalse _ => e.go b hp rs ws K
    | isTrue _ => none
  | .opt _ o k, b, hp, rs, ws, K => o.bind fun x => (k x).go b hp rs ws K

/-! ### Types of the program -/
def isAgg (P : Program) (t : TypeId) : Option Bool :=
  match P.underlying t with
  | some (.struct _) => some true
  | some (.array _ _) => some true
  | some _ => some false
  | none => none

def sizeAt (P : Program) (t : TypeId) : Option Nat := (P.info? t).map (·.size)

def mkPair : List Ty → Option Ty
  | [] => none
  | [t] => some t
  | t :: ts => match mkPair ts with
    | some r => some (.pair t r)
    | none => none

def tyOf (P : Program) : Nat → TypeId → Option Ty
  | 0, _ => none
  | n + 1, T => match P.underlying T with
    | some (.int k) => some (.int k)
    | some .bool => some .bool
    | some .string => some .str
    | some (.slice e) => match tyOf P n e with
      | some t => some (.sl t)
      | none => none
    | some (.struct fs) => match fs.toList.mapM fun f => tyOf P n f.type with
      | some ts => mkPair ts
      | none => none
    | _ => none

/-! ### Operations -/
def ev (tm : Nat → AV) : Operand → AV
  | .tmp t => tm t
  | .const x => .v x
  | .global g => .v (.pointer (some ⟨g, 0, none⟩))
  | .func f => .fn f 0 []

def isCell : AV → Bool
  | .v (.agg _) => false
  | .v (.tuple _) => false
  | .agg _ => false
  | .tup _ => false
  | .dead => false
  | _ => true

/-- The cells of a value. -/
def cellsOf : AV → Option (List AV)
  | .v (.agg cs) => some (cs.toList.map .v)
  | .v (.tuple _) => none
  | .agg cs => some cs
  | .tup _ => none
  | .dead => none
  | a => some [a]

/-- A value out of cells. -/
def shut (agg : Option Bool) (cs : List AV) : Eff AV :=
  match agg with
  | some true => .ret (.agg cs)
  | some false => match cs with
    | [c] => .ret c
    | _ => .fail
  | none => .fail

def finLoad (P : Program) (T : TypeId) (cs : List AV) (off : Nat) : Eff AV :=
  match sizeAt P T with
  | none => .fail
  | some n => match Nat.ble (off + n) cs.length with
    | true => shut (isAgg P T) ((cs.drop off).take n)
    | false => .fail

def loadE (P : Program) (T : TypeId) : AV → Eff AV
  | .box i off => .rd i fun
    | .box cs => finLoad P T cs off
    | _ => .fail
  | .elt t x off => finLoad P T (t.cells x) off
  | .oel i sz j off => .rd i fun
    | .row _ t l => match Nat.beq sz t.sz with
      | true => finLoad P T (t.cells (l.getD j t.zero)) off
      | false => .fail
    | .frz t l => match Nat.beq sz t.sz with
      | true => finLoad P T (t.cells (l.getD j t.zero)) off
      | false => .fail
    | .bts l => match Nat.beq sz 1 with
      | true => finLoad P T [.v (.int .u8 (l.getD j 0))] off
      | false => .fail
    | _ => .fail
  | _ => .fail

/-- Rows that cells lead to are written no more. -/
def settle : List AV → Eff (List AV)
  | [] => .ret []
  | .own i :: cs => .rd i fun
    | .row _ t l => .wr i (.frz t l) ((settle cs).bind fun r => .ret (.con t l :: r))
    | .frz t l => (settle cs).bind fun r => .ret (.con t l :: r)
    | _ => .fail
  | c :: cs => (settle cs).bind fun r => .ret (c :: r)

def splice (cs : List AV) (off : Nat) (vs : List AV) : List AV := cs.take off ++ vs ++ cs.drop (off + vs.length)

def storeE (P : Program) (T : TypeId) (a x : AV) : Eff AV :=
  match cellsOf x with
  | none => .fail
  | some vs => match vs.all isCell, sizeAt P T with
    | true, some (n + 1) => match Nat.beq vs.length (n + 1) with
      | true => match a with
        | .box i off => .rd i fun
          | .box cs => match Nat.ble (off + (n + 1)) cs.length with
            | true => .wr i (.box (splice cs off vs)) (.ret (.v undef))
            | false => .fail
          | _ => .fail
        | .oel i sz j off => (settle vs).bind fun vs => .rd i fun
          | .row e t l => match Nat.beq sz t.sz, Nat.ble (off + vs.length) t.sz, t.dec (splice (t.cells (l.getD j t.zero)) off vs) with
            | true, true, some y => .wr i (.row e t (l.set j y)) (.ret (.v undef))
            | _, _, _ => .fail
          | .bts l => match Nat.beq sz 1, Nat.beq off 0, vs with
            | true, true, [.v (.int .u8 y)] => .wr i (.bts (l.set j y)) (.ret (.v undef))
            | _, _, _ => .fail
          | _ => .fail
        | _ => .fail
      | false => .fail
    | _, _ => .fail

def zeroCellsAt (P : Program) (T : TypeId) : Option (List AV) :=
  match (P.info? T).bind (·.zero) with
  | some z => cellsOf (.v z)
  | none => none

/-- A variable whose first cell is a pointer to itself, or none. -/
def isBld (P : Program) (T : TypeId) : Bool :=
  match P.underlying T with
  | some (.struct fs) => match fs.toList with
    | [a, _] => match P.underlying a.type with
      | some (.pointer T') => Nat.beq T' T
      | _ => false
    | _ => false
  | _ => false

def allocE (P : Program) (T : TypeId) : Eff AV :=
  match zeroCellsAt P T with
  | some cs => match isBld P T, cs with
    | true, [.v (.pointer none), c] => .nw (.bld T c) fun i => .ret (.box i 0)
    | true, _ => .fail
    | false, _ => .nw (.box cs) fun i => .ret (.box i 0)
  | none => .fail

def boxE (x : AV) : Eff AV :=
  match cellsOf x with
  | some cs => match cs.all isCell with
    | true => .nw (.box cs) fun i => .ret (.box i 0)
    | false => .fail
  | none => .fail

/-- Parts laid into cells. -/
def fillA (place : Nat → Option (Nat × Nat)) : List AV → List (Nat × AV) → Option (List AV)
  | cs, [] => some cs
  | cs, (i, x) :: r => match place i, cellsOf x with
    | some (off, n), some vs => match Nat.beq vs.length n, Nat.ble (off + n) cs.length with
      | true, true => fillA place (splice cs off vs) r
      | _, _ => none
    | _, _ => none

def placesOf (P : Program) (fs : Array Field) : Option (List (Nat × Nat)) := fs.toList.mapM fun f => (P.info? f.type).map fun i => (f.offset, i.size)

def buildE (P : Program) (T : TypeId) (parts : List (Nat × AV)) : Eff AV :=
  match P.underlying T, zeroCellsAt P T with
  | some (.struct fs), some z => match placesOf P fs with
    | some pl => match fillA (fun i => pl[i]?) z parts with
      | some cs => .ret (.agg cs)
      | none => .fail
    | none => .fail
  | _, _ => .fail

def decL (t : Ty) : Nat → List AV → Option (List t.den)
  | 0, cs => match cs with
    | [] => some []
    | _ :: _ => none
  | n + 1, cs => match t.dec (cs.take t.sz), decL t n (cs.drop t.sz) with
    | some x, some r => some (x :: r)
    | _, _ => none

def repl : Nat → List AV → List AV
  | 0, _ => []
  | n + 1, z => repl n z ++ z

def buildSliceE (P : Program) (T : TypeId) (n : Nat) (parts : List (Nat × AV)) : Eff AV :=
  match P.underlying T with
  | some (.slice e) => match tyOf P 9 e, sizeAt P e, zeroCellsAt P e with
    | some t, some s, some z => match Nat.beq s t.sz, Nat.beq z.length s, Nat.ble (n * s) 16777216, Nat.ble 1 s with
      | true, true, true, true => match fillA (fun i => some (i * s, s)) (repl n z) parts with
        | some cs => (settle cs).bind fun cs => match decL t n cs with
          | some l => .nw (.row e t l) fun i => .ret (.own i)
          | none => .fail
        | none => .fail
      | _, _, _, _ => .fail
    | _, _, _ => .fail
  | _ => .fail

def fieldOff (P : Program) (S : TypeId) (f : Nat) : Option Nat :=
  match P.underlying S with
  | some (.struct fs) => match fs[f]? with
    | some f => match sizeAt P f.type with
      | some (_ + 1) => some f.offset
      | _ => none
    | none => none
  | _ => none

def fieldAddrE (P : Program) (S : TypeId) (a : AV) (f : Nat) : Eff AV :=
  match fieldOff P S f with
  | some o => match a with
    | .box i off => .ret (.box i (off + o))
    | .elt t x off => .ret (.elt t x (off + o))
    | .oel i sz j off => .ret (.oel i sz j (off + o))
    | _ => .fail
  | none => .fail

def fieldE (P : Program) (S : TypeId) (a : AV) (f : Nat) : Eff AV :=
  match P.underlying S with
  | some (.struct fs) => match fs[f]? with
    | some f => match cellsOf a, a with
      | some cs, .agg _ => finLoad P f.type cs f.offset
      | some cs, .v (.agg _) => finLoad P f.type cs f.offset
      | _, _ => .fail
    | none => .fail
  | _ => .fail

/-- A byte of a string. -/
def byteAt (s : ByteArray) (i : Int) : Int := if h : i.toNat < s.size then ((s[i.toNat]'h).toNat : Int) else 0

def indexE (P : Program) (T : TypeId) (x i : AV) : Eff AV :=
  match P.underlying T, x, i with
  | some .string, .v (.string s), .v (.int _ n) => .br (0 ≤ n) inferInstance (.br (n < (s.size : Int)) inferInstance (.ret (.v (.int .u8 (byteAt s n)))) .fail) .fail
  | _, _, _ => .fail

def indexAddrE (P : Program) (T : TypeId) (x i : AV) : Eff AV :=
  match P.underlying T, i with
  | some (.slice e), .v (.int _ n) => match sizeAt P e, x with
    | some s, .con t l => match Nat.beq s t.sz with
      | true => .br (0 ≤ n) inferInstance (.br (n < (l.length : Int)) inferInstance (.ret (.elt t (l.getD n.toNat t.zero) 0)) .fail) .fail
      | false => .fail
    | some s, .own r => .rd r fun
      | .row _ t l => match Nat.beq s t.sz with
        | true => .br (0 ≤ n) inferInstance (.br (n < (l.length : Int)) inferInstance (.ret (.oel r t.sz n.toNat 0)) .fail) .fail
        | false => .fail
      | .frz t l => match Nat.beq s t.sz with
        | true => .br (0 ≤ n) inferInstance (.br (n < (l.length : Int)) inferInstance (.ret (.elt t (l.getD n.toNat t.zero) 0)) .fail) .fail
        | false => .fail
      | .bts l => match Nat.beq s 1 with
        | true => .br (0 ≤ n) inferInstance (.br (n < (l.length : Int)) inferInstance (.ret (.oel r 1 n.toNat 0)) .fail) .fail
        | false => .fail
      | _ => .fail
    | _, _ => .fail
  | _, _ => .fail

/-- Wraparound, in the words that proofs use. -/
def wrp : IntKind → Int → Int
  | .i64, n => wrap64 n
  | .u8, n => n % 256
  | k, n => k.wrap n

def shlA (k : IntKind) (x y : Int) : Int := k.wrap (x * 2 ^ min y.toNat k.bits)
def shrA (k : IntKind) (x y : Int) : Int := x / 2 ^ min y.toNat k.bits
def andA (k : IntKind) (x y : Int) : Int := k.wrap (BitVec.ofInt k.bits x &&& BitVec.ofInt k.bits y).toNat
def orA (k : IntKind) (x y : Int) : Int := k.wrap (BitVec.ofInt k.bits x ||| BitVec.ofInt k.bits y).toNat
def xorA (k : IntKind) (x y : Int) : Int := k.wrap (BitVec.ofInt k.bits x ^^^ BitVec.ofInt k.bits y).toNat
def andNotA (k : IntKind) (x y : Int) : Int := k.wrap (BitVec.ofInt k.bits x &&& ~~~ BitVec.ofInt k.bits y).toNat

/-- 'no' where a condition holds that is mostly closed. -/
def guardE (c : Prop) [Decidable c] (e : Eff AV) : Eff AV := .gd c inferInstance e

def intOpE (op : BinOp) (k : IntKind) (a b : Int) : Eff AV :=
  match op with
  | .add => .ret (.v (.int k (wrp k (a + b))))
  | .sub => .ret (.v (.int k (wrp k (a - b))))
  | .mul => .ret (.v (.int k (wrp k (a * b))))
  | .quo => guardE (b = 0) (.ret (.v (.int k (wrp k (a.tdiv b)))))
  | .rem => guardE (b = 0) (.ret (.v (.int k (a.tmod b))))
  | .and => .ret (.v (.int k (andA k a b)))
  | .or => .ret (.v (.int k (orA k a b)))
  | .xor => .ret (.v (.int k (xorA k a b)))
  | .andNot => .ret (.v (.int k (andNotA k a b)))
  | .eql => .ret (.bp false (a = b) inferInstance)
  | .neq => .ret (.bp true (a = b) inferInstance)
  | .lss => .ret (.bp false (a < b) inferInstance)
  | .leq => .ret (.bp false (a ≤ b) inferInstance)
  | .gtr => .ret (.bp false (a > b) inferInstance)
  | .geq => .ret (.bp false (a ≥ b) inferInstance)
  | _ => .fail

def strOpE (op : BinOp) (a b : ByteArray) : Eff AV :=
  match op with
  | .add => .br (a.size + b.size ≤ 9223372036854775807) inferInstance (.ret (.v (.string (a ++ b)))) .fail
  | .eql => .ret (.bp false (a.toList = b.toList) inferInstance)
  | .neq => .ret (.bp true (a.toList = b.toList) inferInstance)
  | _ => .fail

/-- A bool as Lean has it. -/
def boolOf : AV → Option Bool
  | .v (.bool b) => some b
  | .bs false b => some b
  | .bs true b => some (!b)
  | .bp false p d => some (@decide p d)
  | .bp true p d => some (!@decide p d)
  | _ => none

/-- A question that can be decided. -/
structure DP where
  p : Prop
  d : Decidable p

def eqOne (P : Program) (T : TypeId) (x y : AV) : Option DP :=
  match P.underlying T with
  | some (.int _) => match x, y with
    | .v (.int k a), .v (.int k' b) => match decEq k k' with
      | isTrue _ => some ⟨a = b, inferInstance⟩
      | isFalse _ => none
    | _, _ => none
  | some .string => match x, y with
    | .v (.string a), .v (.string b) => some ⟨a.toList = b.toList, inferInstance⟩
    | _, _ => none
  | some .bool => match boolOf x, boolOf y with
    | some a, some b => some ⟨a = b, inferInstance⟩
    | _, _ => none
  | _ => none

/-- Are the fields the same, one behind the other? -/
def eqFieldsA (P : Program) (xs ys : List AV) : List Field → Option DP
  | [] => none
  | f :: fs => match decEq f.name "_" with
    | isTrue _ => none
    | isFalse _ => match xs[f.offset]?, ys[f.offset]? with
      | some x, some y => match eqOne P f.type x y with
        | some a => match fs with
          | [] => some a
          | _ :: _ => match eqFieldsA P xs ys fs with
            | some b => some ⟨a.p ∧ b.p, @instDecidableAnd a.p b.p a.d b.d⟩
            | none => none
        | none => none
      | _, _ => none

def eqAggE (P : Program) (op : BinOp) (T : TypeId) (x y : AV) : Eff AV :=
  match x, y with
  | .agg xs, .agg ys => match P.underlying T with
    | some (.struct fs) => match P.stoodInHeld T, P.eqGuardType P.depth T, eqFieldsA P xs ys fs.toList with
      | false, false, some a => match op with
        | .eql => .ret (.bp false a.p a.d)
        | .neq => .ret (.bp true a.p a.d)
        | _ => .fail
      | _, _, _ => .fail
    | _ => .fail
  | _, _ => .fail

def binE (P : Program) (op : BinOp) (T : TypeId) (x y : AV) : Eff AV :=
  match op, x, y with
  | .shl, .v (.int k a), .v (.int _ b) => guardE (b < 0) (.ret (.v (.int k (shlA k a b))))
  | .shr, .v (.int k a), .v (.int _ b) => guardE (b < 0) (.ret (.v (.int k (shrA k a b))))
  | op, .v (.int k a), .v (.int k' b) => match decEq k k' with
    | isTrue _ => intOpE op k a b
    | isFalse _ => .fail
  | op, .v (.string a), .v (.string b) => strOpE op a b
  | op, x, y => match boolOf x, boolOf y with
    | some a, some b => match P.underlying T with
      | some .bool => match op with
        | .eql => .ret (.bp false (a = b) inferInstance)
        | .neq => .ret (.bp true (a = b) inferInstance)
        | _ => .fail
      | _ => .fail
    | _, _ => eqAggE P op T x y

def unE (op : UnOp) (x : AV) : Eff AV :=
  match op, x with
  | .neg, .v (.int k n) => .ret (.v (.int k (wrp k (0 - n))))
  | .xor, .v (.int k n) => .ret (.v (.int k (xorA k (if k.signed then -1 else k.max) n)))
  | .not, .v (.bool b) => .ret (.v (.bool (!b)))
  | .not, .bs ng b => .ret (.bs (!ng) b)
  | .not, .bp ng p d => .ret (.bp (!ng) p d)
  | _, _ => .fail

/-- The bytes of a row of numbers. -/
def strOf (l : List Int) : ByteArray := ⟨(l.map fun n => UInt8.ofNat n.toNat).toArray⟩
def numsOf (s : ByteArray) : List Int := s.data.toList.map fun b => (b.toNat : Int)

def convE (P : Program) (S T : TypeId) (x : AV) : Eff AV :=
  match P.underlying S, P.underlying T, x with
  | some (.int _), some (.int k), .v (.int _ n) => .ret (.v (.int k (wrp k n)))
  | some .string, some .string, .v (.string s) => .ret (.v (.string s))
  | some (.slice e), some .string, x => match P.underlying e, x with
    | some (.int .u8), .con (.int .u8) l => .ret (.v (.string (strOf l)))
    | some (.int .u8), .v (.slice none 0 0) => .ret (.v (.string (strOf [])))
    | some (.int .u8), .own i => .rd i fun
      | .row _ (.int .u8) l => .ret (.v (.string (strOf l)))
      | .frz (.int .u8) l => .ret (.v (.string (strOf l)))
      | .bts l => .ret (.v (.string (strOf l)))
      | _ => .fail
    | _, _ => .fail
  | _, _, _ => .fail

/-- []byte(s). -/
def isBytesConv (P : Program) (S T : TypeId) : Bool :=
  match P.underlying S, P.underlying T with
  | some .string, some (.slice e) => match P.underlying e with
    | some (.int .u8) => true
    | _ => false
  | _, _ => false

def bytesE (x : AV) : Eff AV :=
  match x with
  | .v (.string s) => .nw (.bts (numsOf s)) fun i => .ret (.own i)
  | _ => .fail

def conv2E (P : Program) (S T : TypeId) (x : AV) : Eff AV :=
  match isBytesConv P S T with
  | true => bytesE x
  | false => convE P S T x

/-! ### Maps whose keys are int64 -/
def Ty.val1 : (t : Ty) → Value → Option t.den
  | .int k, .int k' n => match decEq k' k with
    | isTrue _ => some n
    | isFalse _ => none
  | .bool, .bool b => some b
  | .str, .string s => some s
  | _, _ => none

def Ty.enc1 : (t : Ty) → t.den → Value
  | .int k, x => .int k x
  | .bool, x => .bool x
  | .str, x => .string x
  | _, _ => undef

structure MapTy where
  V : TypeId
  t : Ty
  z : t.den

/-- The value type of a map, with its zero. -/
def mapTy (P : Program) (T : TypeId) : Option MapTy :=
  match P.underlying T with
  | some (.map K V) => match P.underlying K, tyOf P 9 V, (P.info? V).bind (·.zero) with
    | some (.int .i64), some t, some z => match t.val1 z with
      | some z => some ⟨V, t, z⟩
      | none => none
    | _, _, _ => none
  | _ => none

def mput {α : Type} (f : Int → Option α) (n : Int) (v : α) : Int → Option α := fun m => if m = n then some v else f m

def makeMapE (P : Program) (T : TypeId) : Eff AV :=
  match mapTy P T with
  | some m => .nw (.mp m.t fun _ => none) fun i => .ret (.mp i)
  | none => .fail

def mapPutE (P : Program) (T : TypeId) (m k x : AV) : Eff AV :=
  match mapTy P T, m, k, cellsOf x with
  | some mt, .mp i, .v (.int .i64 n), some cs => .rd i fun
    | .mp t f => match decEq t mt.t, cs.all isCell, t.dec cs with
      | isTrue _, true, some v => match x with
        | .v (.agg _) => .fail
        | .agg _ => .fail
        | _ => .wr i (.mp t (mput f n v)) (.ret (.v undef))
      | _, _, _ => .fail
    | _ => .fail
  | _, _, _, _ => .fail

def lookupE (P : Program) (T : TypeId) (m k : AV) : Eff AV :=
  match mapTy P T, m, k with
  | some mt, .mp i, .v (.int .i64 n) => .rd i fun
    | .mp t f => match decEq mt.t t with
      | isTrue h => match t.cells ((f n).getD (h ▸ mt.z)) with
        | [c] => .ret c
        | _ => .fail
      | isFalse _ => .fail
    | _ => .fail
  | _, _, _ => .fail

def sameTmp : Operand → Operand → Bool
  | .tmp a, .tmp b => Nat.beq a b
  | .const (.int _ a), .const (.int _ b) => decide (a = b)
  | _, _ => false

def makeSliceE (P : Program) (T : TypeId) (n : AV) : Eff AV :=
  match P.underlying T, n with
  | some (.slice e), .v (.int .i64 n) => match tyOf P 9 e, sizeAt P e, zeroCellsAt P e, (P.info? e).map (·.bytes) with
    | some t, some s, some z, some by_ => match Nat.beq s t.sz, Nat.ble 1 s, Nat.ble 1 by_, Nat.beq z.length s, t.dec z with
      | true, true, true, true, some z => .br (0 ≤ n) inferInstance (.br (n.toNat ≤ 281474976710656 / by_) inferInstance
          (.nw (.row e t (List.replicate n.toNat z)) fun i => .ret (.own i)) .fail) .fail
      | _, _, _, _, _ => .fail
    | _, _, _, _ => .fail
  | _, _ => .fail

/-- A bound of a slice expression, or what stands for it. -/
def boundOf (d : Int) : Option AV → Option Int
  | none => some d
  | some (.v (.int _ n)) => some n
  | _ => none

def cutLo (lo : Option AV) (l h : Int) (e : Eff AV) : Eff AV :=
  match lo with
  | none => e
  | some _ => .br (0 ≤ l) inferInstance (.br (l ≤ h) inferInstance e .fail) .fail

def cutHi (hi : Option AV) (h n : Int) (e : Eff AV) : Eff AV :=
  match hi with
  | none => e
  | some _ => .br (0 ≤ h) inferInstance (.br (h ≤ n) inferInstance e .fail) .fail

def cutE (lo hi : Option AV) (n : Int) (k : Int → Int → Eff AV) : Eff AV :=
  match boundOf n hi, boundOf 0 lo with
  | some h, some l => cutHi hi h n (cutLo lo l h (k l h))
  | _, _ => .fail

def sliceE (P : Program) (T : TypeId) (x : AV) (lo hi : Option AV) : Eff AV :=
  match P.underlying T, x with
  | some .string, .v (.string s) => cutE lo hi s.size fun l h => .ret (.v (.string (s.extract l.toNat h.toNat)))
  | some (.slice e), .con t c => match sizeAt P e with
    | some s => match Nat.beq s t.sz with
      | true => cutE lo hi c.length fun l h => .ret (.con t ((c.take h.toNat).drop l.toNat))
      | false => .fail
    | none => .fail
  | some (.slice e), .own i => match sizeAt P e with
    | some s => .rd i fun
      | .row _ t c => match Nat.beq s t.sz with
        | true => cutE lo hi c.length fun l h => .wr i (.frz t c) (.ret (.con t ((c.take h.toNat).drop l.toNat)))
        | false => .fail
      | .frz t c => match Nat.beq s t.sz with
        | true => cutE lo hi c.length fun l h => .ret (.con t ((c.take h.toNat).drop l.toNat))
        | false => .fail
      | .bts c => match Nat.beq s 1, hi with
        | true, none => cutE lo none c.length fun l _ => .ret (.sub i l.toNat)
        | _, _ => .fail
      | _ => .fail
    | none => .fail
  | _, _ => .fail

/-- What copy leaves of bytes from a place on. -/
def cpy (l : List Int) (lo : Nat) (s : ByteArray) : List Int := l.take lo ++ ((numsOf s).take (l.length - lo) ++ l.drop (lo + min s.size (l.length - lo)))

def copyE (P : Program) (T : TypeId) (d x : AV) : Eff AV :=
  match P.underlying T, d, x with
  | some (.slice e), .sub i lo, .v (.string s) => match sizeAt P e with
    | some n => match Nat.beq n 1 with
      | true => .rd i fun
        | .bts l => .wr i (.bts (cpy l lo s)) (.ret (.v (.int .i64 (min s.size (l.length - lo) : Nat))))
        | _ => .fail
      | false => .fail
    | none => .fail
  | _, _, _ => .fail

def lenE (P : Program) (T : TypeId) (x : AV) : Eff AV :=
  match P.underlying T, x with
  | some .string, .v (.string s) => .ret (.v (.int .i64 s.size))
  | some (.slice _), .v (.slice none 0 0) => .ret (.v (.int .i64 0))
  | some (.slice _), .con _ l => .ret (.v (.int .i64 l.length))
  | some (.slice _), .own i => .rd i fun
    | .row _ _ l => .ret (.v (.int .i64 l.length))
    | .frz _ l => .ret (.v (.int .i64 l.length))
    | .bts l => .ret (.v (.int .i64 l.length))
    | _ => .fail
  | _, _ => .fail

/-- A slice as it is read. -/
def readSl (x : AV) (k : (t : Ty) → List t.den → Eff AV) : Eff AV :=
  match x with
  | .con t l => k t l
  | .own i => .rd i fun
    | .row _ t l => k t l
    | .frz t l => k t l
    | _ => .fail
  | _ => .fail

def putRow (e : TypeId) (t : Ty) (by_ : Nat) (l m : List t.den) : Eff AV :=
  .br (l.length + m.length ≤ 140737488355328 / by_) inferInstance (.nw (.row e t (l ++ m)) fun i => .ret (.own i)) .fail

def putBts (l m : List Int) : Eff AV :=
  .br (l.length + m.length ≤ 140737488355328) inferInstance (.nw (.bts (l ++ m)) fun i => .ret (.own i)) .fail

def moreE (t : Ty) (x : AV) (k : List t.den → Eff AV) : Eff AV :=
  match x with
  | .v (.slice none 0 0) => k []
  | x => readSl x fun t' m => match decEq t' t with
    | isTrue h => k (h ▸ m)
    | isFalse _ => .fail

/-- So many zeros appended. -/
def appendZE (P : Program) (T2 e : TypeId) (s x : AV) : Eff AV :=
  match P.underlying T2, x with
  | some (.int _), .v (.int _ n) => match tyOf P 9 e, sizeAt P e, zeroCellsAt P e, (P.info? e).map (·.bytes) with
    | some t, some sz, some z, some by_ => match Nat.beq sz t.sz, Nat.ble 1 sz, Nat.ble 1 by_, Nat.beq z.length sz, t.dec z with
      | true, true, true, true, some d => .br (0 ≤ n) inferInstance (match s with
        | .v (.slice none 0 0) => putRow e t by_ [] (List.replicate n.toNat d)
        | .own i => .rd i fun
          | .row e' t' l => match Nat.beq e' e, decEq t' t with
            | true, isTrue h => .wr i .gone (putRow e t by_ (h ▸ l) (List.replicate n.toNat d))
            | _, _ => .fail
          | _ => .fail
        | _ => .fail) .fail
      | _, _, _, _, _ => .fail
    | _, _, _, _ => .fail
  | some .string, .v (.string x) => match sizeAt P e, (P.info? e).bind (·.zero), (P.info? e).map (·.bytes) with
    | some 1, some (.int .u8 0), some 1 => match s with
      | .v (.slice none 0 0) => putRow e (.int .u8) 1 ([] : List Int) (numsOf x)
      | .own i => .rd i fun
        | .row e' (.int .u8) l => match Nat.beq e' e with
          | true => .wr i .gone (putRow e (.int .u8) 1 l (numsOf x))
          | false => .fail
        | .bts l => .wr i .gone (putBts l (numsOf x))
        | _ => .fail
      | _ => .fail
    | _, _, _ => .fail
  | _, _ => .fail

def appendE (P : Program) (T T2 : TypeId) (s x : AV) : Eff AV :=
  match Nat.beq T T2, P.underlying T with
  | true, some (.slice e) => match tyOf P 9 e, sizeAt P e, zeroCellsAt P e, (P.info? e).map (·.bytes) with
    | some t, some sz, some z, some by_ => match Nat.beq sz t.sz, Nat.ble 1 sz, Nat.ble 1 by_, Nat.beq z.length sz with
      | true, true, true, true => match s with
        | .v (.slice none 0 0) => moreE t x fun m => putRow e t by_ [] m
        | .own i => .rd i fun
          | .row e' t' l => match Nat.beq e' e, decEq t' t with
            | true, isTrue h => .wr i .gone (moreE t x fun m => putRow e t by_ (h ▸ l) m)
            | _, _ => .fail
          | .bts l => match decEq t (.int .u8), Nat.beq by_ 1, (P.info? e).bind (·.zero) with
            | isTrue _, true, some (.int .u8 0) => .wr i .gone (moreE (.int .u8) x fun m => putBts l m)
            | _, _, _ => .fail
          | _ => .fail
        | _ => .fail
      | _, _, _, _ => .fail
    | _, _, _, _ => .fail
  | false, some (.slice e) => appendZE P T2 e s x
  | _, _ => .fail

def minE (lt : Bool) : AV → AV → Eff AV
  | .v (.int k a), .v (.int _ b) => match lt with
    | true => .ret (.v (.int k (if b < a then b else a)))
    | false => .ret (.v (.int k (if a < b then b else a)))
  | _, _ => .fail

/-! ### What is handed over -/
/-- What a callee (or a point of a function) wants a value to be. -/
inductive RC where
  | val
  | bool
  | con (t : Ty)
  | row (e : TypeId) (t : Ty)
  | box (cs : List RC)
  | fn (f : FuncId) (n : Nat) (cs : List RC)
  | agg (cs : List RC)
  | tup (cs : List RC)
  | dead
  | elt (t : Ty)
  | mp (t : Ty)
  | bld (T : TypeId) (c : RC)

/-- What has been packed: where each entry stood, the entries, the rows that are lent. -/
structure PS where
  m : List (Option (Nat × Nat))
  H : List HE
  lent : List Nat

def findM (i : Nat) : Nat → List (Option (Nat × Nat)) → Option (Nat × Nat)
  | _, [] => none
  | k, some (j, off) :: r => match Nat.beq j i with
    | true => some (k, off)
    | false => findM i (k + 1) r
  | k, none :: r => findM i (k + 1) r

/-- Cells that are lent with the variable in which they stand. -/
def lendC {α : Type} : List AV → PS → (List AV → PS → Eff α) → Eff α
  | [], s, k => k [] s
  | .own j :: r, s, k => .rd j fun
    | .row _ t l => match findM j 0 s.m with
      | none => lendC r { s with lent := j :: s.lent } fun r' s' => k (.con t l :: r') s'
      | some _ => .fail
    | .frz t l => lendC r s fun r' s' => k (.con t l :: r') s'
    | _ => .fail
  | .v x :: r, s, k => lendC r s fun r' s' => k (.v x :: r') s'
  | .con t l :: r, s, k => lendC r s fun r' s' => k (.con t l :: r') s'
  | .bs ng b :: r, s, k => lendC r s fun r' s' => k (.bs ng b :: r') s'
  | .bp ng p d :: r, s, k => lendC r s fun r' s' => k (.bp ng p d :: r') s'
  | _ :: _, _, _ => .fail

mutual
def pk {α : Type} : RC → AV → PS → (AV → PS → Eff α) → Eff α
  | .val, a, s, k => match a with
    | .v x => k (.v x) s
    | .con t l => k (.con t l) s
    | .elt t x o => k (.elt t x o) s
    | _ => .fail
  | .bool, a, s, k => match boolOf a with
    | some b => k (.bs false b) s
    | none => .fail
  | .con t, a, s, k => match a with
    | .con t' l => k (.con t' l) s
    | .v (.slice none 0 0) => k (.con t []) s
    | .own i => .rd i fun
      | .row _ t' l => match findM i 0 s.m with
        | none => k (.con t' l) { s with lent := i :: s.lent }
        | some _ => .fail
      | .frz t' l => k (.con t' l) s
      | _ => .fail
    | _ => .fail
  | .row e t, a, s, k => match a with
    | .own i => match findM i 0 s.m, s.lent.any (Nat.beq i) with
      | some (n, _), _ => k (.own n) s
      | none, true => .fail
      | none, false => .rd i fun
        | .row e' t' l => k (.own s.m.length) { s with m := s.m ++ [some (i, 0)], H := s.H ++ [.row e' t' l] }
        | .bts l => k (.own s.m.length) { s with m := s.m ++ [some (i, 0)], H := s.H ++ [.bts l] }
        | _ => .fail
    | .v (.slice none 0 0) => k (.own s.m.length) { s with m := s.m ++ [none], H := s.H ++ [.row e t []] }
    | _ => .fail
  | .box rcs, a, s, k => match a with
    | .box i off => match findM i 0 s.m with
      | some (n, off') => match Nat.beq off off' with
        | true => k (.box n 0) s
        | false => .fail
      | none => .rd i fun
        | .box cs => match Nat.ble (off + rcs.length) cs.length, s.lent.any (Nat.beq i) with
          | true, false => pks rcs ((cs.drop off).take rcs.length) { s with m := s.m ++ [some (i, off)], H := s.H ++ [.gone] } fun cs' s' =>
              k (.box s.m.length 0) { s' with H := s'.H.set s.m.length (.box cs') }
          | _, _ => .fail
        | _ => .fail
    | _ => .fail
  | .fn f n rcs, a, s, k => match a with
    | .fn f' n' cs => match Nat.beq f f', Nat.beq n n', Nat.beq rcs.length cs.length with
      | true, true, true => pks rcs cs s fun cs' s' => k (.fn f n cs') s'
      | _, _, _ => .fail
    | _ => .fail
  | .agg rcs, a, s, k => match cellsOf a with
    | some cs => match Nat.beq rcs.length cs.length, a with
      | true, .agg _ => pks rcs cs s fun cs' s' => k (.agg cs') s'
      | true, .v (.agg _) => pks rcs cs s fun cs' s' => k (.agg cs') s'
      | _, _ => .fail
    | none => .fail
  | .tup rcs, a, s, k => match a with
    | .tup cs => match Nat.beq rcs.length cs.length with
      | true => pks rcs cs s fun cs' s' => k (.tup cs') s'
      | false => .fail
    | _ => .fail
  | .dead, _, s, k => k .dead s
  | .mp t, a, s, k => match a with
    | .mp i => match findM i 0 s.m, s.lent.any (Nat.beq i) with
      | some (n, _), _ => k (.mp n) s
      | none, true => .fail
      | none, false => .rd i fun
        | .mp t' f => k (.mp s.m.length) { s with m := s.m ++ [some (i, 0)], H := s.H ++ [.mp t' f] }
        | _ => .fail
    | _ => .fail
  | .bld T rc, a, s, k => match a with
    | .box i off => match findM i 0 s.m with
      | some (n, off') => match Nat.beq off off' with
        | true => k (.box n 0) s
        | false => .fail
      | none => .rd i fun
        | .bld T' c => match Nat.beq T T', Nat.beq off 0, s.lent.any (Nat.beq i) with
          | true, true, false => pk rc c { s with m := s.m ++ [some (i, off)], H := s.H ++ [.gone] } fun c' s' =>
              k (.box s.m.length 0) { s' with H := s'.H.set s.m.length (.bld T c') }
          | _, _, _ => .fail
        | _ => .fail
    | _ => .fail
  | .elt t, a, s, k => match a with
    | .elt t' x o => k (.elt t' x o) s
    | .box i off => match findM i 0 s.m with
      | some _ => .fail
      | none => .rd i fun
        | .box cs => match Nat.ble (off + t.sz) cs.length with
          | true => lendC ((cs.drop off).take t.sz) s fun cs' s' => match t.dec cs' with
            | some x => k (.elt t x 0) { s' with lent := i :: s'.lent }
            | none => .fail
          | false => .fail
        | _ => .fail
    | _ => .fail
def pks {α : Type} : List RC → List AV → PS → (List AV → PS → Eff α) → Eff α
  | [], [], s, k => k [] s
  | c :: rcs, a :: as, s, k => pk c a s fun a' s' => pks rcs as s' fun as' s'' => k (a' :: as') s''
  | _, _, _, _ => .fail
end
end Go.Proofs.YtmciidoohbmipaaGreatDoor.Abs
namespace Go.Proofs.YtmciidoohbmipaaGreatDoor.Abs
open Go Go.RowKit
set_option linter.unusedVariables false
set_option linter.unusedSectionVars false
set_option linter.unusedSimpArgs false

/-- A call as its contract has it: the Lean function at its arguments, and what its answer is among abstract values. -/
structure Call : Type 1 where
  X : Type
  o : Option X
  emb : X → AV × List HE

structure Spec : Type 1 where
  args : List RC
  pat : Nat → List AV → List HE → Option Call

/-! ### Behind a call -/
/-- Where each entry stands in the caller's heap. -/
def places : List HE → List (Option (Nat × Nat)) → (List (Nat × Nat) → Eff AV) → Eff AV
  | [], _, k => k []
  | _ :: hs, some p :: m, k => places hs m fun r => k (p :: r)
  | _ :: hs, none :: m, k => .nw .gone fun i => places hs m fun r => k ((i, 0) :: r)
  | _ :: hs, [], k => .nw .gone fun i => places hs [] fun r => k ((i, 0) :: r)

mutual
def rn (ids : List (Nat × Nat)) : AV → AV
  | .own k => match ids[k]? with
    | some (i, _) => .own i
    | none => .dead
  | .box k o => match ids[k]? with
    | some (i, off) => .box i (off + o)
    | none => .dead
  | .oel k sz j o => match ids[k]? with
    | some (i, _) => .oel i sz j o
    | none => .dead
  | .mp k => match ids[k]? with
    | some (i, _) => .mp i
    | none => .dead
  | .sub k lo => match ids[k]? with
    | some (i, _) => .sub i lo
    | none => .dead
  | .fn f n cs => .fn f n (rns ids cs)
  | .agg cs => .agg (rns ids cs)
  | .tup cs => .tup (rns ids cs)
  | .v x => .v x
  | .con t l => .con t l
  | .elt t x o => .elt t x o
  | .bs ng b => .bs ng b
  | .bp ng p d => .bp ng p d
  | .dead => .dead
def rns (ids : List (Nat × Nat)) : List AV → List AV
  | [] => []
  | c :: cs => rn ids c :: rns ids cs
end

def back1 (ids : List (Nat × Nat)) (p : Nat × Nat) (h : HE) (k : Eff AV) : Eff AV :=
  match h with
  | .box cs => .rd p.1 fun
    | .box old => match Nat.ble (p.2 + cs.length) old.length with
      | true => .wr p.1 (.box (splice old p.2 (rns ids cs))) k
      | false => .fail
    | .gone => match Nat.beq p.2 0 with
      | true => .wr p.1 (.box (rns ids cs)) k
      | false => .fail
    | _ => .fail
  | .row e t l => .wr p.1 (.row e t l) k
  | .frz t l => .wr p.1 (.frz t l) k
  | .mp t f => .wr p.1 (.mp t f) k
  | .bts l => .wr p.1 (.bts l) k
  | .bld T c => match Nat.beq p.2 0 with
    | true => .wr p.1 (.bld T (rn ids c)) k
    | false => .fail
  | .gone => .wr p.1 .gone k
  | .unused => .fail

def backAll (ids : List (Nat × Nat)) : List HE → List (Nat × Nat) → Eff AV → Eff AV
  | h :: hs, p :: ps, k => back1 ids p h (backAll ids hs ps k)
  | _, _, k => k

def Ty.hasSl : Ty → Bool
  | .sl _ => true
  | .pair a b => a.hasSl || b.hasSl
  | _ => false

mutual
def hasCon : AV → Bool
  | .con _ _ => true
  | .elt _ _ _ => true
  | .fn _ _ cs => hasCons cs
  | .agg cs => hasCons cs
  | .tup cs => hasCons cs
  | _ => false
def hasCons : List AV → Bool
  | [] => false
  | c :: cs => hasCon c || hasCons cs
end

def hasConH : List HE → Bool
  | [] => false
  | .box cs :: hs => hasCons cs || hasConH hs
  | .row _ t _ :: hs => t.hasSl || hasConH hs
  | .mp t _ :: hs => t.hasSl || hasConH hs
  | .bld _ c :: hs => hasCon c || hasConH hs
  | .frz _ _ :: _ => true
  | _ :: hs => hasConH hs

def freezeL : List Nat → Eff AV → Eff AV
  | [], k => k
  | i :: is, k => .rd i fun
    | .row _ t l => .wr i (.frz t l) (freezeL is k)
    | .box _ => .fail
    | .mp _ _ => .fail
    | .bts _ => .fail
    | .bld _ _ => .fail
    | _ => freezeL is k

def full : List HE → Bool
  | [] => true
  | .gone :: _ => false
  | _ :: hs => full hs

/-- Behind a call: the entries go back to their places. -/
def backE (ps : PS) (r : AV) (H : List HE) : Eff AV :=
  match Nat.ble ps.H.length H.length with
  | false => .fail
  | true => places H ps.m fun ids => backAll ids H ids (match hasCon r || hasConH H with
    | true => freezeL ps.lent (.ret (rn ids r))
    | false => .ret (rn ids r))

def callE (s : Spec) (fuel : Nat) (args : List AV) : Eff AV :=
  pks s.args args ⟨[], [], []⟩ fun avs ps => match full ps.H with
    | false => .fail
    | true => match s.pat fuel avs ps.H with
      | none => .fail
      | some c => .opt c.X c.o fun x => backE ps (c.emb x).1 (c.emb x).2

abbrev Env := List ((FuncId × List FuncId) × Spec)

def fnIds : List AV → List FuncId
  | [] => []
  | .fn f _ _ :: r => f :: fnIds r
  | _ :: r => fnIds r

def sameIds : List Nat → List Nat → Bool
  | [], [] => true
  | a :: r, b :: s => Nat.beq a b && sameIds r s
  | _, _ => false

def look (f : FuncId) (fs : List FuncId) : Env → Option Spec
  | [] => none
  | ((g, gs), s) :: r => match Nat.beq f g && sameIds fs gs with
    | true => some s
    | false => look f fs r

def enterE (E : Env) (k : Nat) (f : FuncId) (args : List AV) : Eff AV :=
  match look f (fnIds args) E with
  | some s => callE s k args
  | none => .fail

def calleeE (P : Program) (E : Env) (k : Nat) (c : Go.Call) (tm : Nat → AV) : Eff AV :=
  let args := c.args.toList.map (ev tm)
  match c.callee with
  | .value f => match ev tm f with
    | .fn g n caps => enterE E k g (caps.take n ++ (args ++ caps.drop n))
    | _ => .fail
  | .builtin .len => match args, c.argTypes.toList with
    | [x], [T] => lenE P T x
    | _, _ => .fail
  | .builtin .append => match args, c.argTypes.toList with
    | [s, x], [T, T2] => appendE P T T2 s x
    | _, _ => .fail
  | .builtin .copy => match args, c.argTypes.toList with
    | [d, x], [T, _] => copyE P T d x
    | _, _ => .fail
  | .builtin .min => match args with
    | [x, y] => minE true x y
    | _ => .fail
  | .builtin .max => match args with
    | [x, y] => minE false x y
    | _ => .fail
  | _ => .fail

def effOf (P : Program) (E : Env) (k : Nat) (o : Oper) (tm : Nat → AV) : Eff AV :=
  match o.op with
  | .move x => .ret (ev tm x)
  | .assign x => .ret (ev tm x)
  | .pick c a b => match ev tm c with
    | .v (.bool t) => match t with
      | true => .ret (ev tm a)
      | false => .ret (ev tm b)
    | .bs false t => .br (t = true) inferInstance (.ret (ev tm a)) (.ret (ev tm b))
    | .bs true t => .br (t = true) inferInstance (.ret (ev tm b)) (.ret (ev tm a))
    | .bp false p d => .br p d (.ret (ev tm a)) (.ret (ev tm b))
    | .bp true p d => .br p d (.ret (ev tm b)) (.ret (ev tm a))
    | _ => .fail
  | .alloc T => allocE P T
  | .box _ x => boxE (ev tm x)
  | .build T ps => buildE P T (ps.toList.map fun p => (p.1, ev tm p.2))
  | .buildSlice T n ps => buildSliceE P T n (ps.toList.map fun p => (p.1, ev tm p.2))
  | .load T a => loadE P T (ev tm a)
  | .store T a x => storeE P T (ev tm a) (ev tm x)
  | .nilCheck x => match ev tm x with
    | .box i o => .ret (.box i o)
    | .elt t y o => .ret (.elt t y o)
    | .oel i s j o => .ret (.oel i s j o)
    | .fn f n cs => .ret (.fn f n cs)
    | _ => .fail
  | .binOp op T x y _ => binE P op T (ev tm x) (ev tm y)
  | .unOp op _ x => unE op (ev tm x)
  | .convert S T x => conv2E P S T (ev tm x)
  | .makeMap T none => makeMapE P T
  | .mapUpdate T m k x => mapPutE P T (ev tm m) (ev tm k) (ev tm x)
  | .insert T m k x => mapPutE P T (ev tm m) (ev tm k) (ev tm x)
  | .lookup T m k false => lookupE P T (ev tm m) (ev tm k)
  | .makeFunc (.func f) first cap => .ret (.fn f first.toList.length ((first.toList ++ cap.toList).map (ev tm)))
  | .makeSlice T n c => match sameTmp n c with
    | true => makeSliceE P T (ev tm n)
    | false => .fail
  | .slice T x lo hi none => sliceE P T (ev tm x) (lo.map (ev tm)) (hi.map (ev tm))
  | .fieldAddr S x f => fieldAddrE P S (ev tm x) f
  | .field S x f => fieldE P S (ev tm x) f
  | .indexAddr T x i => indexAddrE P T (ev tm x) (ev tm i)
  | .index T x i => indexE P T (ev tm x) (ev tm i)
  | .extract x i => match ev tm x with
    | .tup cs => match cs[i]? with
      | some c => .ret c
      | none => .fail
    | _ => .fail
  | .call c => calleeE P E k c tm
  | _ => .fail

/-! ### Regions -/
structure St where
  tm : Nat → AV
  hp : Heap
  nx : Nat

/-- What was read and what was written by an operation. -/
abbrev Foot := List (List Nat × List Nat)

section
variable {R : Type} (P : Program) (E : Env) (k n : Nat) (ops : List Oper)

def put (n : Nat) (dst : Option Tmp) (x : AV) (tm : Nat → AV) (K : (Nat → AV) → Option R) : Option R :=
  match dst with
  | none => K tm
  | some d => match Nat.ble (d + 1) n with
    | true => K (upd tm d x)
    | false => none

/-- A guard: whether the operation is wanted; a test that is open is parted. -/
def guarded (ops : List Oper) (g : Option (Nat × Bool)) (tm : Nat → AV) (K : Bool → (Nat → AV) → Option R) : Option R :=
  match g with
  | none => K true tm
  | some (j, want) => match ops[j]? with
    | none => none
    | some o => match o.dst with
      | none => none
      | some d =>
        let yes (tm : Nat → AV) : Option R := match want with | true => K true tm | false => K false tm
        let no (tm : Nat → AV) : Option R := match want with | true => K false tm | false => K true tm
        match tm d with
        | .v (.bool b) => match b with
          | true => yes tm
          | false => no tm
        | .v (.tuple _) => K false tm
        | .bs false b => if b = true then yes (upd tm d (.v (.bool true))) else no (upd tm d (.v (.bool false)))
        | .bs true b => if b = true then no (upd tm d (.v (.bool false))) else yes (upd tm d (.v (.bool true)))
        | .bp false p dp => @ite _ p dp (yes (upd tm d (.v (.bool true)))) (no (upd tm d (.v (.bool false))))
        | .bp true p dp => @ite _ p dp (no (upd tm d (.v (.bool false)))) (yes (upd tm d (.v (.bool true))))
        | _ => none

/-- Operations in the order of the text. -/
def runOps : List Oper → St → (St → Option R) → Option R
  | [], st, K => K st
  | o :: r, st, K => guarded ops o.guard st.tm fun w tm => match w with
    | true => (effOf P E k o tm).go st.nx st.hp [] [] fun x b hp _ _ => put n o.dst x tm fun tm => runOps r ⟨tm, hp, b⟩ K
    | false => put n o.dst (.v undef) tm fun tm => runOps r ⟨tm, st.hp, st.nx⟩ K

/-- Operations of a region that draws its order: each makes entries in a range of its own. -/
def runD : List Oper → Nat → St → Foot → (St → Foot → Option R) → Option R
  | [], _, st, F, K => K st F
  | o :: r, i, st, F, K => guarded ops o.guard st.tm fun w tm => match w with
    | true => (effOf P E k o tm).go (st.nx + 16 * i) st.hp [] [] fun x b hp rs ws => match Nat.ble b (st.nx + 16 * i + 16) with
      | true => put n o.dst x tm fun tm => runD r (i + 1) ⟨tm, hp, st.nx⟩ (F ++ [(rs, ws)]) K
      | false => none
    | false => put n o.dst (.v undef) tm fun tm => runD r (i + 1) ⟨tm, st.hp, st.nx⟩ (F ++ [([], [])]) K
end

def meets : List Nat → List Nat → Bool
  | [], _ => false
  | a :: r, l => l.any (Nat.beq a) || meets r l

/-- Whether j waits for i, by way of others too. -/
def reach (ops : List Oper) : Nat → Nat → Nat → Bool
  | 0, _, _ => false
  | f + 1, j, i => match ops[j]? with
    | some o => o.after.toList.any fun e => Region.binds .any e && (Nat.beq e.on i || reach ops f e.on i)
    | none => false

/-- Two operations that may come in either order touch nothing of each other. -/
def footOk (ops : List Oper) (F : Foot) : Bool :=
  (List.range ops.length).all fun i => (List.range ops.length).all fun j => !Nat.ble (i + 1) j || (match ops[j]?, F[i]?, F[j]? with
    | some oj, some (ri, wi), some (rj, wj) => (oj.after.toList.any fun e => Region.binds .any e && Nat.beq e.on i) || ((!meets wi rj && !meets wi wj && !meets wj ri) || reach ops ops.length j i)
    | _, _, _ => false)

/-! ### Code -/
/-- What is still to be done, each piece of code with its number in the body. -/
inductive TI where
  | code (c : Code) (p : Nat)
  | inBlock (id : Nat)
  | inLoop (c : Code) (p : Nat)

def csz : Code → Nat
  | .seq a b => csz a + csz b + 1
  | .cond _ a b => csz a + csz b + 1
  | .block _ a => csz a + 1
  | .loop a => csz a + 1
  | _ => 1

def exitA (id : Nat) : List TI → Option (List TI)
  | [] => none
  | .inBlock i :: k => match Nat.beq i id with
    | true => some k
    | false => exitA id k
  | _ :: k => exitA id k

/-- What becomes of an entry that came in: a row that is forgotten, a row that is kept, a box. -/
inductive IC where
  | drop
  | keep
  | box (cs : List RC)

def IC.kind : IC → Nat
  | .drop => 0
  | .keep => 1
  | .box _ => 2

/-- A point of a function (a loop's head, a place where ways meet): what is live there, and as what. -/
structure Pt where
  p : Nat
  live : List Nat
  rcs : List RC
  rc0 : List IC := []

def ptAt (p : Nat) : List Pt → Option Pt
  | [] => none
  | x :: r => match Nat.beq x.p p with
    | true => some x
    | false => ptAt p r

section
variable {X : Type}
/-- What a function has to be known by: its number of temporaries, its result variables, what its results are to be, how many entries came in, its points. -/
structure FnA (X : Type) where
  n : Nat
  res : List ResultVar
  rc : RC
  rc0 : List IC
  pts : List Pt
  fin : AV → List HE → Option X

def bind2 {α β : Type} (e : Eff α) (k : α → Eff β) : Eff β := e.bind k

def resVals {α : Type} (P : Program) (tm : Nat → AV) : List ResultVar → (List AV → Eff α) → Eff α
  | [], k => k []
  | .tmp t :: r, k => resVals P tm r fun xs => k (tm t :: xs)
  | .cell a T :: r, k => bind2 (loadE P T (tm a)) fun x => resVals P tm r fun xs => k (x :: xs)

/-- Rows that are to be kept are rows still. -/
def needRows {α : Type} : List IC → Nat → Eff α → Eff α
  | [], _, k => k
  | .keep :: r, i, k => .rd i fun
    | .row _ _ _ => needRows r (i + 1) k
    | .mp _ _ => needRows r (i + 1) k
    | _ => .fail
  | .drop :: r, i, k => needRows r (i + 1) k
  | .box _ :: r, i, k => needRows r (i + 1) k

/-- The entries that came in: they are packed first, each at its old place; rows that are not kept are gone. -/
def packIn {α : Type} : List IC → Nat → PS → (PS → Eff α) → Eff α
  | [], _, s, k => k s
  | .drop :: r, i, s, k => packIn r (i + 1) s k
  | .keep :: r, i, s, k => .rd i fun
    | .row e t l => packIn r (i + 1) { s with H := s.H.set i (.row e t l) } k
    | .mp t f => packIn r (i + 1) { s with H := s.H.set i (.mp t f) } k
    | _ => .fail
  | .box rcs :: r, i, s, k => .rd i fun
    | .box cs => match Nat.beq rcs.length cs.length with
      | true => pks rcs cs s fun cs' s' => packIn r (i + 1) { s' with H := s'.H.set i (.box cs') } k
      | false => .fail
    | _ => .fail

def startM : List IC → Nat → List (Option (Nat × Nat))
  | [], _ => []
  | .drop :: r, i => none :: startM r (i + 1)
  | .keep :: r, i => some (i, 0) :: startM r (i + 1)
  | .box _ :: r, i => some (i, 0) :: startM r (i + 1)

def start0 (rc0 : List IC) : PS := ⟨startM rc0 0, rc0.map fun _ => .gone, []⟩

def inE {α : Type} (rc0 : List IC) (k : PS → Eff α) : Eff α := needRows rc0 0 (packIn rc0 0 (start0 rc0) k)

def one1 : List AV → AV
  | [x] => x
  | xs => .tup xs

def finishE (P : Program) (f : FnA X) (tm : Nat → AV) : Eff (AV × List HE) :=
  inE f.rc0 fun s => resVals P tm f.res fun xs => pk f.rc (one1 xs) s fun x' s' => .ret (x', s'.H)

/-- To a point. -/
def jumpE (q : Pt) (tm : Nat → AV) : Eff (List AV × List HE) :=
  inE q.rc0 fun s => pks q.rcs (q.live.map tm) s fun avs s' => .ret (avs, s'.H)

def brA (x : AV) (K : Bool → AV → Option X) : Option X :=
  match x with
  | .v (.bool b) => match b with
    | true => K true x
    | false => K false x
  | .bs false b => if b = true then K true (.v (.bool true)) else K false (.v (.bool false))
  | .bs true b => if b = true then K false (.v (.bool false)) else K true (.v (.bool true))
  | .bp false p d => @ite _ p d (K true (.v (.bool true))) (K false (.v (.bool false)))
  | .bp true p d => @ite _ p d (K false (.v (.bool false))) (K true (.v (.bool true)))
  | _ => none

def setOp (c : Operand) (x : AV) (tm : Nat → AV) : Nat → AV :=
  match c with
  | .tmp t => upd tm t x
  | _ => tm

variable (P : Program) (E : Env) (k : Nat) (f : FnA X) (G : Nat → List AV → List HE → Option X)

/-- One piece of code; 'rec': on from there. -/
def stepC (rec : List TI → St → Option X) (c : Code) (p : Nat) (t : List TI) (st : St) : Option X :=
  match c with
  | .skip => rec t st
  | .seq a b => rec (.code a (p + 1) :: .code b (p + 1 + csz a) :: t) st
  | .cond c a b => brA (ev st.tm c) fun r x => match r with
    | true => rec (.code a (p + 1) :: t) { st with tm := setOp c x st.tm }
    | false => rec (.code b (p + 1 + csz a) :: t) { st with tm := setOp c x st.tm }
  | .block id a => rec (.code a (p + 1) :: .inBlock id :: t) st
  | .loop a => rec (.code a (p + 1) :: .inLoop a p :: t) st
  | .exit id => match exitA id t with
    | some t' => rec t' st
    | none => none
  | .region _ ops draw => match draw with
    | false => runOps P E k f.n ops.toList ops.toList st fun st' => rec t st'
    | true => match Region.lexB .any ops with
      | true => runD P E k f.n ops.toList ops.toList 0 st [] fun st' F => match footOk ops.toList F with
        | true => rec t { st' with nx := st.nx + 16 * ops.toList.length }
        | false => none
      | false => none
  | .ret => (finishE P f st.tm).go st.nx st.hp [] [] fun x _ _ _ _ => f.fin x.1 x.2
  | _ => none

/-- On from here. 'G': what is told from a point on. -/
def arun : Nat → List TI → St → Option X
  | 0, _, _ => none
  | _ + 1, [], st => (finishE P f st.tm).go st.nx st.hp [] [] fun x _ _ _ _ => f.fin x.1 x.2
  | s + 1, .inBlock _ :: t, st => arun s t st
  | _ + 1, .inLoop _ p :: _, st => match ptAt p f.pts with
    | some q => (jumpE q st.tm).go st.nx st.hp [] [] fun x _ _ _ _ => G p x.1 x.2
    | none => none
  | s + 1, .code c p :: t, st => match ptAt p f.pts with
    | some q => (jumpE q st.tm).go st.nx st.hp [] [] fun x _ _ _ _ => G p x.1 x.2
    | none => stepC P E k f (arun s) c p t st
end

/-- What is still to be done at number q. -/
def tk : Code → Nat → List TI → Nat → Option (List TI)
  | c, p, t, q => match Nat.beq q p with
    | true => some (.code c p :: t)
    | false => match c with
      | .seq a b => match Nat.ble (p + 1 + csz a) q with
        | true => tk b (p + 1 + csz a) t q
        | false => tk a (p + 1) (.code b (p + 1 + csz a) :: t) q
      | .cond _ a b => match Nat.ble (p + 1 + csz a) q with
        | true => tk b (p + 1 + csz a) t q
        | false => tk a (p + 1) t q
      | .block id a => tk a (p + 1) (.inBlock id :: t) q
      | .loop a => tk a (p + 1) (.inLoop a p :: t) q
      | _ => none

/-- From a point on: the point's own code, not the point again. -/
def tmOf : List Nat → List AV → Nat → AV
  | t :: ts, x :: xs => upd (tmOf ts xs) t x
  | _, _ => fun _ => .dead

def hpOf (H : List HE) : Heap := fun i => match H[i]? with
  | some h => h
  | none => .unused

def stOf (q : Pt) (avs : List AV) (H : List HE) : St := ⟨tmOf q.live avs, hpOf H, H.length⟩

/-- From point p on. -/
def fromPt {X : Type} (P : Program) (E : Env) (k : Nat) (f : FnA X) (G : Nat → List AV → List HE → Option X) (steps : Nat) (body : Code) (p : Nat) (avs : List AV) (H : List HE) : Option X :=
  match tk body 0 [] p, ptAt p f.pts with
  | some (.code c p' :: t), some q => stepC P E k f (arun P E k f G steps) c p' t (stOf q avs H)
  | _, _ => none

def argsTm : Nat → List AV → Nat → AV
  | _, [] => fun _ => .v undef
  | i, x :: xs => upd (argsTm (i + 1) xs) i x

/-- Whether the entries that come in are of the kinds that are told. -/
def shapeOk : List IC → List HE → Bool
  | [], [] => true
  | .box rcs :: r, .box cs :: H => Nat.beq rcs.length cs.length && shapeOk r H
  | .drop :: r, .row _ _ _ :: H => shapeOk r H
  | .keep :: r, .row _ _ _ :: H => shapeOk r H
  | .keep :: r, .mp _ _ :: H => shapeOk r H
  | _, _ => false

/-- From the beginning. -/
def fromTop {X : Type} (P : Program) (E : Env) (k : Nat) (f : FnA X) (G : Nat → List AV → List HE → Option X) (steps : Nat) (body : Code) (avs : List AV) (H : List HE) : Option X :=
  match shapeOk f.rc0 H with
  | true => arun P E k f G steps [.code body 0] ⟨argsTm 0 avs, hpOf H, H.length⟩
  | false => none

/-- A contract out of a Lean function. -/
def mkS {X : Type} (args : List RC) (pat : Nat → List AV → List HE → Option (Option X)) (emb : X → AV × List HE) : Spec :=
  ⟨args, fun k avs H => match pat k avs H with
    | some o => some ⟨X, o, emb⟩
    | none => none⟩

def bodyOf (P : Program) (f : FuncId) : Code := match P.funcs[f]? with
  | some fn => match fn.body with
    | some c => c
    | none => .skip
  | none => .skip
end Go.Proofs.YtmciidoohbmipaaGreatDoor.Abs
namespace Go.Proofs.YtmciidoohbmipaaGreatDoor.Abs
open Go Go.MapKept Go.ChangeMaps Go.RowKit
set_option linter.unusedVariables false
set_option linter.unusedSectionVars false
set_option linter.unusedSimpArgs false
section
variable {α : Type} {P : Program} {w : World} {b : Nat} {enc : α → Value} {f : Int → Option α}
/-- Block b is a map: at each number what f says. -/
def MapI (w : World) (b : Nat) (enc : α → Value) (f : Int → Option α) : Prop :=
  ∃ es clock, w.heap[b]? = some (.map es clock) ∧ Stamped es clock ∧ (∀ x ∈ es.toList, ∃ n v, x.key = .int .i64 n ∧ x.val = enc v ∧ f n = some v) ∧ ∀ n v, f n = some v → ∃ x ∈ es.toList, x.key = .int .i64 n ∧ x.val = enc v
theorem MapI.kept {w' : World} (h : MapI w b enc f) (hb : w'.heap[b]? = w.heap[b]?) : MapI w' b enc f := by
  obtain ⟨es, clock, h1, h2⟩ := h
  exact ⟨es, clock, hb.trans h1, h2⟩
theorem MapI.lt (h : MapI w b enc f) : b < w.heap.size := by
  obtain ⟨es, clock, h1, h2⟩ := h
  exact (Array.getElem?_eq_some_iff.1 h1).1
theorem MapI.below {w' : World} (h : MapI w b enc f) (hb : Below w.heap.size w w') : MapI w' b enc f := h.kept (hb.block b h.lt)
theorem MapI.congr {g : Int → Option α} (h : MapI w b enc f) (e : ∀ n, f n = g n) : MapI w b enc g := by
  obtain rfl : f = g := funext e
  exact h
theorem MapI.made {clock : Nat} (hb : w.heap[b]? = some (.map #[] clock)) : MapI w b enc (fun _ => none) :=
  ⟨#[], clock, hb, stamped_empty _, by simp, fun n v h => by cases h⟩
theorem MapI.no_cells (h : MapI w b enc f) {cs : Array Value} {t : Nat} {fr : Nat × Nat} {g : Nat} (hg : w.heap[g]? = some (.cells cs t fr)) : g ≠ b := by
  rintro rfl
  obtain ⟨es, clock, h1, _⟩ := h
  rw [h1] at hg
  cases hg
theorem isKey_int (n : Int) : IsKey (.int .i64) (.int .i64 n) := rfl
theorem MapI.keys {es : Array MapEntry} (h : ∀ x ∈ es.toList, ∃ n v, x.key = .int .i64 n ∧ x.val = enc v ∧ f n = some v) : ∀ x ∈ es.toList, IsKey (.int .i64) x.key := fun x hx => by
  obtain ⟨n, v, e, _⟩ := h x hx
  rw [e]
  exact isKey_int n
variable {t k e : TypeId}
theorem MapI.look (h : MapI w b enc f) (ht : P.underlying t = some (.map k e)) (hk : P.underlying k = some (.int .i64)) {z : Value} (hz : (zeroValue e).run P w = .ok z w) (n : Int) :
    (Instr.lookup t (.map (some b)) (.int .i64 n) false).run P w = .ok (((f n).map enc).getD z) w := by
  obtain ⟨es, clock, hb, hs, h1, h2⟩ := h
  rcases findNow_spec (isKey_int n) es.toList 0 (MapI.keys h1) with ⟨e1, e2⟩ | ⟨j, e0, e1, e2, e3⟩
  · have hn : f n = none := by
      cases hf : f n with
      | none => rfl
      | some v =>
        obtain ⟨x, hx, hxk, _⟩ := h2 n v hf
        exact absurd hxk (e2 x hx)
    simp [Instr.lookup, run_underlying ht, MapKept.run_getObj_map hb, MapKept.run_checkKey hk (isKey_int n), MapKept.run_findKey hk e1, hz, hn, Result.andThen]
  · obtain ⟨m, v, hm1, hm2, hm3⟩ := h1 e0 (List.mem_of_getElem? e2)
    obtain rfl : m = n := by
      rw [hm1] at e3
      injection e3
    simp [Instr.lookup, run_underlying ht, MapKept.run_getObj_map hb, MapKept.run_checkKey hk (isKey_int m), MapKept.run_findKey hk e1, hm3, hm2, Result.andThen]
theorem MapI.put (h : MapI w b enc f) (ht : P.underlying t = some (.map k e)) (hk : P.underlying k = some (.int .i64)) (n : Int) (v : α) :
    ∃ w', (Instr.mapUpdate t (.map (some b)) (.int .i64 n) (enc v)).run P w = .ok () w' ∧ MapI w' b enc (fun m => if m = n then some v else f m) ∧ w.grownBy w' (some b) ∧ w'.heap.size = w.heap.size := by
  obtain ⟨es, clock, hb, hs, h1, h2⟩ := h
  have hpair := ((stamped_iff es clock).1 hs).2.2
  rcases findNow_spec (isKey_int n) es.toList 0 (MapI.keys h1) with ⟨e1, e2⟩ | ⟨j, e0, e1, e2, e3⟩
  · refine ⟨setBlock w b (.map (es.push ⟨.int .i64 n, enc v, clock⟩) (clock + 1)), ?_, ⟨_, _, heap_setBlock_same hb _, stamped_push hs e2, ?_, ?_⟩, ⟨rfl, rfl, rfl, by simp [setBlock], fun i _ hi => heap_setBlock_other hb _ (fun e => hi (by rw [e]))⟩, by simp [setBlock]⟩
    · simp [Instr.mapUpdate, run_underlying ht, MapKept.run_getObj_map hb, MapKept.run_checkKey hk (isKey_int n), MapKept.run_findKey hk e1, MapKept.run_setObj_map _ hb, Result.andThen, setBlock]
    · intro x hx
      simp only [Array.toList_push, List.mem_append, List.mem_singleton] at hx
      rcases hx with hx | rfl
      · obtain ⟨m, u, hm1, hm2, hm3⟩ := h1 x hx
        refine ⟨m, u, hm1, hm2, ?_⟩
        have hne : m ≠ n := fun e => e2 x hx (by rw [hm1, e])
        simp only [if_neg hne, hm3]
      · exact ⟨n, v, rfl, rfl, by simp⟩
    · intro m u hm
      simp only [Array.toList_push, List.mem_append, List.mem_singleton]
      by_cases c : m = n
      · subst c
        simp only [if_true] at hm
        obtain rfl := Option.some.inj hm
        exact ⟨_, .inr rfl, rfl, rfl⟩
      · simp only [if_neg c] at hm
        obtain ⟨x, hx, hx1, hx2⟩ := h2 m u hm
        exact ⟨x, .inl hx, hx1, hx2⟩
  · have hj : es[j]? = some e0 := by simpa using e2
    have hjl : j < es.toList.length := (List.getElem?_eq_some_iff.1 e2).1
    have hkeyf : ∀ e', es[j]? = some e' → ({ e' with key := .int .i64 n, val := enc v } : MapEntry).key = e'.key := fun e' he' => by rw [hj] at he'; cases he'; exact e3.symm
    have hlist : (es.modify j (fun e' => { e' with key := .int .i64 n, val := enc v })).toList = es.toList.set j { e0 with key := .int .i64 n, val := enc v } := by
      rw [Array.toList_modify, modify_eq_set _ _ _ _ e2]
    refine ⟨setBlock w b (.map (es.modify j (fun e' => { e' with key := .int .i64 n, val := enc v })) clock), ?_, ⟨_, _, heap_setBlock_same hb _, stamped_modify hs _ _ (fun _ _ => rfl) (fun e' _ he' => hkeyf e' he'), ?_, ?_⟩, ⟨rfl, rfl, rfl, by simp [setBlock], fun i _ hi => heap_setBlock_other hb _ (fun e => hi (by rw [e]))⟩, by simp [setBlock]⟩
    · simp [Instr.mapUpdate, run_underlying ht, MapKept.run_getObj_map hb, MapKept.run_checkKey hk (isKey_int n), MapKept.run_findKey hk e1, hj, e3, MapKept.run_keyThatStays (isKey_int n), MapKept.run_setObj_map _ hb, Result.andThen, setBlock]
    · rw [hlist]
      intro x hx
      obtain ⟨i, hi, rfl⟩ := List.getElem_of_mem hx
      rw [List.getElem_set]
      split
      · exact ⟨n, v, rfl, rfl, by simp⟩
      · rename_i hne
        have hi' : i < es.toList.length := by rw [List.length_set] at hi; exact hi
        obtain ⟨m, u, hm1, hm2, hm3⟩ := h1 es.toList[i] (List.getElem_mem hi')
        refine ⟨m, u, hm1, hm2, ?_⟩
        have hmn : m ≠ n := by
          rintro rfl
          have he0 : es.toList[j] = e0 := (List.getElem?_eq_some_iff.1 e2).2
          rcases Nat.lt_or_gt_of_ne hne with c | c
          · exact List.pairwise_iff_getElem.1 hpair j i hjl hi' c (by rw [he0, e3, hm1])
          · exact List.pairwise_iff_getElem.1 hpair i j hi' hjl c (by rw [he0, e3, hm1])
        simp only [if_neg hmn, hm3]
    · rw [hlist]
      intro m u hm
      by_cases c : m = n
      · subst c
        simp only [if_true] at hm
        obtain rfl := Option.some.inj hm
        exact ⟨_, List.mem_set hjl _, rfl, rfl⟩
      · simp only [if_neg c] at hm
        obtain ⟨x, hx, hx1, hx2⟩ := h2 m u hm
        obtain ⟨i, hi, rfl⟩ := List.getElem_of_mem hx
        have hne : j ≠ i := by
          rintro rfl
          have he0 : es.toList[j] = e0 := (List.getElem?_eq_some_iff.1 e2).2
          rw [he0, e3] at hx1
          injection hx1 with _ hx1
          exact c hx1.symm
        refine ⟨es.toList[i], ?_, hx1, hx2⟩
        rw [← List.getElem_set_ne hne (l := es.toList) (a := { e0 with key := .int .i64 n, val := enc v }) (by rw [List.length_set]; exact hi)]
        exact List.getElem_mem _
end
/-- Block B of W holds the bytes xs, then spare cells up to c, with the conversion's mark behind all, or none. -/
def BRow (W : World) (B : Nat) (xs : List Int) (c : Nat) : Prop :=
  ∃ (extra : List Value) (e : TypeId) (fr : Nat × Nat), xs.length + extra.length = c ∧ (fr = (0, 0) ∨ fr = (c, c + 1)) ∧ W.heap[B]? = some (.cells (xs.map (Value.int .u8) ++ extra).toArray e fr)
theorem numsOf_length (s : ByteArray) : (numsOf s).length = s.size := by simp [numsOf]
theorem BRow.of_bytes (W : World) (e : TypeId) (s : ByteArray) (hc : s.size ≤ grownCap W s.size 0 e) : BRow (Lib.bytesWorld W e s) W.heap.size (numsOf s) (grownCap W s.size 0 e) := by
  refine ⟨Array.toList (Array.replicate (grownCap W s.size 0 e - s.size) (.int .u8 0)), e, (grownCap W s.size 0 e, grownCap W s.size 0 e + 1), ?_, .inr rfl, ?_⟩
  · simp [numsOf_length]
    omega
  rw [Lib.bytesWorld_at_new]
  have h : Lib.bytesCells W e s = ((numsOf s).map (Value.int .u8) ++ (Array.replicate (grownCap W s.size 0 e - s.size) (Value.int .u8 0)).toList).toArray := by
    unfold Lib.bytesCells
    apply Array.ext'
    simp [numsOf]
  rw [h]
  have hz : s.size + (grownCap W s.size 0 e - s.size) = grownCap W s.size 0 e := by omega
  simp [numsOf_length, hz]
theorem BRow.cell {W : World} {B c : Nat} {xs : List Int} (h : BRow W B xs c) {i : Nat} (hi : i < xs.length) : W.cell? ⟨B, i, none⟩ = some (.int .u8 (xs.getD i 0)) := by
  obtain ⟨extra, e, fr, _, _, h⟩ := h
  simp only [World.cell?, h]
  simp [hi, List.getElem?_append, List.getD_eq_getElem?_getD]
theorem BRow.frozen' {W : World} {B c : Nat} {xs : List Int} (h : BRow W B xs c) {i : Nat} (hi : i < c) : W.frozen? ⟨B, i, none⟩ = false := by
  obtain ⟨extra, e, fr, hc, hf, h⟩ := h
  simp only [World.frozen?, h]
  rcases hf with rfl | rfl
  · simp
  · simp
    omega
theorem BRow.frozen {W : World} {B c : Nat} {xs : List Int} (h : BRow W B xs c) {i : Nat} (hi : i < xs.length) : W.frozen? ⟨B, i, none⟩ = false := by
  have h0 := h
  obtain ⟨extra, e, fr, hc, hf, _⟩ := h0
  exact h.frozen' (by omega)
theorem BRow.lt {W : World} {B c : Nat} {xs : List Int} (h : BRow W B xs c) : B < W.heap.size := by
  obtain ⟨extra, e, fr, _, _, h⟩ := h
  exact (Array.getElem?_eq_some_iff.1 h).1
theorem BRow.set {W : World} {B c : Nat} {xs : List Int} (h : BRow W B xs c) {i : Nat} (hi : i < xs.length) (v : Int) : BRow (W.setCell ⟨B, i, none⟩ (.int .u8 v)) B (xs.set i v) c := by
  obtain ⟨extra, e, fr, hc, hf, h⟩ := h
  refine ⟨extra, e, fr, by rw [List.length_set]; exact hc, hf, ?_⟩
  have hlt : B < W.heap.size := (Array.getElem?_eq_some_iff.1 h).1
  have hv : W.heap[B] = _ := (Array.getElem?_eq_some_iff.1 h).2
  simp only [World.setCell]
  rw [Array.getElem?_eq_getElem (by simpa using hlt), Array.getElem_modify]
  simp [hv, List.map_set, List.set_append, hi]
theorem BRow.same {W W1 : World} {B c : Nat} {xs : List Int} (h : BRow W B xs c) (he : W1.heap[B]? = W.heap[B]?) : BRow W1 B xs c := by
  obtain ⟨extra, e, fr, hc, hf, h⟩ := h
  exact ⟨extra, e, fr, hc, hf, he.trans h⟩
/-- What a store leaves: that cell alone. -/
theorem run_store_byte {P : Program} {W : World} {B c : Nat} {xs : List Int} (h : BRow W B xs c) {i : Nat} (hi : i < xs.length) (v : Int) : (store ⟨B, i, none⟩ (.int .u8 v)).run P W = .ok () (W.setCell ⟨B, i, none⟩ (.int .u8 v)) := by
  unfold store
  simp [Sem.run, h.cell hi, h.frozen hi]
theorem setCell_other (W : World) (a : Addr) (v : Value) (b : Nat) (hb : b ≠ a.block) : (W.setCell a v).heap[b]? = W.heap[b]? := by
  simp [World.setCell, Array.getElem?_modify, Ne.symm hb]
theorem setCell_size (W : World) (a : Addr) (v : Value) : (W.setCell a v).heap.size = W.heap.size := by simp [World.setCell]
/-- What storing bytes one behind the other leaves. -/
theorem run_store_bytes {P : Program} {B c : Nat} : (ys : List Int) → {W : World} → {xs : List Int} → BRow W B xs c → (lo k : Nat) → lo + k + ys.length ≤ xs.length →
    ∃ W', (storeCells ⟨B, lo, none⟩ (ys.map (Value.int .u8)) k).run P W = .ok () W' ∧ BRow W' B (xs.take (lo + k) ++ (ys ++ xs.drop (lo + k + ys.length))) c ∧ W'.heap.size = W.heap.size ∧ W'.os = W.os ∧ W'.tape = W.tape ∧ W'.output = W.output ∧ ∀ b, b ≠ B → W'.heap[b]? = W.heap[b]?
  | [], W, xs, h, lo, k, _ => by
    refine ⟨W, by simp [storeCells], ?_, rfl, rfl, rfl, rfl, fun _ _ => rfl⟩
    simpa using h
  | y :: ys, W, xs, h, lo, k, hl => by
    simp only [List.length_cons] at hl
    have h1 := h.set (i := lo + k) (by omega) y
    obtain ⟨W', g1, g2, g3, g4, g5, g6, g7⟩ := run_store_bytes (P := P) ys h1 lo (k + 1) (by simp; omega)
    refine ⟨W', ?_, ?_, by rw [g3, setCell_size], g4, g5, g6, fun b hb => by rw [g7 b hb, setCell_other _ _ _ _ hb]⟩
    · simp only [List.map_cons, storeCells]
      rw [Sem.run_bind, show (⟨B, lo, none⟩ : Addr).add k = ⟨B, lo + k, none⟩ from ?_, run_store_byte h (by omega) y]
      · exact g1
      · unfold Addr.add
        split
        · rename_i h0; subst h0; rfl
        · rfl
    · have e : xs.take (lo + k) ++ (y :: ys ++ xs.drop (lo + k + (y :: ys).length)) = (xs.set (lo + k) y).take (lo + (k + 1)) ++ (ys ++ (xs.set (lo + k) y).drop (lo + (k + 1) + ys.length)) := by
        simp only [List.length_cons]
        rw [List.drop_set_of_lt (by omega), List.take_set, show lo + (k + 1) = (lo + k) + 1 by omega, List.take_succ_eq_append_getElem (by omega : lo + k < xs.length), List.set_append_right _ _ (by simp; omega)]
        have : (xs.take (lo + k)).length = lo + k := by simp; omega
        rw [this, Nat.sub_self]
        simp
        omega
      rw [e]
      exact g2
end Go.Proofs.YtmciidoohbmipaaGreatDoor.Abs
namespace Go.Proofs.YtmciidoohbmipaaGreatDoor.Abs
open Go Go.RowKit
set_option linter.unusedVariables false
set_option linter.unusedSectionVars false
set_option linter.unusedSimpArgs false

/-- w' is w but for blocks of M and new ones. -/
structure Off (M : Nat → Prop) (w w' : World) : Prop where
  os : w'.os = w.os
  tape : w'.tape = w.tape
  output : w'.output = w.output
  size : w.heap.size ≤ w'.heap.size
  block : ∀ b, b < w.heap.size → ¬ M b → w'.heap[b]? = w.heap[b]?

theorem Off.refl (M : Nat → Prop) (w : World) : Off M w w := ⟨rfl, rfl, rfl, Nat.le_refl _, fun _ _ _ => rfl⟩

theorem Off.trans {M N : Nat → Prop} {a b c : World} (h : Off M a b) (g : Off N b c) (hN : ∀ x, x < a.heap.size → N x → M x) : Off M a c :=
  ⟨g.os.trans h.os, g.tape.trans h.tape, g.output.trans h.output, Nat.le_trans h.size g.size,
    fun x hx hm => (g.block x (Nat.lt_of_lt_of_le hx h.size) (fun hn => hm (hN x hx hn))).trans (h.block x hx hm)⟩

theorem Off.mono {M N : Nat → Prop} {a b : World} (h : Off M a b) (hN : ∀ x, x < a.heap.size → M x → N x) : Off N a b :=
  ⟨h.os, h.tape, h.output, h.size, fun x hx hn => h.block x hx (fun hm => hn (hN x hx hm))⟩

theorem Off.drew (M : Nat → Prop) (w : World) : Off M w w.drew := ⟨rfl, rfl, rfl, Nat.le_refl _, fun _ _ _ => rfl⟩
theorem Off.alloc (M : Nat → Prop) (w : World) (o : Obj) : Off M w (w.alloc o) := ⟨rfl, rfl, rfl, by simp, fun b hb _ => Below.heap_alloc w o b hb⟩
theorem Off.grown {w w' : World} {row : Option Nat} (h : w.grownBy w' row) : Off (fun b => row = some b) w w' :=
  ⟨h.os, h.tape, h.output, h.size, fun b hb hm => h.block b hb (fun e => hm e.symm)⟩
theorem Off.below {w w' : World} (h : Below w.heap.size w w') (M : Nat → Prop) : Off M w w' := ⟨h.os, h.tape, h.output, h.size, fun b hb _ => h.block b hb⟩
theorem Off.toBelow {M : Nat → Prop} {w w' : World} (h : Off M w w') (hM : ∀ b, b < w.heap.size → ¬ M b) : Below w.heap.size w w' :=
  ⟨h.os, h.tape, h.output, h.size, fun b hb => h.block b hb (hM b hb)⟩
theorem Off.cell {M : Nat → Prop} {w w' : World} (h : Off M w w') {b o : Nat} {u : Value} (hb : ¬ M b) (hc : w.cell? ⟨b, o, none⟩ = some u) : w'.cell? ⟨b, o, none⟩ = some u := by
  have hlt : b < w.heap.size := World.block_lt_of_cell? (a := ⟨b, o, none⟩) w hc
  rw [World.cell?_of_block (w := w) (w' := w') (a := ⟨b, o, none⟩) (h.block b hlt hb)]
  exact hc

/-! ### Elements -/
def RowR {α : Type} (M : Nat → Prop) (w : World) (K : α → List Value → Prop) (sz : Nat) (A : Option Addr) (l : List α) : Prop :=
  ∀ i x, l[i]? = some x → ∃ b o cs, A = some ⟨b, o, none⟩ ∧ ¬ M b ∧ cs.length = sz ∧ K x cs ∧ ∀ j u, cs[j]? = some u → w.cell? ⟨b, o + (i * sz + j), none⟩ = some u

def Ty.KR (M : Nat → Prop) (w : World) : (t : Ty) → t.den → List Value → Prop
  | .int k, x, cs => cs = [.int k x]
  | .bool, x, cs => cs = [.bool x]
  | .str, x, cs => cs = [.string x]
  | .sl t, l, cs => ∃ A c, cs = [.slice A l.length c] ∧ l.length ≤ c ∧ RowR M w (t.KR M w) t.sz A l
  | .pair a b, x, cs => ∃ c0 c1, cs = c0 ++ c1 ∧ a.KR M w x.1 c0 ∧ b.KR M w x.2 c1

theorem Ty.sz_pos : (t : Ty) → 0 < t.sz
  | .int _ => Nat.one_pos
  | .bool => Nat.one_pos
  | .str => Nat.one_pos
  | .sl _ => Nat.one_pos
  | .pair a b => Nat.lt_of_lt_of_le a.sz_pos (Nat.le_add_right _ _)

theorem KR_len {M : Nat → Prop} {w : World} : (t : Ty) → {x : t.den} → {cs : List Value} → t.KR M w x cs → cs.length = t.sz
  | .int _, _, _, h => by subst h; rfl
  | .bool, _, _, h => by subst h; rfl
  | .str, _, _, h => by subst h; rfl
  | .sl _, _, _, h => by obtain ⟨A, c, rfl, _⟩ := h; rfl
  | .pair a b, _, _, h => by
    obtain ⟨c0, c1, rfl, h0, h1⟩ := h
    rw [List.length_append, KR_len a h0, KR_len b h1]; rfl

theorem KR_one {M : Nat → Prop} {w : World} : (t : Ty) → {x : t.den} → {cs : List Value} → t.KR M w x cs → ∀ u ∈ cs, u.oneCell' = true
  | .int _, _, _, h, u, hu => by subst h; rw [List.mem_singleton.1 hu]; rfl
  | .bool, _, _, h, u, hu => by subst h; rw [List.mem_singleton.1 hu]; rfl
  | .str, _, _, h, u, hu => by subst h; rw [List.mem_singleton.1 hu]; rfl
  | .sl _, _, _, h, u, hu => by obtain ⟨A, c, rfl, _⟩ := h; rw [List.mem_singleton.1 hu]; rfl
  | .pair a b, _, _, h, u, hu => by
    obtain ⟨c0, c1, rfl, h0, h1⟩ := h
    rcases List.mem_append.1 hu with hu | hu
    · exact KR_one a h0 u hu
    · exact KR_one b h1 u hu

theorem RowR_step {α : Type} {M M' D : Nat → Prop} {w w' : World} {K K' : α → List Value → Prop} {sz : Nat} {A : Option Addr} {l : List α} (hsz : 0 < sz)
    (off : Off D w w') (hD : ∀ b, b < w.heap.size → D b → M b) (hM : ∀ b, b < w.heap.size → M' b → M b) (hK : ∀ x cs, K x cs → K' x cs)
    (h : RowR M w K sz A l) : RowR M' w' K' sz A l := by
  intro i x hx
  obtain ⟨b, o, cs, hA, hb, hl, hk, hc⟩ := h i x hx
  have hlt : b < w.heap.size := by
    obtain ⟨u, hu⟩ : ∃ u, cs[0]? = some u := ⟨_, List.getElem?_eq_getElem (by omega)⟩
    exact World.block_lt_of_cell? (a := ⟨b, _, none⟩) w (hc 0 u hu)
  exact ⟨b, o, cs, hA, fun hm => hb (hM b hlt hm), hl, hK x cs hk, fun j u hu => off.cell (fun hd => hb (hD b hlt hd)) (hc j u hu)⟩

theorem KR_step {M M' D : Nat → Prop} {w w' : World} (off : Off D w w') (hD : ∀ b, b < w.heap.size → D b → M b) (hM : ∀ b, b < w.heap.size → M' b → M b) :
    (t : Ty) → {x : t.den} → {cs : List Value} → t.KR M w x cs → t.KR M' w' x cs
  | .int _, _, _, h => h
  | .bool, _, _, h => h
  | .str, _, _, h => h
  | .sl t, _, _, h => by
    obtain ⟨A, c, rfl, hl, hr⟩ := h
    exact ⟨A, c, rfl, hl, RowR_step t.sz_pos off hD hM (fun _ _ hk => KR_step off hD hM t hk) hr⟩
  | .pair a b, _, _, h => by
    obtain ⟨c0, c1, rfl, h0, h1⟩ := h
    exact ⟨c0, c1, rfl, KR_step off hD hM a h0, KR_step off hD hM b h1⟩

/-- The cells of the elements of a row, one behind the other. -/
def Els {α : Type} (K : α → List Value → Prop) : List α → List Value → Prop
  | [], xs => xs = []
  | x :: l, xs => ∃ c r, xs = c ++ r ∧ K x c ∧ Els K l r

theorem Els.imp {α : Type} {K K' : α → List Value → Prop} (hK : ∀ x cs, K x cs → K' x cs) : {l : List α} → {xs : List Value} → Els K l xs → Els K' l xs
  | [], _, h => h
  | _ :: _, _, ⟨c, r, e, hc, hr⟩ => ⟨c, r, e, hK _ _ hc, Els.imp hK hr⟩

theorem Els.append {α : Type} {K : α → List Value → Prop} : {l m : List α} → {xs ys : List Value} → Els K l xs → Els K m ys → Els K (l ++ m) (xs ++ ys)
  | [], _, _, _, h, g => by cases h; simpa using g
  | _ :: _, _, _, _, ⟨c, r, e, hc, hr⟩, g => ⟨c, r ++ _, by rw [e, List.append_assoc], hc, Els.append hr g⟩

theorem Els.len {α : Type} {K : α → List Value → Prop} {sz : Nat} (hK : ∀ x cs, K x cs → cs.length = sz) : {l : List α} → {xs : List Value} → Els K l xs → xs.length = l.length * sz
  | [], _, h => by cases h; simp
  | _ :: l, _, ⟨c, r, e, hc, hr⟩ => by
    have := Els.len hK hr
    rw [e, List.length_append, hK _ _ hc, this, List.length_cons, Nat.add_mul, Nat.one_mul, Nat.add_comm]

theorem Els.one {α : Type} {K : α → List Value → Prop} {sz : Nat} (hK : ∀ x cs, K x cs → ∀ u ∈ cs, u.oneCell' = true) : {l : List α} → {xs : List Value} → Els K l xs → ∀ u ∈ xs, u.oneCell' = true
  | [], _, h, u, hu => by cases h; cases hu
  | _ :: l, _, ⟨c, r, e, hc, hr⟩, u, hu => by
    rw [e] at hu
    rcases List.mem_append.1 hu with hu | hu
    · exact hK _ _ hc u hu
    · exact Els.one (sz := sz) hK hr u hu

/-- The element at a place, its cells within the row's. -/
theorem Els.get {α : Type} {K : α → List Value → Prop} {sz : Nat} (hK : ∀ x cs, K x cs → cs.length = sz) : {l : List α} → {xs : List Value} → Els K l xs → ∀ i x, l[i]? = some x →
    ∃ cs, K x cs ∧ cs.length = sz ∧ ∀ j, j < sz → xs[i * sz + j]? = cs[j]?
  | [], _, _, i, x, hx => by simp at hx
  | y :: l, _, ⟨c, r, e, hc, hr⟩, 0, x, hx => by
    have : y = x := by simpa using hx
    subst this
    refine ⟨c, hc, hK _ _ hc, fun j hj => ?_⟩
    rw [e, Nat.zero_mul, Nat.zero_add, List.getElem?_append_left (by rw [hK _ _ hc]; exact hj)]
  | y :: l, _, ⟨c, r, e, hc, hr⟩, i + 1, x, hx => by
    obtain ⟨cs, h1, h2, h3⟩ := Els.get hK hr i x (by simpa using hx)
    refine ⟨cs, h1, h2, fun j hj => ?_⟩
    rw [e, List.getElem?_append_right (by rw [hK _ _ hc, Nat.add_mul, Nat.one_mul]; omega), hK _ _ hc, ← h3 j hj]
    congr 1
    rw [Nat.add_mul, Nat.one_mul]; omega

/-- An element replaced. -/
theorem Els.set {α : Type} {K : α → List Value → Prop} {sz : Nat} (hK : ∀ x cs, K x cs → cs.length = sz) : {l : List α} → {xs : List Value} → Els K l xs → ∀ i (y : α) cs, i < l.length → K y cs →
    Els K (l.set i y) (xs.take (i * sz) ++ cs ++ xs.drop (i * sz + sz))
  | [], _, _, i, _, _, hi, _ => by simp at hi
  | x :: l, _, ⟨c, r, e, hc, hr⟩, 0, y, cs, _, hy => by
    refine ⟨cs, r, ?_, hy, hr⟩
    rw [e, Nat.zero_mul, Nat.zero_add]
    simp [hK _ _ hc]
  | x :: l, _, ⟨c, r, e, hc, hr⟩, i + 1, y, cs, hi, hy => by
    have := Els.set hK hr i y cs (by simpa using hi) hy
    refine ⟨c, _, ?_, hc, this⟩
    have hl := hK _ _ hc
    rw [e, Nat.add_mul, Nat.one_mul]
    have h1 : (c ++ r).take (i * sz + sz) = c ++ r.take (i * sz) := by
      rw [List.take_append, hl, List.take_of_length_le (by omega)]
      congr 2; omega
    have h2 : (c ++ r).drop (i * sz + sz + sz) = r.drop (i * sz + sz) := by
      rw [List.drop_append, hl, List.drop_eq_nil_of_le (by omega), List.nil_append]
      congr 1; omega
    rw [h1, h2, List.append_assoc, List.append_assoc, List.append_assoc]

/-! ### Values -/
def xorB (ng b : Bool) : Bool := match ng with
  | true => !b
  | false => b

mutual
/-- y is what the abstract value says. -/
def R (M : Nat → Prop) (w : World) (ρ : Nat → Value) (hp : Heap) : AV → Value → Prop
  | .v x, y => y = x
  | .bs ng b, y => y = .bool (xorB ng b)
  | .bp ng p d, y => y = .bool (xorB ng (@decide p d))
  | .con t l, y => ∃ A c, y = .slice A l.length c ∧ l.length ≤ c ∧ RowR M w (t.KR M w) t.sz A l
  | .own i, y => hp i ≠ .unused ∧ y = ρ i ∧ ∃ A n c, y = .slice A n c
  | .box i off, y => hp i ≠ .unused ∧ ∃ g o, ρ i = .pointer (some ⟨g, o, none⟩) ∧ y = .pointer (some ⟨g, o + off, none⟩)
  | .elt t x off, y => ∃ b o cs, y = .pointer (some ⟨b, o + off, none⟩) ∧ ¬ M b ∧ t.KR M w x cs ∧ ∀ j u, cs[j]? = some u → w.cell? ⟨b, o + j, none⟩ = some u
  | .oel i sz j off, y => hp i ≠ .unused ∧ ∃ g n c, ρ i = .slice (some ⟨g, 0, none⟩) n c ∧ j < n ∧ y = .pointer (some ⟨g, j * sz + off, none⟩)
  | .mp i, y => hp i ≠ .unused ∧ y = ρ i ∧ ∃ b, y = .map (some b)
  | .sub i lo, y => hp i ≠ .unused ∧ ∃ g n c c' A, ρ i = .slice (some ⟨g, 0, none⟩) n c ∧ lo ≤ n ∧ y = .slice (some A) (n - lo) c' ∧ (lo < n → A = ⟨g, lo, none⟩)
  | .fn f n cs, y => ∃ vs, y = .func (.func f) (vs.take n).toArray (vs.drop n).toArray ∧ Rs M w ρ hp cs vs
  | .agg cs, y => ∃ vs, y = .agg vs.toArray ∧ Rs M w ρ hp cs vs
  | .tup cs, y => ∃ vs, y = .tuple vs.toArray ∧ Rs M w ρ hp cs vs
  | .dead, _ => True
def Rs (M : Nat → Prop) (w : World) (ρ : Nat → Value) (hp : Heap) : List AV → List Value → Prop
  | [], vs => vs = []
  | a :: as, vs => ∃ v r, vs = v :: r ∧ R M w ρ hp a v ∧ Rs M w ρ hp as r
end

mutual
theorem R_step {M M' D : Nat → Prop} {w w' : World} {ρ ρ' : Nat → Value} {hp hp' : Heap} (off : Off D w w') (hD : ∀ b, b < w.heap.size → D b → M b) (hM : ∀ b, b < w.heap.size → M' b → M b)
    (hρ : ∀ i, hp i ≠ .unused → ρ' i = ρ i ∧ hp' i ≠ .unused) : (a : AV) → {y : Value} → R M w ρ hp a y → R M' w' ρ' hp' a y
  | .v _, _, h => h
  | .bs _ _, _, h => h
  | .bp _ _ _, _, h => h
  | .con t _, _, ⟨A, c, e, hl, hr⟩ => ⟨A, c, e, hl, RowR_step t.sz_pos off hD hM (fun _ _ hk => KR_step off hD hM t hk) hr⟩
  | .own i, _, ⟨hu, e, s⟩ => ⟨(hρ i hu).2, by rw [(hρ i hu).1]; exact e, s⟩
  | .box i _, _, ⟨hu, g, o, e, e'⟩ => ⟨(hρ i hu).2, g, o, by rw [(hρ i hu).1]; exact e, e'⟩
  | .elt t x _, _, ⟨b, o, cs, e, hb, hk, hc⟩ => by
    have hlt : b < w.heap.size := by
      obtain ⟨u, hu⟩ : ∃ u, cs[0]? = some u := ⟨_, List.getElem?_eq_getElem (by rw [KR_len t hk]; exact t.sz_pos)⟩
      exact World.block_lt_of_cell? (a := ⟨b, _, none⟩) w (hc 0 u hu)
    exact ⟨b, o, cs, e, fun hm => hb (hM b hlt hm), KR_step off hD hM t hk, fun j u hu => off.cell (fun hd => hb (hD b hlt hd)) (hc j u hu)⟩
  | .oel i _ _ _, _, ⟨hu, g, n, c, e, r⟩ => ⟨(hρ i hu).2, g, n, c, by rw [(hρ i hu).1]; exact e, r⟩
  | .mp i, _, ⟨hu, e, s⟩ => ⟨(hρ i hu).2, by rw [(hρ i hu).1]; exact e, s⟩
  | .sub i _, _, ⟨hu, g, n, c, c', A, e, r⟩ => ⟨(hρ i hu).2, g, n, c, c', A, by rw [(hρ i hu).1]; exact e, r⟩
  | .fn _ _ cs, _, ⟨vs, e, h⟩ => ⟨vs, e, Rs_step off hD hM hρ cs h⟩
  | .agg cs, _, ⟨vs, e, h⟩ => ⟨vs, e, Rs_step off hD hM hρ cs h⟩
  | .tup cs, _, ⟨vs, e, h⟩ => ⟨vs, e, Rs_step off hD hM hρ cs h⟩
  | .dead, _, _ => trivial
theorem Rs_step {M M' D : Nat → Prop} {w w' : World} {ρ ρ' : Nat → Value} {hp hp' : Heap} (off : Off D w w') (hD : ∀ b, b < w.heap.size → D b → M b) (hM : ∀ b, b < w.heap.size → M' b → M b)
    (hρ : ∀ i, hp i ≠ .unused → ρ' i = ρ i ∧ hp' i ≠ .unused) : (as : List AV) → {ys : List Value} → Rs M w ρ hp as ys → Rs M' w' ρ' hp' as ys
  | [], _, h => h
  | a :: as, _, ⟨v, r, e, h0, h1⟩ => ⟨v, r, e, R_step off hD hM hρ a h0, Rs_step off hD hM hρ as h1⟩
end

section
variable {M : Nat → Prop} {w : World} {ρ : Nat → Value} {hp : Heap}
theorem Rs_len : {as : List AV} → {vs : List Value} → Rs M w ρ hp as vs → vs.length = as.length
  | [], _, h => by cases h; rfl
  | _ :: as, _, ⟨v, r, e, _, h⟩ => by rw [e, List.length_cons, Rs_len h, List.length_cons]
theorem Rs_append : {as bs : List AV} → {vs us : List Value} → Rs M w ρ hp as vs → Rs M w ρ hp bs us → Rs M w ρ hp (as ++ bs) (vs ++ us)
  | [], _, _, _, h, g => by cases h; simpa using g
  | _ :: _, _, _, _, ⟨v, r, e, h0, h⟩, g => ⟨v, r ++ _, by rw [e]; rfl, h0, Rs_append h g⟩
theorem Rs_take : {as : List AV} → {vs : List Value} → Rs M w ρ hp as vs → ∀ n, Rs M w ρ hp (as.take n) (vs.take n)
  | [], _, h, n => by cases h; simp [Rs]
  | a :: as, _, _, 0 => by simp [Rs]
  | a :: as, _, ⟨v, r, e, h0, h⟩, n + 1 => by rw [e]; exact ⟨v, r.take n, rfl, h0, Rs_take h n⟩
theorem Rs_drop : {as : List AV} → {vs : List Value} → Rs M w ρ hp as vs → ∀ n, Rs M w ρ hp (as.drop n) (vs.drop n)
  | [], _, h, n => by cases h; simp [Rs]
  | a :: as, _, h, 0 => h
  | a :: as, _, ⟨v, r, e, h0, h⟩, n + 1 => by rw [e]; exact Rs_drop h n
theorem Rs_get : {as : List AV} → {vs : List Value} → Rs M w ρ hp as vs → ∀ (i : Nat) (a : AV), as[i]? = some a → ∃ v, vs[i]? = some v ∧ R M w ρ hp a v
  | [], _, _, i, a, ha => by simp at ha
  | b :: as, _, ⟨v, r, e, h0, h⟩, 0, a, ha => by
    have : b = a := by simpa using ha
    subst this; exact ⟨v, by rw [e]; rfl, h0⟩
  | b :: as, _, ⟨v, r, e, h0, h⟩, i + 1, a, ha => by
    obtain ⟨u, hu, hr⟩ := Rs_get h i a (by simpa using ha)
    exact ⟨u, by rw [e]; simpa using hu, hr⟩
theorem Rs_vals : (l : List Value) → Rs M w ρ hp (l.map .v) l
  | [] => rfl
  | x :: l => ⟨x, l, rfl, rfl, Rs_vals l⟩
theorem Rs_vals_eq : {l : List Value} → {vs : List Value} → Rs M w ρ hp (l.map .v) vs → vs = l
  | [], _, h => h
  | x :: l, _, ⟨v, r, e, h0, h⟩ => by rw [e, Rs_vals_eq h]; cases h0; rfl
end
end Go.Proofs.YtmciidoohbmipaaGreatDoor.Abs
namespace Go.Proofs.YtmciidoohbmipaaGreatDoor.Abs
open Go Go.RowKit
set_option linter.unusedVariables false
set_option linter.unusedSectionVars false
set_option linter.unusedSimpArgs false

def live : HE → Prop
  | .box _ => True
  | .row _ _ _ => True
  | .mp _ _ => True
  | .bts _ => True
  | .bld _ _ => True
  | _ => False

def blk : Value → Option Nat
  | .pointer (some a) => some a.block
  | .slice (some a) _ _ => some a.block
  | .map (some b) => some b
  | _ => none

theorem blk_own {v : Value} (h : ∃ a n c, v = .slice a n c) : blk v = v.ownBlock := by
  obtain ⟨a, n, c, rfl⟩ := h
  cases a <;> rfl

/-- The blocks of what is live. -/
def Lv (hp : Heap) (ρ : Nat → Value) (b : Nat) : Prop := ∃ i, live (hp i) ∧ blk (ρ i) = some b
/-- What may be written, here or by those who called. -/
def Mut (MX : Nat → Prop) (hp : Heap) (ρ : Nat → Value) (b : Nat) : Prop := MX b ∨ Lv hp ρ b

/-- Tables of the program: blocks that nobody writes, and their cells. -/
def tabs : List (Nat × Array Value) := []
def Tb (w : World) (L : Nat → Prop) : Prop := ∀ p ∈ tabs, (∃ T f, w.heap[p.1]? = some (.cells p.2 T f)) ∧ ¬ L p.1

theorem Tb.next {D L L' : Nat → Prop} {w w' : World} (h : Tb w L) (off : Off D w w') (hD : ∀ b, b < w.heap.size → D b → L b) (nwl : ∀ b, b < w.heap.size → L' b → L b) : Tb w' L' := by
  intro p hp
  obtain ⟨⟨T, f, h1⟩, h2⟩ := h p hp
  have hlt : p.1 < w.heap.size := (Array.getElem?_eq_some_iff.1 h1).1
  exact ⟨⟨T, f, (off.block p.1 hlt fun hd => h2 (hD _ hlt hd)).trans h1⟩, fun hl => h2 (nwl _ hlt hl)⟩

def HEok (M : Nat → Prop) (w : World) (ρ : Nat → Value) (hp : Heap) (i : Nat) : HE → Prop
  | .unused => True
  | .gone => True
  | .box cs => ∃ g o C e vs, ρ i = .pointer (some ⟨g, o, none⟩) ∧ w.heap[g]? = some (.cells C e (0, 0)) ∧ Rs M w ρ hp cs vs ∧ ∀ (j : Nat) (v : Value), vs[j]? = some v → C[o + j]? = some v
  | .row e t l => ∃ xs, w.ownsRow 0 e t.sz (ρ i) l.length xs ∧ Els (t.KR M w) l xs
  | .frz t l => ∃ A c, ρ i = .slice A l.length c ∧ l.length ≤ c ∧ RowR M w (t.KR M w) t.sz A l
  | .mp t f => ∃ b, ρ i = .map (some b) ∧ MapI w b t.enc1 f
  | .bts l => ∃ g c, ρ i = .slice (some ⟨g, 0, none⟩) l.length c ∧ l.length ≤ c ∧ BRow w g l c
  | .bld T c => ∃ g p v, ρ i = .pointer (some ⟨g, 0, none⟩) ∧ w.heap[g]? = some (.cells #[p, v] T (0, 0)) ∧ (p = .pointer none ∨ p = .pointer (some ⟨g, 0, none⟩)) ∧ R M w ρ hp c v

structure HRel (MX : Nat → Prop) (w : World) (ρ : Nat → Value) (hp : Heap) : Prop where
  ok : ∀ i, HEok (Mut MX hp ρ) w ρ hp i (hp i)
  sep : ∀ i j b, live (hp i) → live (hp j) → blk (ρ i) = some b → blk (ρ j) = some b → i = j
  ext : ∀ i b, live (hp i) → blk (ρ i) = some b → ¬ MX b
  mx : ∀ b, MX b → b < w.heap.size
  tb : Tb w (Lv hp ρ)

theorem own_kept {w w' : World} {e sz n : Nat} {v : Value} {xs : List Value} (h : w.ownsRow 0 e sz v n xs) (hb : ∀ b, blk v = some b → b < w.heap.size → w'.heap[b]? = w.heap[b]?) : w'.ownsRow 0 e sz v n xs := by
  refine ⟨h.1, ?_⟩
  rcases h.2 with h2 | ⟨g, cap, cur, rfl, hg, hh, r⟩
  · exact .inl h2
  · exact .inr ⟨g, cap, cur, rfl, hg, (hb g rfl (Array.getElem?_eq_some_iff.1 hh).1).trans hh, r⟩

theorem HEok_step {M M' D : Nat → Prop} {w w' : World} {ρ ρ' : Nat → Value} {hp hp' : Heap} (off : Off D w w') (hD : ∀ b, b < w.heap.size → D b → M b) (hM : ∀ b, b < w.heap.size → M' b → M b)
    (hρ : ∀ i, hp i ≠ .unused → ρ' i = ρ i ∧ hp' i ≠ .unused) {i : Nat} {h : HE} (hi : ρ' i = ρ i) (hd : live h → ∀ b, blk (ρ i) = some b → ¬ D b) (hk : HEok M w ρ hp i h) : HEok M' w' ρ' hp' i h := by
  cases h with
  | unused => trivial
  | gone => trivial
  | box cs =>
    obtain ⟨g, o, C, e, vs, h1, h2, h3, h4⟩ := hk
    have hlt : g < w.heap.size := (Array.getElem?_eq_some_iff.1 h2).1
    refine ⟨g, o, C, e, vs, by rw [hi]; exact h1, ?_, Rs_step off hD hM hρ cs h3, h4⟩
    rw [off.block g hlt (hd trivial g (by rw [h1]; rfl))]; exact h2
  | row e t l =>
    obtain ⟨xs, h1, h2⟩ := hk
    refine ⟨xs, ?_, Els.imp (fun _ _ h => KR_step off hD hM t h) h2⟩
    rw [hi]
    exact own_kept h1 fun b hb hlt => off.block b hlt (hd trivial b hb)
  | mp t f =>
    obtain ⟨b, h1, h2⟩ := hk
    exact ⟨b, by rw [hi]; exact h1, h2.kept (off.block b h2.lt (hd trivial b (by rw [h1]; rfl)))⟩
  | bld T c =>
    obtain ⟨g, p, v, h1, h2, h3, h4⟩ := hk
    have hlt : g < w.heap.size := (Array.getElem?_eq_some_iff.1 h2).1
    exact ⟨g, p, v, by rw [hi]; exact h1, (off.block g hlt (hd trivial g (by rw [h1]; rfl))).trans h2, h3, R_step off hD hM hρ c h4⟩
  | bts l =>
    obtain ⟨g, c, h1, h2, h3⟩ := hk
    exact ⟨g, c, by rw [hi]; exact h1, h2, h3.same (off.block g h3.lt (hd trivial g (by rw [h1]; rfl)))⟩
  | frz t l =>
    obtain ⟨A, c, h1, h2, h3⟩ := hk
    exact ⟨A, c, by rw [hi]; exact h1, h2, RowR_step t.sz_pos off hD hM (fun _ _ h => KR_step off hD hM t h) h3⟩

/-- Of the block at p nothing has changed but the n cells from p on. -/
def Inside (w w' : World) (p : Value) (n : Nat) : Prop :=
  ∀ g o, p = .pointer (some ⟨g, o, none⟩) → ∃ C C' e, w.heap[g]? = some (.cells C e (0, 0)) ∧ w'.heap[g]? = some (.cells C' e (0, 0)) ∧ C'.size = C.size ∧ ∀ j : Nat, (j < o ∨ o + n ≤ j) → C'[j]? = C[j]?

theorem Inside.trans {w w1 w2 : World} {p : Value} {n : Nat} (h : Inside w w1 p n) (g : Inside w1 w2 p n) : Inside w w2 p n := by
  intro b o e
  obtain ⟨C, C1, e1, h1, h2, h3, h4⟩ := h b o e
  obtain ⟨C1', C2, e2, g1, g2, g3, g4⟩ := g b o e
  rw [h2] at g1
  injection g1 with g1
  injection g1 with ec ee
  subst ec ee
  exact ⟨C, C2, e1, h1, g2, g3.trans h3, fun j hj => (g4 j hj).trans (h4 j hj)⟩

theorem HEok.inside {M : Nat → Prop} {w w' : World} {ρ : Nat → Value} {hp : Heap} {i : Nat} {cs : List AV} (h : HEok M w ρ hp i (.box cs)) (hb : ∀ b, blk (ρ i) = some b → b < w.heap.size → w'.heap[b]? = w.heap[b]?) (n : Nat) : Inside w w' (ρ i) n := by
  intro g o e
  obtain ⟨g', o', C, ty, vs, h1, h2, _⟩ := h
  rw [e] at h1
  injection h1 with h1
  injection h1 with h1
  injection h1 with e1 e2
  subst e1 e2
  exact ⟨C, C, ty, h2, (hb g (by rw [e]; rfl) (Array.getElem?_eq_some_iff.1 h2).1).trans h2, rfl, fun _ _ => rfl⟩

/-- From one state to a later one. -/
structure Step (MX : Nat → Prop) (w : World) (ρ : Nat → Value) (hp : Heap) (w' : World) (ρ' : Nat → Value) (hp' : Heap) : Prop where
  rel : HRel MX w' ρ' hp'
  off : Off (Lv hp ρ) w w'
  old : ∀ i, hp i ≠ .unused → ρ' i = ρ i ∧ hp' i ≠ .unused
  nwl : ∀ b, b < w.heap.size → Lv hp' ρ' b → Lv hp ρ b
  bx : ∀ i cs, hp i = .box cs → ∃ cs', hp' i = .box cs' ∧ cs'.length = cs.length ∧ Inside w w' (ρ i) cs.length

theorem Step.refl {MX : Nat → Prop} {w : World} {ρ : Nat → Value} {hp : Heap} (h : HRel MX w ρ hp) : Step MX w ρ hp w ρ hp :=
  ⟨h, Off.refl _ _, fun _ hu => ⟨rfl, hu⟩, fun _ _ h => h, fun i cs hi => ⟨cs, hi, rfl, HEok.inside (hi ▸ h.ok i) (fun _ _ _ => rfl) _⟩⟩

theorem Step.trans {MX : Nat → Prop} {w w1 w2 : World} {ρ ρ1 ρ2 : Nat → Value} {hp hp1 hp2 : Heap} (h : Step MX w ρ hp w1 ρ1 hp1) (g : Step MX w1 ρ1 hp1 w2 ρ2 hp2) : Step MX w ρ hp w2 ρ2 hp2 :=
  ⟨g.rel, h.off.trans g.off h.nwl, fun i hu => ⟨(g.old i (h.old i hu).2).1.trans (h.old i hu).1, (g.old i (h.old i hu).2).2⟩,
    fun b hb hl => h.nwl b hb (g.nwl b (Nat.lt_of_lt_of_le hb h.off.size) hl), fun i cs hi => by
      obtain ⟨c1, h1, h2, h3⟩ := h.bx i cs hi
      obtain ⟨c2, g1, g2, g3⟩ := g.bx i c1 h1
      rw [(h.old i (by rw [hi]; simp)).1, h2] at g3
      exact ⟨c2, g1, g2.trans h2, h3.trans g3⟩⟩

theorem Step.R {MX : Nat → Prop} {w w' : World} {ρ ρ' : Nat → Value} {hp hp' : Heap} (h : Step MX w ρ hp w' ρ' hp') {a : AV} {y : Value} (hr : R (Mut MX hp ρ) w ρ hp a y) : R (Mut MX hp' ρ') w' ρ' hp' a y :=
  R_step h.off (fun _ _ hd => .inr hd) (fun b hb hm => hm.imp id (h.nwl b hb)) h.old a hr

theorem Step.Rs {MX : Nat → Prop} {w w' : World} {ρ ρ' : Nat → Value} {hp hp' : Heap} (h : Step MX w ρ hp w' ρ' hp') {as : List AV} {ys : List Value} (hr : Rs (Mut MX hp ρ) w ρ hp as ys) : Rs (Mut MX hp' ρ') w' ρ' hp' as ys :=
  Rs_step h.off (fun _ _ hd => .inr hd) (fun b hb hm => hm.imp id (h.nwl b hb)) h.old as hr

/-- How a step is made: what was written (D) belongs to entries that are told anew. -/
theorem Step.mk' {MX : Nat → Prop} {w w' : World} {ρ ρ' : Nat → Value} {hp hp' : Heap} {D : Nat → Prop} (H : HRel MX w ρ hp) (off : Off D w w') (hD : ∀ b, b < w.heap.size → D b → Lv hp ρ b)
    (old : ∀ i, hp i ≠ .unused → ρ' i = ρ i ∧ hp' i ≠ .unused) (nwl : ∀ b, b < w.heap.size → Lv hp' ρ' b → Lv hp ρ b)
    (ent : ∀ i, (hp' i = hp i ∧ ρ' i = ρ i ∧ (live (hp i) → ∀ b, blk (ρ i) = some b → ¬ D b)) ∨ HEok (Mut MX hp' ρ') w' ρ' hp' i (hp' i))
    (sep : ∀ i j b, live (hp' i) → live (hp' j) → blk (ρ' i) = some b → blk (ρ' j) = some b → i = j)
    (ext : ∀ i b, live (hp' i) → blk (ρ' i) = some b → ¬ MX b)
    (bx : ∀ i cs, hp i = .box cs → (hp' i = hp i ∧ ∀ b, blk (ρ i) = some b → ¬ D b) ∨ ∃ cs', hp' i = .box cs' ∧ cs'.length = cs.length ∧ Inside w w' (ρ i) cs.length) : Step MX w ρ hp w' ρ' hp' := by
  refine ⟨⟨fun i => ?_, sep, ext, fun b hb => Nat.lt_of_lt_of_le (H.mx b hb) off.size, H.tb.next off hD nwl⟩, off.mono hD, old, nwl, fun i cs hi => ?_⟩
  case refine_2 =>
    rcases bx i cs hi with ⟨h1, h2⟩ | h
    · exact ⟨cs, h1.trans hi, rfl, HEok.inside (hi ▸ H.ok i) (fun b hb hlt => off.block b hlt (h2 b hb)) _⟩
    · exact h
  rcases ent i with ⟨e, ei, hd⟩ | h
  · rw [e]
    exact HEok_step off (fun b hb hd => .inr (hD b hb hd)) (fun b hb hm => hm.imp id (nwl b hb)) old ei hd (H.ok i)
  · exact h

theorem upd_same {β : Type} (f : Nat → β) (i : Nat) (x : β) : upd f i x i = x := by simp [upd]
theorem upd_ne {β : Type} (f : Nat → β) {i j : Nat} (x : β) (h : j ≠ i) : upd f i x j = f j := by
  unfold upd
  cases hb : Nat.beq j i with
  | true => exact absurd (Nat.eq_of_beq_eq_true hb) h
  | false => rfl
theorem upd_self {β : Type} (f : Nat → β) (i : Nat) : upd f i (f i) = f := by
  funext j
  by_cases h : j = i
  · subst h; exact upd_same _ _ _
  · exact upd_ne _ _ h

/-- A draw. -/
theorem Step.drew {MX : Nat → Prop} {w : World} {ρ : Nat → Value} {hp : Heap} (H : HRel MX w ρ hp) : Step MX w ρ hp w.drew ρ hp :=
  Step.mk' (D := fun _ => False) H (Off.drew _ _) (fun _ _ h => h.elim) (fun _ hu => ⟨rfl, hu⟩) (fun _ _ h => h) (fun _ => .inl ⟨rfl, rfl, fun _ _ _ h => h⟩) H.sep H.ext (fun _ _ _ => .inl ⟨rfl, fun _ _ h => h⟩)

/-- A new block, and an entry for it. -/
theorem Step.alloc' {MX : Nat → Prop} {w : World} {ρ : Nat → Value} {hp : Heap} (H : HRel MX w ρ hp) {i : Nat} (hu : hp i = .unused) {o : Obj} {h : HE} {v : Value} (hb : blk v = some w.heap.size)
    (ok : ∀ (M : Nat → Prop) (ρ' : Nat → Value) (hp' : Heap), (∀ j, hp j ≠ .unused → ρ' j = ρ j ∧ hp' j ≠ .unused) → ρ' i = v → hp' i = h → (∀ b, b < w.heap.size → M b → Mut MX hp ρ b) → HEok M (w.alloc o) ρ' hp' i h) :
    Step MX w ρ hp (w.alloc o) (upd ρ i v) (upd hp i h) := by
  have old : ∀ j, hp j ≠ .unused → upd ρ i v j = ρ j ∧ upd hp i h j ≠ .unused := by
    intro j hj
    have hne : j ≠ i := fun e => hj (e ▸ hu)
    rw [upd_ne _ _ hne, upd_ne _ _ hne]
    exact ⟨rfl, hj⟩
  have lvi : ∀ j b, live (upd hp i h j) → blk (upd ρ i v j) = some b → (j = i ∧ b = w.heap.size) ∨ (j ≠ i ∧ live (hp j) ∧ blk (ρ j) = some b) := by
    intro j b hl hb'
    by_cases hji : j = i
    · subst hji; rw [upd_same, hb] at hb'; exact .inl ⟨rfl, by injection hb' with e; exact e.symm⟩
    · rw [upd_ne _ _ hji] at hl hb'; exact .inr ⟨hji, hl, hb'⟩
  have ltl : ∀ j b, live (hp j) → blk (ρ j) = some b → b < w.heap.size := by
    intro j b hl hbj
    have := H.ok j
    cases hj : hp j with
    | unused => rw [hj] at hl; exact hl.elim
    | gone => rw [hj] at hl; exact hl.elim
    | frz t l => rw [hj] at hl; exact hl.elim
    | mp t f =>
      rw [hj] at this
      obtain ⟨b', h1, h2⟩ := this
      rw [h1] at hbj
      have : b' = b := by simpa [blk] using hbj
      subst this
      exact h2.lt
    | bld T c =>
      rw [hj] at this
      obtain ⟨g, p, v, h1, h2, _⟩ := this
      rw [h1] at hbj
      have : g = b := by simpa [blk] using hbj
      subst this
      exact (Array.getElem?_eq_some_iff.1 h2).1
    | bts l =>
      rw [hj] at this
      obtain ⟨g, c, h1, _, h2⟩ := this
      rw [h1] at hbj
      have : g = b := by simpa [blk] using hbj
      subst this
      exact h2.lt
    | box cs =>
      rw [hj] at this
      obtain ⟨g, o', C, e, vs, h1, h2, _⟩ := this
      rw [h1] at hbj
      have : g = b := by simpa [blk] using hbj
      subst this
      exact (Array.getElem?_eq_some_iff.1 h2).1
    | row e t l =>
      rw [hj] at this
      obtain ⟨xs, h1, _⟩ := this
      rcases h1.2 with ⟨h2, _⟩ | ⟨g, cap, cur, h2, _, hh, _⟩
      · rw [h2] at hbj; simp [blk] at hbj
      · rw [h2] at hbj
        have : g = b := by simpa [blk] using hbj
        subst this
        exact (Array.getElem?_eq_some_iff.1 hh).1
  refine Step.mk' (D := fun _ => False) H (Off.alloc _ _ _) (fun _ _ hf => hf.elim) old ?_ ?_ ?_ ?_ (fun j cs hj => .inl ⟨upd_ne _ _ (fun e => by rw [e, hu] at hj; cases hj), fun _ _ h => h⟩)
  · rintro b hlt ⟨j, hl, hbj⟩
    rcases lvi j b hl hbj with ⟨_, e⟩ | ⟨_, hl', hb'⟩
    · omega
    · exact ⟨j, hl', hb'⟩
  · intro j
    by_cases hji : j = i
    · subst hji
      refine .inr ?_
      rw [upd_same]
      refine ok _ _ _ old (upd_same _ _ _) (upd_same _ _ _) ?_
      rintro b hlt (hm | ⟨j', hl, hbj⟩)
      · exact .inl hm
      · rcases lvi j' b hl hbj with ⟨_, e⟩ | ⟨_, hl', hb'⟩
        · omega
        · exact .inr ⟨j', hl', hb'⟩
    · exact .inl ⟨upd_ne _ _ hji, upd_ne _ _ hji, fun _ _ _ hf => hf⟩
  · intro j j' b hl hl' hbj hbj'
    rcases lvi j b hl hbj with ⟨rfl, e⟩ | ⟨_, hl1, hb1⟩ <;> rcases lvi j' b hl' hbj' with ⟨rfl, e'⟩ | ⟨_, hl2, hb2⟩
    · rfl
    · have := ltl j' b hl2 hb2; omega
    · have := ltl j b hl1 hb1; omega
    · exact H.sep j j' b hl1 hl2 hb1 hb2
  · intro j b hl hbj hmx
    rcases lvi j b hl hbj with ⟨_, e⟩ | ⟨_, hl', hb'⟩
    · have := H.mx b hmx; omega
    · exact H.ext j b hl' hb' hmx

theorem Step.alloc {MX : Nat → Prop} {w : World} {ρ : Nat → Value} {hp : Heap} (H : HRel MX w ρ hp) {i : Nat} (hu : hp i = .unused) {o : Obj} {h : HE} {v : Value} (hb : blk v = some w.heap.size)
    (ok : ∀ (M : Nat → Prop) (ρ' : Nat → Value) (hp' : Heap), (∀ j, hp j ≠ .unused → ρ' j = ρ j ∧ hp' j ≠ .unused) → ρ' i = v → (∀ b, b < w.heap.size → M b → Mut MX hp ρ b) → HEok M (w.alloc o) ρ' hp' i h) :
    Step MX w ρ hp (w.alloc o) (upd ρ i v) (upd hp i h) :=
  Step.alloc' H hu hb fun M ρ' hp' a b _ c => ok M ρ' hp' a b c

/-- An entry told anew, in the block that was its own (or nothing of it is live any more). -/
theorem Step.write {MX : Nat → Prop} {w w' : World} {ρ : Nat → Value} {hp : Heap} (H : HRel MX w ρ hp) {i : Nat} {h : HE} (hl : live h → live (hp i)) (hnu : h ≠ .unused) (hbx : ∀ cs, hp i = .box cs → ∃ cs', h = .box cs' ∧ cs'.length = cs.length ∧ Inside w w' (ρ i) cs.length) (off : Off (fun b => live (hp i) ∧ blk (ρ i) = some b) w w')
    (ok : ∀ (hp' : Heap), (∀ j, hp j ≠ .unused → ρ j = ρ j ∧ hp' j ≠ .unused) → ∀ M : Nat → Prop, (∀ b, b < w.heap.size → M b → Mut MX hp ρ b) → (live h → M = Mut MX hp ρ) → (¬ live h → ∀ b, M b → ¬ (live (hp i) ∧ blk (ρ i) = some b)) → HEok M w' ρ hp' i h) :
    Step MX w ρ hp w' ρ (upd hp i h) := by
  have old : ∀ j, hp j ≠ .unused → ρ j = ρ j ∧ upd hp i h j ≠ .unused := by
    intro j hj
    by_cases hji : j = i
    · subst hji; rw [upd_same]; exact ⟨rfl, hnu⟩
    · rw [upd_ne _ _ hji]; exact ⟨rfl, hj⟩
  have lvi : ∀ j, live (upd hp i h j) → live (hp j) := by
    intro j hj
    by_cases hji : j = i
    · subst hji; rw [upd_same] at hj; exact hl hj
    · rwa [upd_ne _ _ hji] at hj
  have nwl : ∀ b, Lv (upd hp i h) ρ b → Lv hp ρ b := fun b ⟨j, hj, hb⟩ => ⟨j, lvi j hj, hb⟩
  refine Step.mk' H off (fun b _ hb => ⟨i, hb⟩) old (fun b _ => nwl b) ?_ ?_ ?_ ?_
  case refine_4 =>
    intro j cs hj
    by_cases hji : j = i
    · subst hji
      right
      rw [upd_same]
      exact hbx cs hj
    · exact .inl ⟨upd_ne _ _ hji, fun b hbj ⟨h1, h2⟩ => hji (H.sep j i b (by rw [hj]; trivial) h1 hbj h2)⟩
  · intro j
    by_cases hji : j = i
    · subst hji
      refine .inr ?_
      rw [upd_same]
      refine ok _ old _ (fun b _ hm => hm.imp id (nwl b)) ?_ ?_
      · intro hlive
        funext b
        refine propext ⟨fun hm => hm.imp id (nwl b), fun hm => hm.imp id ?_⟩
        rintro ⟨j', hj', hb'⟩
        refine ⟨j', ?_, hb'⟩
        by_cases e : j' = j
        · subst e; rw [upd_same]; exact hlive
        · rw [upd_ne _ _ e]; exact hj'
      · rintro hnl b (hm | ⟨j', hj', hb'⟩) ⟨h1, h2⟩
        · exact H.ext j b h1 h2 hm
        · have := H.sep j' j b (lvi j' hj') h1 hb' h2
          subst this
          rw [upd_same] at hj'
          exact hnl hj'
    · refine .inl ⟨upd_ne _ _ hji, rfl, fun hlj b hbj ⟨h1, h2⟩ => hji (H.sep j i b hlj h1 hbj h2)⟩
  · intro j j' b h1 h2 h3 h4
    exact H.sep j j' b (lvi j h1) (lvi j' h2) h3 h4
  · intro j b h1 h2
    exact H.ext j b (lvi j h1) h2

theorem HRel.lt {MX : Nat → Prop} {w : World} {ρ : Nat → Value} {hp : Heap} (H : HRel MX w ρ hp) {j b : Nat} (hl : live (hp j)) (hbj : blk (ρ j) = some b) : b < w.heap.size := by
  have := H.ok j
  cases hj : hp j with
  | unused => rw [hj] at hl; exact hl.elim
  | gone => rw [hj] at hl; exact hl.elim
  | frz t l => rw [hj] at hl; exact hl.elim
  | mp t f =>
    rw [hj] at this
    obtain ⟨b', h1, h2⟩ := this
    rw [h1] at hbj
    have : b' = b := by simpa [blk] using hbj
    subst this
    exact h2.lt
  | bld T c =>
    rw [hj] at this
    obtain ⟨g, p, v, h1, h2, _⟩ := this
    rw [h1] at hbj
    have : g = b := by simpa [blk] using hbj
    subst this
    exact (Array.getElem?_eq_some_iff.1 h2).1
  | bts l =>
    rw [hj] at this
    obtain ⟨g, c, h1, _, h2⟩ := this
    rw [h1] at hbj
    have : g = b := by simpa [blk] using hbj
    subst this
    exact h2.lt
  | box cs =>
    rw [hj] at this
    obtain ⟨g, o', C, e, vs, h1, h2, _⟩ := this
    rw [h1] at hbj
    have : g = b := by simpa [blk] using hbj
    subst this
    exact (Array.getElem?_eq_some_iff.1 h2).1
  | row e t l =>
    rw [hj] at this
    obtain ⟨xs, h1, _⟩ := this
    rcases h1.2 with ⟨h2, _⟩ | ⟨g, cap, cur, h2, _, hh, _⟩
    · rw [h2] at hbj; simp [blk] at hbj
    · rw [h2] at hbj
      have : g = b := by simpa [blk] using hbj
      subst this
      exact (Array.getElem?_eq_some_iff.1 hh).1

/-- A row that is one's own reads as its elements. -/
theorem own_reads {M : Nat → Prop} {w : World} {e : TypeId} {t : Ty} {v : Value} {l : List t.den} {xs : List Value} (h : w.ownsRow 0 e t.sz v l.length xs) (he : Els (t.KR M w) l xs) :
    ∃ A c, v = .slice A l.length c ∧ l.length ≤ c ∧ ∀ M' : Nat → Prop, (∀ b, b < w.heap.size → M' b → M b ∧ blk v ≠ some b) → RowR M' w (t.KR M' w) t.sz A l := by
  rcases h.2 with ⟨rfl, hn⟩ | ⟨g, cap, cur, rfl, _, hh, hle, _, hcs, htake⟩
  · refine ⟨none, 0, by rw [hn], by omega, fun M' _ i x hx => ?_⟩
    have : l = [] := List.eq_nil_of_length_eq_zero hn
    subst this
    simp at hx
  · refine ⟨_, cap, rfl, hle, fun M' hM i x hx => ?_⟩
    have hlt : g < w.heap.size := (Array.getElem?_eq_some_iff.1 hh).1
    obtain ⟨cs, h1, h2, h3⟩ := Els.get (fun _ _ hk => KR_len t hk) he i x hx
    refine ⟨g, 0, cs, rfl, fun hm => (hM g hlt hm).2 rfl, h2, KR_step (Off.refl (fun _ => False) w) (fun _ _ hf => hf.elim) (fun b hb hm => (hM b hb hm).1) t h1, fun j u hu => ?_⟩
    have hj : j < t.sz := by
      have := (List.getElem?_eq_some_iff.1 hu).1
      omega
    have hxs := h3 j hj
    rw [hu, ← htake, List.getElem?_take] at hxs
    split at hxs
    · simp only [Nat.zero_add]
      rw [cell_of_row w g _ cur e (0, 0) hh]
      simpa using hxs
    · cases hxs

/-- A row is written no more: it reads as it did. -/
theorem Step.freeze {MX : Nat → Prop} {w : World} {ρ : Nat → Value} {hp : Heap} (H : HRel MX w ρ hp) {i : Nat} {e : TypeId} {t : Ty} {l : List t.den} (hi : hp i = .row e t l) :
    Step MX w ρ hp w ρ (upd hp i (.frz t l)) := by
  refine Step.write H (fun h => h.elim) (by simp) (fun cs h => by rw [hi] at h; cases h) (Off.refl _ _) ?_
  intro hp' _ M hM _ hno
  have hok := H.ok i
  rw [hi] at hok
  obtain ⟨xs, h1, h2⟩ := hok
  obtain ⟨A, c, hv, hle, hr⟩ := own_reads h1 h2
  exact ⟨A, c, hv, hle, hr M fun b hb hm => ⟨hM b hb hm, fun hbe => hno (fun h => h) b hm ⟨by rw [hi]; trivial, hbe⟩⟩⟩

end Go.Proofs.YtmciidoohbmipaaGreatDoor.Abs
namespace Go.Proofs.YtmciidoohbmipaaGreatDoor.Abs
open Go Go.RowKit
set_option linter.unusedVariables false
set_option linter.unusedSectionVars false
set_option linter.unusedSimpArgs false

theorem add_at' (b o n : Nat) : (⟨b, o, none⟩ : Addr).add n = ⟨b, o + n, none⟩ := by
  unfold Addr.add
  split
  · rename_i h; subst h; rfl
  · rfl

section
variable {Rt : Type} {P : Program} {M : Nat → Prop} {w : World} {ρ : Nat → Value} {hp : Heap} {b : Nat} {rs ws : List Nat} {K : AV → Nat → Heap → List Nat → List Nat → Option Rt} {r : Rt}

theorem run_isAgg {T : TypeId} {t : Bool} (h : isAgg P T = some t) : (Go.isAgg T).run P w = .ok t w := by
  unfold isAgg at h
  cases hu : P.underlying T with
  | none => rw [hu] at h; cases h
  | some d =>
    rw [hu] at h
    unfold Go.isAgg
    rw [Sem.run_bind, run_underlying hu w]
    cases d <;> simp_all

theorem run_sizeOf {T n : Nat} (h : sizeAt P T = some n) : (Go.sizeOf T).run P w = .ok n w := by
  unfold sizeAt at h
  cases hi : P.info? T with
  | none => rw [hi] at h; cases h
  | some i =>
    rw [hi] at h
    have : i.size = n := by simpa using h
    subst this
    simp [Go.sizeOf, typeInfo, hi]

theorem shut_sound {agg : Option Bool} {cs : List AV} {vs : List Value} (h : Rs M w ρ hp cs vs) (hk : (shut agg cs).go b hp rs ws K = some r) :
    (agg = some true ∧ K (.agg cs) b hp rs ws = some r) ∨ (agg = some false ∧ ∃ c v, cs = [c] ∧ vs = [v] ∧ R M w ρ hp c v ∧ K c b hp rs ws = some r) := by
  match agg, cs, hk with
  | some true, cs, hk => exact .inl ⟨rfl, hk⟩
  | some false, [c], hk =>
    obtain ⟨v, q, rfl, hr, hq⟩ := h
    cases hq
    exact .inr ⟨rfl, c, v, rfl, rfl, hr, hk⟩
  | some false, [], hk => cases hk
  | some false, _ :: _ :: _, hk => cases hk
  | none, _, hk => cases hk

/-- Reading a variable out of cells. -/
theorem finLoad_sound {T : TypeId} {cs : List AV} {vs : List Value} {g o off : Nat} (h : Rs M w ρ hp cs vs) (hc : ∀ (j : Nat) (v : Value), vs[j]? = some v → w.cell? ⟨g, o + j, none⟩ = some v)
    (hk : (finLoad P T cs off).go b hp rs ws K = some r) : ∃ x v, K x b hp rs ws = some r ∧ (loadVar T ⟨g, o + off, none⟩).run P w = .ok v w ∧ R M w ρ hp x v := by
  unfold finLoad at hk
  split at hk
  · cases hk
  rename_i n hn
  split at hk
  case h_2 => cases hk
  rename_i hle
  have hle : off + n ≤ cs.length := Nat.le_of_ble_eq_true hle
  have hl := Rs_len h
  have h' := Rs_take (Rs_drop h off) n
  have hc' : ∀ (j : Nat) (v : Value), ((vs.drop off).take n)[j]? = some v → w.cell? ((⟨g, o + off, none⟩ : Addr).add j) = some v := by
    intro j v hv
    rw [add_at', Nat.add_assoc]
    rw [List.getElem?_take] at hv
    split at hv
    · exact hc _ _ (by simpa using hv)
    · cases hv
  rcases shut_sound h' hk with ⟨ha, hK⟩ | ⟨ha, c, v, e1, e2, hr, hK⟩
  · refine ⟨_, .agg ((vs.drop off).take n).toArray, hK, ?_, _, rfl, h'⟩
    have hlen : ((vs.drop off).take n).length = n := by simp; omega
    have := run_loadCells_list (P := P) w ⟨g, o + off, none⟩ _ hc'
    rw [hlen] at this
    simp [loadVar, run_isAgg ha, run_sizeOf hn, this]
  · refine ⟨c, v, hK, ?_, hr⟩
    have := hc' 0 v (by rw [e2]; rfl)
    rw [add_at', Nat.add_zero] at this
    simp [loadVar, run_isAgg ha, this]

mutual
theorem R_cells' {t : Ty} {x : t.den} {vs : List Value} (hx : t.KR M w x vs) : Rs M w ρ hp (t.cells x) vs := by
  cases t with
  | int k => rw [show vs = [.int k x] from hx]; exact ⟨_, _, rfl, rfl, rfl⟩
  | bool => rw [show vs = [.bool x] from hx]; exact ⟨_, _, rfl, rfl, rfl⟩
  | str => rw [show vs = [.string x] from hx]; exact ⟨_, _, rfl, rfl, rfl⟩
  | sl t =>
    obtain ⟨A, c, rfl, hl, hr⟩ := hx
    exact ⟨_, _, rfl, ⟨A, c, rfl, hl, hr⟩, rfl⟩
  | pair a b =>
    obtain ⟨c0, c1, rfl, h0, h1⟩ := hx
    exact Rs_append (R_cells' h0) (R_cells' h1)
end

/-- The element of a row that is one's own, its cells in memory. -/
theorem own_elem {e : TypeId} {t : Ty} {l : List t.den} {v : Value} {xs : List Value} (h : w.ownsRow 0 e t.sz v l.length xs) (he : Els (t.KR M w) l xs) {g n c : Nat} (hv : v = .slice (some ⟨g, 0, none⟩) n c) {j : Nat} (hj : j < n) :
    ∃ vs, t.KR M w (l.getD j t.zero) vs ∧ j < l.length ∧ ∀ (q : Nat) (u : Value), vs[q]? = some u → w.cell? ⟨g, j * t.sz + q, none⟩ = some u := by
  rcases h.2 with ⟨h2, _⟩ | ⟨g', cap, cur, h2, _, hh, hle, _, hcs, htake⟩
  · rw [hv] at h2; cases h2
  · rw [hv] at h2
    injection h2 with e1 e2 e3
    injection e1 with e1
    injection e1 with e1
    subst e1 e2
    obtain ⟨vs, h1, h2, h3⟩ := Els.get (fun _ _ hk => KR_len t hk) he j (l[j]) (List.getElem?_eq_getElem hj)
    refine ⟨vs, by rw [List.getD_eq_getElem?_getD, List.getElem?_eq_getElem hj]; exact h1, hj, fun q u hq => ?_⟩
    have hq' : q < t.sz := by
      have := (List.getElem?_eq_some_iff.1 hq).1
      omega
    have hxs := h3 q hq'
    rw [hq, ← htake, List.getElem?_take] at hxs
    split at hxs
    · rw [cell_of_row w g _ cur e (0, 0) hh]
      simpa using hxs
    · cases hxs

theorem frz_elem {t : Ty} {l : List t.den} {A : Option Addr} (h : RowR M w (t.KR M w) t.sz A l) {g : Nat} (hv : A = some ⟨g, 0, none⟩) {j : Nat} (hj : j < l.length) :
    ∃ vs, t.KR M w (l.getD j t.zero) vs ∧ ∀ (q : Nat) (u : Value), vs[q]? = some u → w.cell? ⟨g, j * t.sz + q, none⟩ = some u := by
  obtain ⟨b, o, cs, hA, _, hl, hk, hc⟩ := h j l[j] (List.getElem?_eq_getElem hj)
  rw [hv] at hA
  injection hA with hA
  injection hA with e1 e2
  subst e1 e2
  refine ⟨cs, by rw [List.getD_eq_getElem?_getD, List.getElem?_eq_getElem hj]; exact hk, fun q u hq => ?_⟩
  have := hc q u hq
  rwa [Nat.zero_add] at this

theorem loadE_sound {MX : Nat → Prop} (H : HRel MX w ρ hp) {T : TypeId} {a : AV} {y : Value} (ha : R (Mut MX hp ρ) w ρ hp a y) (hk : (loadE P T a).go b hp rs ws K = some r) :
    ∃ x v rs', K x b hp rs' ws = some r ∧ (Instr.loadAt T y).run P w = .ok v w ∧ R (Mut MX hp ρ) w ρ hp x v := by
  unfold loadE at hk
  split at hk
  · rename_i i off
    obtain ⟨hu, g, o, he, rfl⟩ := ha
    simp only [Eff.go] at hk
    have hok := H.ok i
    split at hk
    · rename_i cs hi
      rw [hi] at hok
      obtain ⟨g', o', C, e, vs, h1, h2, h3, h4⟩ := hok
      rw [he] at h1
      injection h1 with h1
      injection h1 with h1
      injection h1 with e1 e2
      subst e1 e2
      obtain ⟨x, v, hK, hr, hR⟩ := finLoad_sound (g := g) (o := o) h3 (fun j v hv => by rw [cell_of_row w g _ C e (0, 0) h2]; exact h4 j v hv) hk
      exact ⟨x, v, _, hK, by simpa [Instr.loadAt, Instr.sureAddr] using hr, hR⟩
    · cases hk
  · rename_i t x off
    obtain ⟨g, o, cs, rfl, hb, hkr, hc⟩ := ha
    obtain ⟨x, v, hK, hr, hR⟩ := finLoad_sound (ρ := ρ) (hp := hp) (g := g) (o := o) (R_cells' hkr) hc hk
    exact ⟨x, v, _, hK, by simpa [Instr.loadAt, Instr.sureAddr] using hr, hR⟩
  · rename_i i sz j off
    obtain ⟨hu, g, n, c, he, hj, rfl⟩ := ha
    simp only [Eff.go] at hk
    have hok := H.ok i
    split at hk
    · rename_i e t l hi
      split at hk
      case h_2 => cases hk
      rename_i hsz
      have hsz := Nat.eq_of_beq_eq_true hsz
      subst hsz
      rw [hi] at hok
      obtain ⟨xs, h1, h2⟩ := hok
      obtain ⟨vs, hkr, _, hc⟩ := own_elem h1 h2 he hj
      obtain ⟨x, v, hK, hr, hR⟩ := finLoad_sound (ρ := ρ) (hp := hp) (g := g) (o := j * t.sz) (R_cells' hkr) hc hk
      exact ⟨x, v, _, hK, by simpa [Instr.loadAt, Instr.sureAddr] using hr, hR⟩
    · rename_i t l hi
      split at hk
      case h_2 => cases hk
      rename_i hsz
      have hsz := Nat.eq_of_beq_eq_true hsz
      subst hsz
      rw [hi] at hok
      obtain ⟨A, c', h1, h2, h3⟩ := hok
      rw [he] at h1
      injection h1 with e1 e2 e3
      subst e2
      obtain ⟨vs, hkr, hc⟩ := frz_elem h3 e1.symm hj
      obtain ⟨x, v, hK, hr, hR⟩ := finLoad_sound (ρ := ρ) (hp := hp) (g := g) (o := j * t.sz) (R_cells' hkr) hc hk
      exact ⟨x, v, _, hK, by simpa [Instr.loadAt, Instr.sureAddr] using hr, hR⟩
    · rename_i l hi
      split at hk
      case h_2 => cases hk
      rename_i hsz
      have hsz := Nat.eq_of_beq_eq_true hsz
      subst hsz
      rw [hi] at hok
      obtain ⟨g', c', h1, h2, h3⟩ := hok
      rw [he] at h1
      injection h1 with e1 e2 e3
      injection e1 with e1
      injection e1 with e1
      subst e1 e2
      obtain ⟨x, v, hK, hr, hR⟩ := finLoad_sound (M := Mut MX hp ρ) (ρ := ρ) (hp := hp) (g := g) (o := j * 1) (vs := [.int .u8 (l.getD j 0)]) (show Rs _ _ _ _ [.v (.int .u8 (l.getD j 0))] _ from ⟨_, _, rfl, rfl, rfl⟩) (fun q v hq => by
        cases q with
        | zero =>
          simp at hq
          subst hq
          rw [Nat.mul_one, Nat.add_zero, h3.cell hj]
          simp [List.getD_eq_getElem?_getD]
        | succ q => simp at hq) hk
      exact ⟨x, v, _, hK, by simpa [Instr.loadAt, Instr.sureAddr] using hr, hR⟩
    · cases hk
  · cases hk

theorem fieldOff_some {S f o : Nat} (h : fieldOff P S f = some o) : ∃ (fs : Array Field) (fd : Field) (n : Nat), P.underlying S = some (.struct fs) ∧ fs[f]? = some fd ∧ sizeAt P fd.type = some (n + 1) ∧ fd.offset = o := by
  unfold fieldOff at h
  split at h
  · rename_i fs hu
    split at h
    · rename_i fd hf
      split at h
      · rename_i n hn
        exact ⟨fs, fd, n, hu, hf, hn, by simpa using h⟩
      · cases h
    · cases h
  · cases h

theorem run_fieldAt {S f o : Nat} (h : fieldOff P S f = some o) (g p : Nat) : (Instr.fieldAt S (.pointer (some ⟨g, p, none⟩)) f).run P w = .ok (.pointer (some ⟨g, p + o, none⟩)) w := by
  obtain ⟨fs, fd, n, hu, hf, hs, rfl⟩ := fieldOff_some h
  simp [Instr.fieldAt, run_underlying hu, hf, Instr.sureAddr, fieldPlace, run_sizeOf hs, add_at']

theorem fieldAddrE_sound {S f : Nat} {a : AV} {y : Value} (ha : R M w ρ hp a y) (hk : (fieldAddrE P S a f).go b hp rs ws K = some r) :
    ∃ x v, K x b hp rs ws = some r ∧ (Instr.fieldAt S y f).run P w = .ok v w ∧ R M w ρ hp x v := by
  unfold fieldAddrE at hk
  split at hk
  case h_2 => cases hk
  rename_i o ho
  split at hk
  · obtain ⟨hu, g, p, he, rfl⟩ := ha
    exact ⟨_, _, hk, run_fieldAt ho _ _, hu, g, p, he, by rw [Nat.add_assoc]⟩
  · obtain ⟨g, p, cs, rfl, h⟩ := ha
    exact ⟨_, _, hk, run_fieldAt ho _ _, g, p, cs, by rw [Nat.add_assoc], h⟩
  · obtain ⟨hu, g, n, c, he, hj, rfl⟩ := ha
    exact ⟨_, _, hk, run_fieldAt ho _ _, hu, g, n, c, he, hj, by rw [Nat.add_assoc]⟩
  · cases hk

/-- The cells of a value that is told by its cells. -/
theorem cellsOf_sound {a : AV} {y : Value} {cs : List AV} (ha : R M w ρ hp a y) (hc : cellsOf a = some cs) : ∃ vs, y.cells.toList = vs ∧ Rs M w ρ hp cs vs := by
  refine ⟨_, rfl, ?_⟩
  unfold cellsOf at hc
  split at hc
  · cases hc
    rw [show y = _ from ha]
    exact Rs_vals _
  · cases hc
  · cases hc
    obtain ⟨vs, rfl, h⟩ := ha
    simpa [Value.cells] using h
  · cases hc
  · cases hc
  · rename_i h1 h2 h3 h4 h5
    cases hc
    have : y.cells = #[y] := by
      cases a with
      | v x =>
        rw [show y = x from ha]
        cases x with
        | agg cs => exact absurd rfl (h1 cs)
        | _ => rfl
      | bs ng b => rw [show y = _ from ha]; rfl
      | bp ng p d => rw [show y = _ from ha]; rfl
      | con t l => obtain ⟨A, c, rfl, _⟩ := ha; rfl
      | own i =>
        obtain ⟨_, _, A, n, c, rfl⟩ := ha
        rfl
      | box i off => obtain ⟨_, g, o, _, rfl⟩ := ha; rfl
      | elt t x off => obtain ⟨g, o, cs, rfl, _⟩ := ha; rfl
      | oel i sz j off => obtain ⟨_, g, n, c, _, _, rfl⟩ := ha; rfl
      | mp i => obtain ⟨_, _, b', rfl⟩ := ha; rfl
      | sub i lo => obtain ⟨_, g, n, c, c', A, _, _, rfl, _⟩ := ha; rfl
      | fn f n cs => obtain ⟨vs, rfl, _⟩ := ha; rfl
      | agg cs => exact absurd rfl (h3 cs)
      | tup cs => exact absurd rfl (h4 cs)
      | dead => exact absurd rfl h5
    rw [this]
    exact ⟨y, [], rfl, ha, rfl⟩
end
end Go.Proofs.YtmciidoohbmipaaGreatDoor.Abs
namespace Go.Proofs.YtmciidoohbmipaaGreatDoor.Abs
open Go Go.RowKit
set_option linter.unusedVariables false
set_option linter.unusedSectionVars false
set_option linter.unusedSimpArgs false

section
variable {Rt : Type} {P : Program} {M : Nat → Prop} {w : World} {ρ : Nat → Value} {hp : Heap} {b : Nat} {rs ws : List Nat} {K : AV → Nat → Heap → List Nat → List Nat → Option Rt} {r : Rt}

theorem wrp_eq (k : IntKind) (n : Int) : wrp k n = k.wrap n := by
  cases k <;> simp only [wrp]
  case i64 => rw [IntKind.wrap_i64]; unfold wrap64; rfl
  case u8 => rfl

theorem guardE_some {c : Prop} [Decidable c] {e : Eff AV} (hk : (guardE c e).go b hp rs ws K = some r) : ¬ c ∧ e.go b hp rs ws K = some r := by
  unfold guardE at hk
  simp only [Eff.go] at hk
  split at hk
  · rename_i h _; exact ⟨h, hk⟩
  · cases hk

theorem fdiv_pow (x : Int) (n : Nat) : x.fdiv (2 ^ n) = x / 2 ^ n := Int.fdiv_eq_ediv_of_nonneg x (Int.le_of_lt (Int.pow_pos (by decide)))

theorem intOpE_sound {op : BinOp} {k : IntKind} {x y : Int} {T : TypeId} (hs : op ≠ .shl ∧ op ≠ .shr) (hk : (intOpE op k x y).go b hp rs ws K = some r) :
    ∃ z v, K z b hp rs ws = some r ∧ (binOp op T (.int k x) (.int k y)).run P w = .ok v w ∧ R M w ρ hp z v := by
  cases op <;> simp only [intOpE] at hk
  case add => exact ⟨_, _, hk, by simp [binOp, Op.intArith, wrp_eq], rfl⟩
  case sub => exact ⟨_, _, hk, by simp [binOp, Op.intArith, wrp_eq], rfl⟩
  case mul => exact ⟨_, _, hk, by simp [binOp, Op.intArith, wrp_eq], rfl⟩
  case quo =>
    obtain ⟨h0, hk⟩ := guardE_some hk
    exact ⟨_, _, hk, by simp [binOp, Op.intDiv, h0, wrp_eq], rfl⟩
  case rem =>
    obtain ⟨h0, hk⟩ := guardE_some hk
    exact ⟨_, _, hk, by simp [binOp, Op.intDiv, h0], rfl⟩
  case and => exact ⟨_, _, hk, by simp [binOp, Op.intBits, andA], rfl⟩
  case or => exact ⟨_, _, hk, by simp [binOp, Op.intBits, orA], rfl⟩
  case xor => exact ⟨_, _, hk, by simp [binOp, Op.intBits, xorA], rfl⟩
  case andNot => exact ⟨_, _, hk, by simp [binOp, Op.intBits, andNotA], rfl⟩
  case shl => exact absurd rfl hs.1
  case shr => exact absurd rfl hs.2
  case eql => exact ⟨_, .bool (x == y), hk, by simp [binOp, Op.intCmp], by simp only [R, xorB]; rfl⟩
  case neq => exact ⟨_, .bool (x != y), hk, by simp [binOp, Op.intCmp], by simp only [R, xorB]; rfl⟩
  case lss => exact ⟨_, .bool (decide (x < y)), hk, by simp [binOp, Op.intCmp], by simp only [R, xorB]⟩
  case leq => exact ⟨_, .bool (decide (x ≤ y)), hk, by simp [binOp, Op.intCmp], by simp only [R, xorB]⟩
  case gtr => exact ⟨_, .bool (decide (x > y)), hk, by simp [binOp, Op.intCmp], by simp only [R, xorB]⟩
  case geq => exact ⟨_, .bool (decide (x ≥ y)), hk, by simp [binOp, Op.intCmp], by simp only [R, xorB]⟩

theorem strOpE_sound {op : BinOp} {x y : ByteArray} {T : TypeId} (hk : (strOpE op x y).go b hp rs ws K = some r) :
    ∃ z v, K z b hp rs ws = some r ∧ (binOp op T (.string x) (.string y)).run P w = .ok v w ∧ R M w ρ hp z v := by
  cases op <;> simp only [strOpE] at hk <;> try (cases hk; done)
  case add =>
    simp only [Eff.go] at hk
    split at hk
    · rename_i h
      have h' : ¬ ((x.size + y.size : Nat) : Int) > IntKind.i64.max := by simp [IntKind.max, IntKind.signed, IntKind.bits]; omega
      exact ⟨_, _, hk, by simp only [binOp, Op.stringOp, if_neg h', Sem.run_pure], rfl⟩
    · cases hk
  case eql => exact ⟨_, .bool (x.toList == y.toList), hk, by simp [binOp, Op.stringOp], by simp only [R, xorB]; rw [Value.bool.injEq, Bool.eq_iff_iff]; simp⟩
  case neq => exact ⟨_, .bool (!(x.toList == y.toList)), hk, by simp [binOp, Op.stringOp], by simp only [R, xorB]; rw [Value.bool.injEq, Bool.eq_iff_iff]; simp⟩

theorem boolOf_sound {a : AV} {y : Value} {t : Bool} (ha : R M w ρ hp a y) (h : boolOf a = some t) : y = .bool t := by
  unfold boolOf at h
  split at h
  · cases h; exact ha
  · cases h; exact ha
  · cases h; exact ha
  · cases h; exact ha
  · cases h; exact ha
  · cases h

@[simp] theorem run_eqGuard_int {op : BinOp} {T : TypeId} {ox oy : Operand} {k k' : IntKind} {x y : Int} : (eqGuard op T ox oy (.int k x) (.int k' y)).run P w = .ok () w := by
  unfold eqGuard; cases op <;> rfl
@[simp] theorem run_eqGuard_str {op : BinOp} {T : TypeId} {ox oy : Operand} {x y : ByteArray} : (eqGuard op T ox oy (.string x) (.string y)).run P w = .ok () w := by
  unfold eqGuard; cases op <;> rfl
@[simp] theorem run_eqGuard_bool {op : BinOp} {T : TypeId} {ox oy : Operand} {x y : Bool} : (eqGuard op T ox oy (.bool x) (.bool y)).run P w = .ok () w := by
  unfold eqGuard; cases op <;> rfl

theorem eqOne_sound {T : TypeId} {x y : AV} {vx vy : Value} {a : DP} (hx : R M w ρ hp x vx) (hy : R M w ρ hp y vy) (h : eqOne P T x y = some a) :
    (∀ d, (Op.equalIn (d + 1) T vx vy).run P w = .ok (@decide a.p a.d) w) ∧ ∀ (xs : Array Value) off v, xs[off]? = some v → (part T xs off).run P w = .ok v w := by
  unfold eqOne at h
  split at h
  · rename_i k0 hu
    split at h
    case h_2 => cases h
    rename_i k n k' m
    split at h
    case h_2 => cases h
    rename_i hk _
    subst hk
    injection h with h
    subst h
    rw [show vx = _ from hx, show vy = _ from hy]
    refine ⟨fun d => ?_, fun xs off v hv => by simp [part, Go.isAgg, run_underlying hu, hv]⟩
    rw [run_equalIn_int w d T k k0 n m hu]
    congr 1
  · rename_i hu
    split at h
    case h_2 => cases h
    injection h with h
    subst h
    rw [show vx = _ from hx, show vy = _ from hy]
    refine ⟨fun d => ?_, fun xs off v hv => by simp [part, Go.isAgg, run_underlying hu, hv]⟩
    rw [run_equalIn_string w d T _ _ hu]
    congr 1
    exact Bool.eq_iff_iff.2 (by simp)
  · rename_i hu
    split at h
    case h_2 => cases h
    rename_i t u ht hu'
    injection h with h
    subst h
    rw [boolOf_sound hx ht, boolOf_sound hy hu']
    refine ⟨fun d => ?_, fun xs off v hv => by simp [part, Go.isAgg, run_underlying hu, hv]⟩
    rw [run_equalIn_bool' w d T t u hu]
    congr 1
  · cases h

theorem eqFieldsA_sound {xs ys : List AV} {vxs vys : List Value} (hx : Rs M w ρ hp xs vxs) (hy : Rs M w ρ hp ys vys) (d : Nat) : (fs : List Field) → {a : DP} → eqFieldsA P xs ys fs = some a →
    (Op.eqFields (d + 1) vxs.toArray vys.toArray fs).run P w = .ok (@decide a.p a.d) w
  | [], a, h => by cases h
  | f :: fs, a, h => by
    unfold eqFieldsA at h
    split at h
    case h_1 => cases h
    rename_i hn _
    split at h
    case h_2 => cases h
    rename_i x y hgx hgy
    split at h
    case h_2 => cases h
    rename_i a1 h1
    obtain ⟨v, hv, hrv⟩ := Rs_get hx _ _ hgx
    obtain ⟨u, hu, hru⟩ := Rs_get hy _ _ hgy
    obtain ⟨e1, e2⟩ := eqOne_sound hrv hru h1
    have p1 := e2 vxs.toArray f.offset v (by simpa using hv)
    have p2 := e2 vys.toArray f.offset u (by simpa using hu)
    simp only [Op.eqFields, if_pos hn, Sem.run_bind, p1, p2, e1, Result.andThen_ok]
    split at h
    · injection h with h
      subst h
      cases hb : @decide a1.p a1.d <;> simp [Op.eqFields]
    · rename_i f2 fs2
      split at h
      case h_2 => cases h
      rename_i b h2
      injection h with h
      subst h
      have ih := eqFieldsA_sound hx hy d _ h2
      cases hb : @decide a1.p a1.d with
      | false =>
        have hna : ¬ a1.p := @of_decide_eq_false _ a1.d hb
        simp only [Bool.not_false, if_true, Sem.run_pure]
        congr 1
        exact (@decide_eq_false (a1.p ∧ b.p) (@instDecidableAnd _ _ a1.d b.d) (fun h => hna h.1)).symm
      | true =>
        have hya : a1.p := @of_decide_eq_true _ a1.d hb
        simp only [Bool.not_true, Bool.false_eq_true, if_false]
        rw [ih]
        congr 1
        cases hc : @decide b.p b.d with
        | false => exact (@decide_eq_false (a1.p ∧ b.p) (@instDecidableAnd _ _ a1.d b.d) (fun h => @of_decide_eq_false _ b.d hc h.2)).symm
        | true => exact (@decide_eq_true (a1.p ∧ b.p) (@instDecidableAnd _ _ a1.d b.d) ⟨hya, @of_decide_eq_true _ b.d hc⟩).symm

theorem eqAggE_sound {op : BinOp} {T : TypeId} {x y : AV} {vx vy : Value} (hx : R M w ρ hp x vx) (hy : R M w ρ hp y vy) (hk : (eqAggE P op T x y).go b hp rs ws K = some r) :
    ∃ z v, K z b hp rs ws = some r ∧ (∀ ox oy, (do eqGuard op T ox oy vx vy; binOp op T vx vy : Sem Value).run P w = .ok v w) ∧ R M w ρ hp z v := by
  unfold eqAggE at hk
  split at hk
  case h_2 => cases hk
  obtain ⟨vxs, rfl, hxs⟩ := hx
  obtain ⟨vys, rfl, hys⟩ := hy
  split at hk
  case h_2 => cases hk
  rename_i fs hu
  split at hk
  case h_2 => cases hk
  rename_i a h1 h2 h3
  have hf : P.fieldsOf T = fs := by simp [Program.fieldsOf, hu]
  have hq : (Op.equalIn 10000 T (.agg vxs.toArray) (.agg vys.toArray)).run P w = .ok (@decide a.p a.d) w := by
    rw [run_equalIn_agg w 9999 T _ _ (by rw [hf]; exact hu) h1, hf]
    exact eqFieldsA_sound hxs hys 9998 fs.toList h3
  split at hk
  · exact ⟨_, .bool (@decide a.p a.d), hk, fun ox oy => by simp only [Sem.run_bind, run_eqGuard_agg w _ T ox oy _ _ h2, Result.andThen_ok, run_eql_struct, hq], by simp only [R, xorB]⟩
  · exact ⟨_, .bool (!(@decide a.p a.d)), hk, fun ox oy => by simp only [Sem.run_bind, run_eqGuard_agg w _ T ox oy _ _ h2, Result.andThen_ok, run_neq_struct, hq], by simp only [R, xorB]⟩
  · cases hk

theorem binE_sound {op : BinOp} {T : TypeId} {x y : AV} {vx vy : Value} (hx : R M w ρ hp x vx) (hy : R M w ρ hp y vy) (hk : (binE P op T x y).go b hp rs ws K = some r) :
    ∃ z v, K z b hp rs ws = some r ∧ (∀ ox oy, (do eqGuard op T ox oy vx vy; binOp op T vx vy : Sem Value).run P w = .ok v w) ∧ R M w ρ hp z v := by
  unfold binE at hk
  split at hk
  · rw [show vx = _ from hx, show vy = _ from hy]
    obtain ⟨h0, hk⟩ := guardE_some hk
    exact ⟨_, _, hk, fun ox oy => by simp [binOp, Op.shift, shlA, h0], rfl⟩
  · rw [show vx = _ from hx, show vy = _ from hy]
    obtain ⟨h0, hk⟩ := guardE_some hk
    exact ⟨_, _, hk, fun ox oy => by simp [binOp, Op.shift, shrA, h0, fdiv_pow], rfl⟩
  · rename_i op k a k' b' h1 h2
    rw [show vx = _ from hx, show vy = _ from hy]
    split at hk
    case h_2 => cases hk
    rename_i hkk _
    subst hkk
    obtain ⟨z, v, hK, hr, hR⟩ := intOpE_sound (P := P) (M := M) (w := w) (ρ := ρ) (hp := hp) (T := T) ⟨h1, h2⟩ hk
    exact ⟨z, v, hK, fun ox oy => by simp [hr], hR⟩
  · rw [show vx = _ from hx, show vy = _ from hy]
    obtain ⟨z, v, hK, hr, hR⟩ := strOpE_sound (P := P) (M := M) (w := w) (ρ := ρ) (hp := hp) (T := T) hk
    exact ⟨z, v, hK, fun ox oy => by simp [hr], hR⟩
  · split at hk
    case h_2 => exact eqAggE_sound hx hy hk
    rename_i a b' ha hb
    rw [boolOf_sound hx ha, boolOf_sound hy hb]
    split at hk
    case h_2 => cases hk
    rename_i hu
    split at hk
    · exact ⟨_, .bool (a == b'), hk, fun ox oy => by simp [run_eql_bool w T a b' hu], by simp only [R, xorB]; cases a <;> cases b' <;> rfl⟩
    · exact ⟨_, .bool (!(a == b')), hk, fun ox oy => by simp [run_neq_bool w T a b' hu], by simp only [R, xorB]; cases a <;> cases b' <;> rfl⟩
    · cases hk

theorem unE_sound {op : UnOp} {x : AV} {vx : Value} (hx : R M w ρ hp x vx) (hk : (unE op x).go b hp rs ws K = some r) :
    ∃ z v, K z b hp rs ws = some r ∧ (Op.unary op vx).run P w = .ok v w ∧ R M w ρ hp z v := by
  unfold unE at hk
  split at hk
  · rw [show vx = _ from hx]; exact ⟨_, _, hk, by simp [Op.unary, Op.intArith, wrp_eq], rfl⟩
  · rw [show vx = _ from hx]; exact ⟨_, _, hk, by simp [Op.unary, Op.intBits, xorA], rfl⟩
  · rw [show vx = _ from hx]; exact ⟨_, _, hk, by simp [Op.unary], rfl⟩
  · rename_i ng t
    rw [show vx = _ from hx]; exact ⟨_, .bool (!xorB ng t), hk, by simp [Op.unary], by cases ng <;> simp [R, xorB]⟩
  · rename_i ng p d
    rw [show vx = _ from hx]; exact ⟨_, .bool (!xorB ng (decide p)), hk, by simp [Op.unary], by cases ng <;> simp [R, xorB]⟩
  · cases hk

theorem indexE_sound {T : TypeId} {x i : AV} {vx vi : Value} (hx : R M w ρ hp x vx) (hi : R M w ρ hp i vi) (hk : (indexE P T x i).go b hp rs ws K = some r) :
    ∃ z v, K z b hp rs ws = some r ∧ (Instr.index T vx vi).run P w = .ok v w ∧ R M w ρ hp z v := by
  unfold indexE at hk
  split at hk
  case h_2 => cases hk
  rename_i s k n hu
  rw [show vx = _ from hx, show vi = _ from hi]
  simp only [Eff.go] at hk
  split at hk
  case isFalse => cases hk
  rename_i h0
  split at hk
  case isFalse => cases hk
  rename_i h1
  have h2 : ∀ (s : ByteArray) (n : Int), 0 ≤ n → n < (s.size : Int) → n.toNat < s.size := fun s n _ _ => by omega
  refine ⟨_, _, hk, by rw [run_index_string _ _ _ _ _ hu, dif_pos ⟨h0, h1⟩], ?_⟩
  simp only [R, byteAt]
  rw [dif_pos (h2 _ _ h0 h1)]

theorem run_indexAt {T e : TypeId} {s : Nat} (hu : P.underlying T = some (.slice e)) (hs : sizeAt P e = some s) {g o n c : Nat} {k : IntKind} {i : Int} (h0 : 0 ≤ i) (h1 : i < (n : Int)) :
    (Instr.indexAt T (.slice (some ⟨g, o, none⟩) n c) (.int k i)).run P w = .ok (.pointer (some ⟨g, o + i.toNat * s, none⟩)) w := by
  simp [Instr.indexAt, asIntOf, run_underlying hu, h0, h1, run_sizeOf hs, add_at']

theorem con_elem {t : Ty} {l : List t.den} {A : Option Addr} (h : RowR M w (t.KR M w) t.sz A l) {j : Nat} (hj : j < l.length) :
    ∃ g o vs, A = some ⟨g, o, none⟩ ∧ ¬ M g ∧ t.KR M w (l.getD j t.zero) vs ∧ ∀ (q : Nat) (u : Value), vs[q]? = some u → w.cell? ⟨g, o + j * t.sz + q, none⟩ = some u := by
  obtain ⟨b, o, cs, hA, hb, hl, hk, hc⟩ := h j l[j] (List.getElem?_eq_getElem hj)
  refine ⟨b, o, cs, hA, hb, by rw [List.getD_eq_getElem?_getD, List.getElem?_eq_getElem hj]; exact hk, fun q u hq => ?_⟩
  rw [Nat.add_assoc]
  exact hc q u hq

theorem indexAddrE_sound {MX : Nat → Prop} (H : HRel MX w ρ hp) {T : TypeId} {x i : AV} {vx vi : Value} (hx : R (Mut MX hp ρ) w ρ hp x vx) (hi : R (Mut MX hp ρ) w ρ hp i vi) (hk : (indexAddrE P T x i).go b hp rs ws K = some r) :
    ∃ z v rs', K z b hp rs' ws = some r ∧ (Instr.indexAt T vx vi).run P w = .ok v w ∧ R (Mut MX hp ρ) w ρ hp z v := by
  unfold indexAddrE at hk
  split at hk
  case h_2 => cases hk
  rename_i e k n hu
  rw [show vi = _ from hi]
  split at hk
  · rename_i s t l hs
    split at hk
    case h_2 => cases hk
    rename_i hsz
    have hsz := Nat.eq_of_beq_eq_true hsz
    subst hsz
    simp only [Eff.go] at hk
    split at hk
    case isFalse => cases hk
    rename_i h0
    split at hk
    case isFalse => cases hk
    rename_i h1
    obtain ⟨A, c, rfl, hle, hr⟩ := hx
    obtain ⟨g, o, vs, rfl, hg, hkr, hc⟩ := con_elem hr (j := n.toNat) (by omega)
    exact ⟨_, _, _, hk, run_indexAt hu hs h0 h1, g, o + n.toNat * t.sz, vs, rfl, hg, hkr, hc⟩
  · rename_i s q hs
    simp only [Eff.go] at hk
    obtain ⟨hne, rfl, A, m, c, hv⟩ := hx
    have hok := H.ok q
    split at hk
    · rename_i e' t l hq
      rw [hq] at hok
      obtain ⟨xs, h1, h2⟩ := hok
      split at hk
      case h_2 => cases hk
      rename_i hsz
      have hsz := Nat.eq_of_beq_eq_true hsz
      subst hsz
      simp only [Eff.go] at hk
      split at hk
      case isFalse => cases hk
      rename_i h0
      split at hk
      case isFalse => cases hk
      rename_i hlt
      rcases h1.2 with ⟨h3, h4⟩ | ⟨g, cap, cur, h3, _⟩
      · omega
      · rw [h3]
        exact ⟨_, _, _, hk, run_indexAt hu hs h0 hlt, hne, g, l.length, cap, h3, by omega, by rw [Nat.zero_add, Nat.add_zero]⟩
    · rename_i t l hq
      rw [hq] at hok
      obtain ⟨A', c', h1, hle, hr⟩ := hok
      split at hk
      case h_2 => cases hk
      rename_i hsz
      have hsz := Nat.eq_of_beq_eq_true hsz
      subst hsz
      simp only [Eff.go] at hk
      split at hk
      case isFalse => cases hk
      rename_i h0
      split at hk
      case isFalse => cases hk
      rename_i hlt
      rw [h1]
      obtain ⟨g, o, vs, rfl, hg, hkr, hc⟩ := con_elem hr (j := n.toNat) (by omega)
      exact ⟨_, _, _, hk, run_indexAt hu hs h0 hlt, g, o + n.toNat * t.sz, vs, rfl, hg, hkr, hc⟩
    · rename_i l hq
      rw [hq] at hok
      obtain ⟨g', c', h1, h2, h3⟩ := hok
      split at hk
      case h_2 => cases hk
      rename_i hsz
      have hsz := Nat.eq_of_beq_eq_true hsz
      subst hsz
      simp only [Eff.go] at hk
      split at hk
      case isFalse => cases hk
      rename_i h0
      split at hk
      case isFalse => cases hk
      rename_i hlt
      rw [h1]
      exact ⟨_, _, _, hk, run_indexAt hu hs h0 hlt, hne, g', l.length, c', h1, by omega, by rw [Nat.zero_add, Nat.add_zero]⟩
    · cases hk
  · cases hk

theorem run_len_sl (w : World) {T e : TypeId} {ty : TypeId} (hu : P.underlying T = some (.slice e)) (a : Option Addr) (n c : Nat) : (Builtin.len_ #[T] ty #[.slice a n c]).run P w = .ok (goInt n) w := by
  simp [Builtin.len_, run_underlying hu]
theorem run_len_str (w : World) {T ty : TypeId} (hu : P.underlying T = some .string) (s : ByteArray) : (Builtin.len_ #[T] ty #[.string s]).run P w = .ok (goInt s.size) w := by
  simp [Builtin.len_, run_underlying hu]
end
end Go.Proofs.YtmciidoohbmipaaGreatDoor.Abs
namespace Go.Proofs.YtmciidoohbmipaaGreatDoor.Abs
open Go Go.RowKit
set_option linter.unusedVariables false
set_option linter.unusedSectionVars false
set_option linter.unusedSimpArgs false

theorem Eff.bind_assoc {α β γ : Type} : (e : Eff α) → (f : α → Eff β) → (g : β → Eff γ) → (e.bind f).bind g = e.bind fun x => (f x).bind g
  | .ret _, _, _ => rfl
  | .fail, _, _ => rfl
  | .rd i k, f, g => by simp only [Eff.bind]; congr 1; funext h; exact Eff.bind_assoc (k h) f g
  | .wr i h k, f, g => by simp only [Eff.bind]; congr 1; exact Eff.bind_assoc k f g
  | .nw h k, f, g => by simp only [Eff.bind]; congr 1; funext i; exact Eff.bind_assoc (k i) f g
  | .br c d t e, f, g => by simp only [Eff.bind]; congr 1 <;> exact Eff.bind_assoc _ f g
  | .gd c d e, f, g => by simp only [Eff.bind]; congr 1; exact Eff.bind_assoc _ f g
  | .opt X o k, f, g => by simp only [Eff.bind]; congr 1; funext x; exact Eff.bind_assoc (k x) f g

section
variable {Rt : Type} {P : Program} {MX : Nat → Prop} {w : World} {ρ : Nat → Value} {hp : Heap} {b : Nat} {rs ws : List Nat} {K : AV → Nat → Heap → List Nat → List Nat → Option Rt} {r : Rt}

theorem isCell_one {M : Nat → Prop} {a : AV} {y : Value} (h : isCell a = true) (ha : R M w ρ hp a y) : y.oneCell' = true := by
  cases a with
  | v x =>
    rw [show y = x from ha]
    cases x <;> simp_all [isCell, Value.oneCell']
  | bs ng t => rw [show y = _ from ha]; rfl
  | bp ng p d => rw [show y = _ from ha]; rfl
  | con t l => obtain ⟨A, c, rfl, _⟩ := ha; rfl
  | own i => obtain ⟨_, _, A, n, c, rfl⟩ := ha; rfl
  | box i off => obtain ⟨_, g, o, _, rfl⟩ := ha; rfl
  | elt t x off => obtain ⟨g, o, cs, rfl, _⟩ := ha; rfl
  | oel i sz j off => obtain ⟨_, g, n, c, _, _, rfl⟩ := ha; rfl
  | mp i => obtain ⟨_, _, b', rfl⟩ := ha; rfl
  | sub i lo => obtain ⟨_, g, n, c, c', A, _, _, rfl, _⟩ := ha; rfl
  | fn f n cs => obtain ⟨vs, rfl, _⟩ := ha; rfl
  | agg cs => cases h
  | tup cs => cases h
  | dead => cases h

theorem isCells_one {M : Nat → Prop} : {as : List AV} → {vs : List Value} → as.all isCell = true → Rs M w ρ hp as vs → ∀ u ∈ vs, u.oneCell' = true
  | [], _, _, h, u, hu => by cases h; cases hu
  | a :: as, _, hc, ⟨v, r, e, h0, h1⟩, u, hu => by
    simp only [List.all_cons, Bool.and_eq_true] at hc
    rw [e] at hu
    rcases List.mem_cons.1 hu with hu | hu
    · rw [hu]; exact isCell_one hc.1 h0
    · exact isCells_one hc.2 h1 u hu

/-- A new box. -/
theorem nw_box (H : HRel MX w ρ hp) {cs : List AV} {vs : List Value} {T : TypeId} (hr : Rs (Mut MX hp ρ) w ρ hp cs vs) (hk : (Eff.nw (.box cs) fun i => .ret (.box i 0)).go b hp rs ws K = some r) :
    ∃ x b' hp' rs' ws' ρ', K x b' hp' rs' ws' = some r ∧ Step MX w ρ hp (w.alloc (.cells vs.toArray T)) ρ' hp' ∧ R (Mut MX hp' ρ') (w.alloc (.cells vs.toArray T)) ρ' hp' x (.pointer (some ⟨w.heap.size, 0, none⟩)) := by
  simp only [Eff.go] at hk
  split at hk
  case h_2 => cases hk
  rename_i hu
  refine ⟨_, _, _, _, _, upd ρ b (.pointer (some ⟨w.heap.size, 0, none⟩)), hk, Step.alloc H hu rfl ?_, ?_⟩
  · intro M ρ' hp' old hv hM
    exact ⟨w.heap.size, 0, vs.toArray, T, vs, hv, heap_alloc_new w _, Rs_step (D := fun _ => False) (Off.alloc _ _ _) (fun _ _ h => h.elim) hM old cs hr, fun j v hj => by simpa using hj⟩
  · exact ⟨by rw [upd_same]; simp, w.heap.size, 0, by rw [upd_same], rfl⟩

/-- A new box whose first cell is a pointer to itself, or none. -/
theorem nw_bld (H : HRel MX w ρ hp) {c : AV} {vs : List Value} {T : TypeId} (hr : Rs (Mut MX hp ρ) w ρ hp [.v (.pointer none), c] vs) (hk : (Eff.nw (.bld T c) fun i => .ret (.box i 0)).go b hp rs ws K = some r) :
    ∃ x b' hp' rs' ws' ρ', K x b' hp' rs' ws' = some r ∧ Step MX w ρ hp (w.alloc (.cells vs.toArray T)) ρ' hp' ∧ R (Mut MX hp' ρ') (w.alloc (.cells vs.toArray T)) ρ' hp' x (.pointer (some ⟨w.heap.size, 0, none⟩)) := by
  simp only [Eff.go] at hk
  split at hk
  case h_2 => cases hk
  rename_i hu
  obtain ⟨v0, q0, rfl, h0, h1⟩ := hr
  obtain ⟨v1, q1, rfl, h1, h2⟩ := h1
  obtain rfl : q1 = [] := h2
  obtain rfl : v0 = .pointer none := h0
  refine ⟨_, _, _, _, _, upd ρ b (.pointer (some ⟨w.heap.size, 0, none⟩)), hk, Step.alloc H hu rfl ?_, ?_⟩
  · intro M ρ' hp' old hv hM
    exact ⟨w.heap.size, .pointer none, v1, hv, heap_alloc_new w _, .inl rfl, R_step (D := fun _ => False) (Off.alloc _ _ _) (fun _ _ h => h.elim) hM old c h1⟩
  · exact ⟨by rw [upd_same]; simp, w.heap.size, 0, by rw [upd_same], rfl⟩

theorem zeroCellsAt_some {T : TypeId} {cs : List AV} (h : zeroCellsAt P T = some cs) : ∃ i z, P.info? T = some i ∧ i.zero = some z ∧ ∀ (M : Nat → Prop) (w : World) (ρ : Nat → Value) (hp : Heap), Rs M w ρ hp cs z.cells.toList := by
  unfold zeroCellsAt at h
  cases hi : P.info? T with
  | none => rw [hi] at h; cases h
  | some i =>
    rw [hi] at h
    cases hz : i.zero with
    | none => simp [hz] at h
    | some z =>
      simp [hz] at h
      refine ⟨i, z, rfl, hz, fun M w ρ hp => ?_⟩
      obtain ⟨vs, e, hr⟩ := cellsOf_sound (M := M) (w := w) (ρ := ρ) (hp := hp) (a := .v z) (y := z) rfl h
      rw [e]; exact hr

theorem allocE_sound (H : HRel MX w ρ hp) {T : TypeId} (hk : (allocE P T).go b hp rs ws K = some r) :
    ∃ x b' hp' rs' ws' v w' ρ', K x b' hp' rs' ws' = some r ∧ (Instr.alloc T true (.tuple #[])).run P w = .ok v w' ∧ Step MX w ρ hp w' ρ' hp' ∧ R (Mut MX hp' ρ') w' ρ' hp' x v := by
  unfold allocE at hk
  split at hk
  case h_2 => cases hk
  rename_i cs hz0
  obtain ⟨i, z, hi, hz, hr⟩ := zeroCellsAt_some hz0
  split at hk
  case h_2 => cases hk
  case h_1 =>
    rename_i c _ _
    obtain ⟨x, b', hp', rs', ws', ρ', hK, hs, hR⟩ := nw_bld (T := T) H (hr _ _ _ _) hk
    refine ⟨x, b', hp', rs', ws', _, _, ρ', hK, ?_, hs, hR⟩
    simp [Instr.alloc, zeroValue, typeInfo, hi, hz, newVar, newRow]
  obtain ⟨x, b', hp', rs', ws', ρ', hK, hs, hR⟩ := nw_box (T := T) H (hr _ _ _ _) hk
  refine ⟨x, b', hp', rs', ws', _, _, ρ', hK, ?_, hs, hR⟩
  simp [Instr.alloc, zeroValue, typeInfo, hi, hz, newVar, newRow]

theorem boxE_sound (H : HRel MX w ρ hp) {T : TypeId} {x : AV} {y : Value} (hx : R (Mut MX hp ρ) w ρ hp x y) (hk : (boxE x).go b hp rs ws K = some r) :
    ∃ x b' hp' rs' ws' v w' ρ', K x b' hp' rs' ws' = some r ∧ (Instr.box T y).run P w = .ok v w' ∧ Step MX w ρ hp w' ρ' hp' ∧ R (Mut MX hp' ρ') w' ρ' hp' x v := by
  unfold boxE at hk
  split at hk
  case h_2 => cases hk
  rename_i cs hc
  split at hk
  case h_2 => cases hk
  obtain ⟨vs, e, hr⟩ := cellsOf_sound hx hc
  obtain ⟨x, b', hp', rs', ws', ρ', hK, hs, hR⟩ := nw_box (T := T) H hr hk
  refine ⟨x, b', hp', rs', ws', _, _, ρ', hK, ?_, hs, hR⟩
  rw [← e]
  simp [Instr.box, newVar, newRow]

theorem dec_sound {M : Nat → Prop} : (t : Ty) → {cs : List AV} → {x : t.den} → {vs : List Value} → t.dec cs = some x → Rs M w ρ hp cs vs → t.KR M w x vs
  | .int k, cs, x, vs, h, hr => by
    unfold Ty.dec at h
    split at h
    case h_2 => cases h
    rename_i k' n
    split at h
    case h_2 => cases h
    rename_i hkk _
    subst hkk
    injection h with h
    obtain ⟨v, r, rfl, hv, hr⟩ := hr
    cases hr
    rw [show v = _ from hv, h]
    rfl
  | .bool, cs, x, vs, h, hr => by
    unfold Ty.dec at h
    split at h
    case h_6 => cases h
    all_goals
      injection h with h
      obtain ⟨v, r, rfl, hv, hr⟩ := hr
      cases hr
      rw [show v = _ from hv, ← h]
      rfl
  | .str, cs, x, vs, h, hr => by
    unfold Ty.dec at h
    split at h
    case h_2 => cases h
    injection h with h
    obtain ⟨v, r, rfl, hv, hr⟩ := hr
    cases hr
    rw [show v = _ from hv, h]
    rfl
  | .sl t, cs, x, vs, h, hr => by
    unfold Ty.dec at h
    split at h
    · rename_i t' l
      split at h
      case h_2 => cases h
      rename_i hkk _
      subst hkk
      injection h with h
      subst h
      obtain ⟨v, r, rfl, hv, hr⟩ := hr
      cases hr
      obtain ⟨A, c, rfl, hl, hrow⟩ := hv
      exact ⟨A, c, rfl, hl, hrow⟩
    · injection h with h
      subst h
      obtain ⟨v, r, rfl, hv, hr⟩ := hr
      cases hr
      rw [show v = _ from hv]
      exact ⟨none, 0, rfl, Nat.le_refl _, fun i x hx => by simp at hx⟩
    · cases h
  | .pair a b, cs, x, vs, h, hr => by
    unfold Ty.dec at h
    split at h
    case h_2 => cases h
    rename_i x0 h0
    split at h
    case h_2 => cases h
    rename_i x1 h1
    injection h with h
    subst h
    exact ⟨vs.take a.sz, vs.drop a.sz, (List.take_append_drop _ _).symm, dec_sound a h0 (Rs_take hr _), dec_sound b h1 (Rs_drop hr _)⟩

/-- Rows that cells lead to are settled. -/
theorem settle_sound {γ : Type} {K : γ → Nat → Heap → List Nat → List Nat → Option Rt} : {cs : List AV} → {vs : List Value} → {f : List AV → Eff γ} → {hp : Heap} → {rs ws : List Nat} → (H : HRel MX w ρ hp) → (hr : Rs (Mut MX hp ρ) w ρ hp cs vs) →
    (hk : ((settle cs).bind f).go b hp rs ws K = some r) → ∃ cs' hp' rs' ws', (f cs').go b hp' rs' ws' K = some r ∧ Step MX w ρ hp w ρ hp' ∧ Rs (Mut MX hp' ρ) w ρ hp' cs' vs ∧ cs'.length = cs.length
  | [], vs, f, hp, rs, ws, H, hr, hk => ⟨[], hp, rs, ws, hk, Step.refl H, hr, rfl⟩
  | c :: cs, vs, f, hp, rs, ws, H, hr, hk => by
    obtain ⟨v, q, rfl, h0, h1⟩ := hr
    by_cases hc : ∃ i, c = .own i
    · obtain ⟨i, rfl⟩ := hc
      simp only [settle, Eff.bind, Eff.go] at hk
      have hok := H.ok i
      split at hk
      · rename_i e t l hi
        simp only [Eff.bind, Eff.go, Eff.bind_assoc] at hk
        have hs := Step.freeze H hi
        obtain ⟨cs', hp', rs', ws', hK, hst, hr', hl⟩ := settle_sound hs.rel (hs.Rs h1) hk
        have hst' := hs.trans hst
        refine ⟨.con t l :: cs', hp', rs', ws', hK, hst', ⟨v, q, rfl, ?_, hr'⟩, by simp [hl]⟩
        obtain ⟨_, rfl, _⟩ := h0
        have hok' := hs.rel.ok i
        rw [upd_same] at hok'
        obtain ⟨A, c, hv, hle, hrow⟩ := hok'
        exact hst.R (a := .con t l) ⟨A, c, hv, hle, hrow⟩
      · rename_i t l hi
        simp only [Eff.bind, Eff.bind_assoc] at hk
        obtain ⟨cs', hp', rs', ws', hK, hst, hr', hl⟩ := settle_sound H h1 hk
        refine ⟨.con t l :: cs', hp', rs', ws', hK, hst, ⟨v, q, rfl, ?_, hr'⟩, by simp [hl]⟩
        obtain ⟨_, rfl, _⟩ := h0
        rw [hi] at hok
        obtain ⟨A, c, hv, hle, hrow⟩ := hok
        exact hst.R (a := .con t l) ⟨A, c, hv, hle, hrow⟩
      · cases hk
    · have e : settle (c :: cs) = (settle cs).bind fun r => .ret (c :: r) := by
        cases c <;> first | rfl | exact absurd ⟨_, rfl⟩ hc
      rw [e] at hk
      simp only [Eff.bind_assoc, Eff.bind] at hk
      obtain ⟨cs', hp', rs', ws', hK, hst, hr', hl⟩ := settle_sound H h1 hk
      exact ⟨c :: cs', hp', rs', ws', hK, hst, ⟨v, q, rfl, hst.R h0, hr'⟩, by simp [hl]⟩

theorem Rs_splice {M : Nat → Prop} {cs vs : List AV} {us xs : List Value} (h : Rs M w ρ hp cs us) (g : Rs M w ρ hp vs xs) (off : Nat) : Rs M w ρ hp (splice cs off vs) (us.take off ++ xs ++ us.drop (off + xs.length)) := by
  unfold splice
  rw [Rs_len g]
  exact Rs_append (Rs_append (Rs_take h off) g) (Rs_drop h _)

theorem run_storeVar_at {T n : Nat} {y : Value} {us : List Value} (hy : y.cells.toList = us) (hn : sizeAt P T = some n) (hl : us.length = n) {g o : Nat} {C : Array Value} {e : TypeId} (hg : w.heap[g]? = some (.cells C e (0, 0)))
    (hfit : o + n ≤ C.size) (h1 : ∀ u ∈ us, u.oneCell' = true) :
    (Instr.storeAt T (.pointer (some ⟨g, o, none⟩)) y).run P w = .ok () (w.setRow g (C.toList.take o ++ us ++ C.toList.drop (o + n)).toArray) := by
  have hsz : y.cells.size = n := by rw [← hl, ← hy]; simp
  have := run_storeCells_at P g o e us 0 C w hg (by omega) h1
  rw [Nat.add_zero, hl] at this
  simp [Instr.storeAt, Instr.sureAddr, storeVar, run_sizeOf hn, hsz, hy, this]

theorem Off.setRow (w : World) (g : Nat) (cs : Array Value) : Off (fun b => b = g) w (w.setRow g cs) :=
  ⟨rfl, rfl, rfl, by simp, fun b _ hb => setRow_other w g b _ (fun e => hb e)⟩

theorem storeE_sound (H : HRel MX w ρ hp) {T : TypeId} {a x : AV} {va vx : Value} (ha : R (Mut MX hp ρ) w ρ hp a va) (hx : R (Mut MX hp ρ) w ρ hp x vx) (hk : (storeE P T a x).go b hp rs ws K = some r) :
    ∃ b' hp' rs' ws' w' ρ', K (.v undef) b' hp' rs' ws' = some r ∧ (Instr.storeAt T va vx).run P w = .ok () w' ∧ Step MX w ρ hp w' ρ' hp' := by
  unfold storeE at hk
  split at hk
  · cases hk
  rename_i vs hvs
  split at hk
  case h_2 => cases hk
  rename_i n1 hall hn
  obtain ⟨n, hn1⟩ : ∃ n, n = n1 + 1 := ⟨_, rfl⟩
  have hn : sizeAt P T = some n := by rw [hn1]; exact hn
  split at hk
  case h_2 => cases hk
  rename_i hlen
  rw [← hn1] at hlen
  have hlen := Nat.eq_of_beq_eq_true hlen
  obtain ⟨us, hus, hr⟩ := cellsOf_sound hx hvs
  have hul := Rs_len hr
  have hone := isCells_one hall hr
  split at hk
  · rename_i i off
    obtain ⟨hu, g, o, he, rfl⟩ := ha
    simp only [Eff.go] at hk
    have hok := H.ok i
    split at hk
    case h_2 => cases hk
    rename_i cs hi
    split at hk
    case h_2 => cases hk
    rename_i hle
    have hle := Nat.le_of_ble_eq_true hle
    rw [← hn1] at hle
    simp only [Eff.go] at hk
    rw [hi] at hok
    obtain ⟨g', o', C, e, ys, h1, h2, h3, h4⟩ := hok
    rw [he] at h1
    injection h1 with h1
    injection h1 with h1
    injection h1 with e1 e2
    subst e1 e2
    have hyl := Rs_len h3
    have hfit : o + cs.length ≤ C.size := by
      by_cases h0 : cs.length = 0
      · omega
      · obtain ⟨v, hv⟩ : ∃ v, ys[cs.length - 1]? = some v := ⟨_, List.getElem?_eq_getElem (by omega)⟩
        have := (Array.getElem?_eq_some_iff.1 (h4 _ _ hv)).1
        omega
    have hrun := run_storeVar_at (P := P) (T := T) (o := o + off) hus hn (by omega) h2 (by omega) hone
    refine ⟨_, _, _, _, _, ρ, hk, hrun, Step.write H (fun _ => by rw [hi]; trivial) (by simp) ?_ ?_ ?_⟩
    · intro cs0 hcs0
      rw [hi] at hcs0
      injection hcs0 with hcs0
      subst hcs0
      refine ⟨_, rfl, by unfold splice; simp; omega, ?_⟩
      intro g1 o1 e1
      rw [he] at e1
      injection e1 with e1
      injection e1 with e1
      injection e1 with e2 e3
      subst e2 e3
      refine ⟨C, _, e, h2, setRow_heap w g C _ e _ h2, by simp; omega, fun j hj => ?_⟩
      have hsz : C.toList.length = C.size := by simp
      simp only [List.getElem?_toArray]
      rw [List.append_assoc]
      rcases hj with hj | hj
      · rw [List.getElem?_append_left (by simp; omega), List.getElem?_take, if_pos (by omega)]; simp
      · have ht2 : (C.toList.take (o + off)).length = o + off := by simp; omega
        rw [List.getElem?_append_right (by omega), ht2, List.getElem?_append_right (by omega), List.getElem?_drop]
        simp only [Array.getElem?_toList]
        congr 1
        omega
    · refine (Off.setRow _ _ _).mono fun b _ hb => ⟨by rw [hi]; trivial, by rw [he, hb]; rfl⟩
    · intro hp' hp'u M hM hMl _
      have hMe := hMl trivial
      subst hMe
      refine ⟨g, o, _, e, ys.take off ++ us ++ ys.drop (off + us.length), he, setRow_heap w g C _ e _ h2, ?_, ?_⟩
      · have hsp := Rs_splice h3 hr off
        refine Rs_step (D := fun b => b = g) (Off.setRow _ _ _) ?_ (fun _ _ h => h) hp'u _ hsp
        rintro b _ rfl
        exact .inr ⟨i, by rw [hi]; trivial, by rw [he]; rfl⟩
      · intro j v hj
        have hsz : C.toList.length = C.size := by simp
        simp only [List.getElem?_toArray]
        rw [List.append_assoc] at hj ⊢
        by_cases hj1 : j < off
        · rw [List.getElem?_append_left (by simp; omega), List.getElem?_take, if_pos hj1] at hj
          rw [List.getElem?_append_left (by simp; omega), List.getElem?_take, if_pos (by omega)]
          simpa using h4 j v hj
        · rw [List.getElem?_append_right (by simp; omega)] at hj
          rw [List.getElem?_append_right (by simp; omega)]
          have ht : (ys.take off).length = off := by simp; omega
          have ht2 : (C.toList.take (o + off)).length = o + off := by simp; omega
          rw [ht] at hj
          rw [ht2]
          by_cases hj2 : j - off < us.length
          · rw [List.getElem?_append_left hj2] at hj
            rw [List.getElem?_append_left (by omega), show o + j - (o + off) = j - off by omega]
            exact hj
          · rw [List.getElem?_append_right (by omega), List.getElem?_drop] at hj
            rw [List.getElem?_append_right (by omega), List.getElem?_drop]
            have := h4 _ v hj
            simp only [Array.getElem?_toList]
            rw [← this]
            congr 1
            omega
  · rename_i i sz j off
    obtain ⟨hu, g, m, c, he, hj, rfl⟩ := ha
    obtain ⟨vs', hp1, rs1, ws1, hK1, hs1, hr1, hl1⟩ := settle_sound H hr hk
    simp only [Eff.go] at hK1
    have hok := hs1.rel.ok i
    split at hK1
    case h_3 => cases hK1
    case h_2 =>
      rename_i l hi
      split at hK1
      case h_2 => cases hK1
      rename_i y hsz hoff
      have hsz := Nat.eq_of_beq_eq_true hsz
      have hoff := Nat.eq_of_beq_eq_true hoff
      subst hsz hoff
      simp only [Eff.go] at hK1
      rw [hi] at hok
      obtain ⟨g', c', h1, hle, h3⟩ := hok
      rw [he] at h1
      injection h1 with e1 e2 e3
      injection e1 with e1
      injection e1 with e1
      subst e1 e2
      obtain ⟨v, q, rfl, hv, hq⟩ := hr1
      cases hq
      obtain rfl : v = .int .u8 y := hv
      have hn0 : n = 1 := by
        have : vs.length = 1 := by rw [← hl1]; rfl
        omega
      subst hn0
      have hrun : (Instr.storeAt T (.pointer (some ⟨g, j * 1 + 0, none⟩)) vx).run P w = .ok () (w.setCell ⟨g, j, none⟩ (.int .u8 y)) := by
        have hsz : vx.cells.size = 1 := by rw [← Array.length_toList, hus]; rfl
        have := run_store_byte (P := P) h3 hj y
        simp [Instr.storeAt, Instr.sureAddr, storeVar, run_sizeOf hn, hsz, hus, storeCells, add_at', this]
      have hoff' : Off (fun b => b = g) w (w.setCell ⟨g, j, none⟩ (.int .u8 y)) := ⟨rfl, rfl, rfl, Nat.le_of_eq (setCell_size _ _ _).symm, fun b _ hb => setCell_other _ _ _ _ hb⟩
      have hst : Step MX w ρ hp1 (w.setCell ⟨g, j, none⟩ (.int .u8 y)) ρ (upd hp1 i (.bts (l.set j y))) := by
        refine Step.write hs1.rel (fun _ => by rw [hi]; trivial) (by simp) (fun cs h => by rw [hi] at h; cases h) ?_ ?_
        · exact hoff'.mono fun b _ hb => ⟨by rw [hi]; trivial, by rw [he, hb]; rfl⟩
        · intro hp' hp'u M hM hMl _
          exact ⟨g, c, by rw [List.length_set]; exact he, by rw [List.length_set, e3]; exact hle, by rw [e3]; exact h3.set hj y⟩
      exact ⟨_, _, _, _, _, ρ, hK1, hrun, hs1.trans hst⟩
    rename_i e t l hi
    split at hK1
    case h_2 => cases hK1
    rename_i y hsz hfit hdec
    have hsz := Nat.eq_of_beq_eq_true hsz
    subst hsz
    have hfit := Nat.le_of_ble_eq_true hfit
    simp only [Eff.go] at hK1
    rw [hi] at hok
    obtain ⟨xs, h1, h2⟩ := hok
    rcases h1.2 with ⟨h3, _⟩ | ⟨g', cap, cur, h3, _, hh, hle, hcm, hcs, htake⟩
    · rw [he] at h3; cases h3
    rw [he] at h3
    injection h3 with e1 e2 e3
    injection e1 with e1
    injection e1 with e1
    subst e1 e2 e3
    obtain ⟨cs0, hk0, hl0, hget⟩ := Els.get (fun _ _ hk => KR_len t hk) h2 j l[j] (List.getElem?_eq_getElem hj)
    have hgd : l.getD j t.zero = l[j] := by rw [List.getD_eq_getElem?_getD, List.getElem?_eq_getElem hj]; rfl
    rw [hgd] at hdec
    have hsp := Rs_splice (R_cells' hk0) hr1 off
    have hkr := dec_sound t hdec hsp
    have hul1 : us.length = vs'.length := Rs_len hr1
    have hbound : j * t.sz + t.sz ≤ l.length * t.sz := by
      have : (j + 1) * t.sz ≤ l.length * t.sz := Nat.mul_le_mul_right _ hj
      rwa [Nat.add_mul, Nat.one_mul] at this
    have hbound2 : l.length * t.sz ≤ cur.size := by rw [hcs]; exact Nat.mul_le_mul_right _ hle
    have hrun := run_storeVar_at (P := P) (T := T) (o := j * t.sz + off) hus hn (by omega) hh (by omega) hone
    have hst : Step MX w ρ hp1 (w.setRow g (cur.toList.take (j * t.sz + off) ++ us ++ cur.toList.drop (j * t.sz + off + n)).toArray) ρ (upd hp1 i (.row e t (l.set j y))) := by
      refine Step.write hs1.rel (fun _ => by rw [hi]; trivial) (by simp) (fun cs h => by rw [hi] at h; cases h) ?_ ?_
      · refine (Off.setRow _ _ _).mono fun b _ hb => ⟨by rw [hi]; trivial, by rw [he, hb]; rfl⟩
      · intro hp' hp'u M hM hMl _
        have hMe := hMl trivial
        subst hMe
        have hoff : Off (fun b => b = g) w (w.setRow g (cur.toList.take (j * t.sz + off) ++ us ++ cur.toList.drop (j * t.sz + off + n)).toArray) := Off.setRow _ _ _
        have hD : ∀ b, b < w.heap.size → b = g → Mut MX hp1 ρ b := by
          rintro b _ rfl
          exact .inr ⟨i, by rw [hi]; trivial, by rw [he]; rfl⟩
        refine ⟨xs.take (j * t.sz) ++ (cs0.take off ++ us ++ cs0.drop (off + us.length)) ++ xs.drop (j * t.sz + t.sz), ?_, ?_⟩
        · rw [List.length_set]
          refine ⟨?_, .inr ⟨g, c, _, he, Nat.zero_le _, setRow_heap w g cur _ e _ hh, hle, hcm, ?_, ?_⟩⟩
          · have hxl := h1.1
            simp only [List.length_append, List.length_take, List.length_drop]
            omega
          · simp only [List.size_toArray, List.length_append, List.length_take, List.length_drop, Array.length_toList]
            omega
          · have hxl := h1.1
            apply List.ext_getElem?
            intro q
            have hxq : ∀ q, q < l.length * t.sz → xs[q]? = cur.toList[q]? := by
              intro q hq
              rw [← htake, List.getElem?_take, if_pos hq]
            have hcq : ∀ q, q < t.sz → cs0[q]? = cur.toList[j * t.sz + q]? := by
              intro q hq
              rw [← hget q hq, hxq _ (by omega)]
            simp only [List.getElem?_take, List.append_assoc]
            by_cases hq : q < l.length * t.sz
            · rw [if_pos hq]
              by_cases q1 : q < j * t.sz
              · rw [List.getElem?_append_left (by simp; omega), List.getElem?_append_left (by simp; omega), List.getElem?_take, if_pos (by omega), List.getElem?_take, if_pos q1, hxq _ hq]
              · have l1 : (xs.take (j * t.sz)).length = j * t.sz := by simp; omega
                rw [List.getElem?_append_right (by omega) (l₁ := xs.take (j * t.sz)), l1]
                by_cases q2 : q < j * t.sz + off
                · rw [List.getElem?_append_left (by simp; omega), List.getElem?_take, if_pos q2, List.getElem?_append_left (by simp; omega), List.getElem?_take, if_pos (by omega), hcq _ (by omega)]
                  congr 1; omega
                · have l2 : (cur.toList.take (j * t.sz + off)).length = j * t.sz + off := by simp; omega
                  have l3 : (cs0.take off).length = off := by simp; omega
                  rw [List.getElem?_append_right (by omega), l2, List.getElem?_append_right (by omega) (l₁ := cs0.take off), l3]
                  by_cases q3 : q < j * t.sz + off + us.length
                  · rw [List.getElem?_append_left (by omega), List.getElem?_append_left (by omega)]
                    congr 1; omega
                  · rw [List.getElem?_append_right (by omega), List.getElem?_append_right (by omega), List.getElem?_drop]
                    by_cases q4 : q < j * t.sz + t.sz
                    · rw [List.getElem?_append_left (by simp; omega), List.getElem?_drop, hcq _ (by omega)]
                      congr 1; omega
                    · have l4 : (cs0.drop (off + us.length)).length = t.sz - (off + us.length) := by simp; omega
                      rw [List.getElem?_append_right (by omega), l4, List.getElem?_drop, hxq _ (by omega)]
                      congr 1; omega
            · rw [if_neg hq, List.getElem?_eq_none]
              simp only [List.length_append, List.length_take, List.length_drop]
              omega
        · have h2' := Els.imp (fun _ _ h => KR_step hoff hD (fun _ _ h => h) t h) h2
          exact Els.set (fun _ _ hk => KR_len t hk) h2' j y _ hj (KR_step hoff hD (fun _ _ h => h) t hkr)
    exact ⟨_, _, _, _, _, ρ, hK1, hrun, hs1.trans hst⟩
  · cases hk
end
end Go.Proofs.YtmciidoohbmipaaGreatDoor.Abs
namespace Go.Proofs.YtmciidoohbmipaaGreatDoor.Abs
open Go Go.RowKit
set_option linter.unusedVariables false
set_option linter.unusedSectionVars false
set_option linter.unusedSimpArgs false

/-- Parts and their values. -/
def PartsR (M : Nat → Prop) (w : World) (ρ : Nat → Value) (hp : Heap) : List (Nat × AV) → List (Nat × Value) → Prop
  | [], vs => vs = []
  | (i, x) :: ps, vs => ∃ v r, vs = (i, v) :: r ∧ R M w ρ hp x v ∧ PartsR M w ρ hp ps r

theorem foldl_splice (off : Nat) : ∀ (l : List Value) (k : Nat) (cs : Array Value), off + k + l.length ≤ cs.size →
    ((l.zipIdx k).foldl (fun cs (p : Value × Nat) => cs.setIfInBounds (off + p.2) p.1) cs) = (cs.toList.take (off + k) ++ l ++ cs.toList.drop (off + k + l.length)).toArray
  | [], k, cs, _ => by simp
  | x :: l, k, cs, h => by
    simp only [List.length_cons] at h
    rw [List.zipIdx_cons, List.foldl_cons, foldl_splice off l (k + 1) _ (by simp; omega)]
    congr 1
    apply List.ext_getElem?
    intro j
    simp only [Array.toList_setIfInBounds, List.append_assoc, List.length_cons]
    have hl : (cs.toList.set (off + k) x).length = cs.size := by simp
    by_cases h1 : j < off + k
    · rw [List.getElem?_append_left (by simp; omega), List.getElem?_append_left (by simp; omega), List.getElem?_take, List.getElem?_take, if_pos (by omega), if_pos h1, List.getElem?_set_ne (by omega)]
    · have ht2 : (cs.toList.take (off + k)).length = off + k := by simp; omega
      have ht1 : ((cs.toList.set (off + k) x).take (off + (k + 1))).length = off + k + 1 := by simp; omega
      by_cases h2 : j = off + k
      · subst h2
        rw [List.getElem?_append_left (by omega), List.getElem?_take, if_pos (by omega), List.getElem?_set_self (by simp; omega), List.getElem?_append_right (by omega), ht2]
        simp
      · rw [List.getElem?_append_right (by omega), ht1, List.getElem?_append_right (l₁ := cs.toList.take (off + k)) (by omega), ht2]
        rw [show j - (off + k) = (j - (off + k + 1)) + 1 by omega]
        simp only [List.cons_append, List.getElem?_cons_succ]
        by_cases h3 : j - (off + k + 1) < l.length
        · rw [List.getElem?_append_left h3, List.getElem?_append_left h3]
        · rw [List.getElem?_append_right (by omega), List.getElem?_append_right (by omega), List.getElem?_drop, List.getElem?_drop, List.getElem?_set_ne (by omega)]
          congr 1
          omega

theorem fill_sound {M : Nat → Prop} {w : World} {ρ : Nat → Value} {hp : Heap} {place placeC : Nat → Option (Nat × Nat)} (hpl : ∀ i p, place i = some p → placeC i = some p) : {ps : List (Nat × AV)} → {vs : List (Nat × Value)} → {cs cs' : List AV} → {us : List Value} →
    PartsR M w ρ hp ps vs → Rs M w ρ hp cs us → fillA place cs ps = some cs' → ∃ us' : List Value, Instr.fill placeC us.toArray vs = some us'.toArray ∧ Rs M w ρ hp cs' us' ∧ cs'.length = cs.length
  | [], _, cs, cs', us, hp, hr, h => by
    cases hp
    injection h with h
    subst h
    exact ⟨us, rfl, hr, rfl⟩
  | (i, x) :: ps, _, cs, cs', us, ⟨v, q, e, hx, hps⟩, hr, h => by
    subst e
    unfold fillA at h
    split at h
    case h_2 => cases h
    rename_i off n vs hi hc
    split at h
    case h_2 => cases h
    rename_i h1 h2
    have h1 := Nat.eq_of_beq_eq_true h1
    have h2 := Nat.le_of_ble_eq_true h2
    obtain ⟨ys, hys, hry⟩ := cellsOf_sound hx hc
    have hyl : ys.length = vs.length := Rs_len hry
    have hul : us.length = cs.length := Rs_len hr
    obtain ⟨us', h3, h4, h5⟩ := fill_sound hpl hps (Rs_splice hr hry off) h
    refine ⟨us', ?_, h4, ?_⟩
    · have hsz : v.cells.size = n := by rw [← h1, ← hyl, ← hys]; simp
      have hf := foldl_splice off ys 0 us.toArray (by simp; omega)
      unfold Instr.fill
      rw [hpl _ _ hi]
      simp only
      rw [if_neg (by simp [hsz]; omega)]
      rw [← h3]
      congr 1
      rw [← Array.foldl_toList, Array.toList_zipIdx, hys]
      rw [show (fun (cs : Array Value) (x : Value × Nat) => match x with | (c, j) => cs.setIfInBounds (off + j) c) = fun cs p => cs.setIfInBounds (off + p.2) p.1 from rfl, hf]
      simp
    · rw [h5]
      unfold splice
      simp only [List.length_append, List.length_take, List.length_drop]
      omega

section
variable {Rt : Type} {P : Program} {MX : Nat → Prop} {w : World} {ρ : Nat → Value} {hp : Heap} {b : Nat} {rs ws : List Nat} {K : AV → Nat → Heap → List Nat → List Nat → Option Rt} {r : Rt}

theorem buildE_sound {M : Nat → Prop} {T : TypeId} {ps : List (Nat × AV)} {vs : List (Nat × Value)} (hps : PartsR M w ρ hp ps vs) (hk : (buildE P T ps).go b hp rs ws K = some r) :
    ∃ x v, K x b hp rs ws = some r ∧ (Instr.build T vs.toArray).run P w = .ok v w ∧ R M w ρ hp x v := by
  unfold buildE at hk
  split at hk
  case h_2 => cases hk
  rename_i fs z hu hz
  split at hk
  case h_2 => cases hk
  rename_i pl hpl
  split at hk
  case h_2 => cases hk
  rename_i cs hf
  obtain ⟨i, z', hi, hz', hr⟩ := zeroCellsAt_some hz
  obtain ⟨us, h1, h2, _⟩ := fill_sound (placeC := (pl.toArray[·]?)) (fun i p h => by simpa using h) hps (hr M w ρ hp) hf
  refine ⟨_, .agg us.toArray, hk, run_build w T _ _ ?_, us, rfl, h2⟩
  unfold Program.built
  rw [hi, hu]
  simp only
  unfold placesOf at hpl
  rw [hz', hpl]
  simpa using h1

/-- A new row. -/
theorem nw_row (H : HRel MX w ρ hp) {e : TypeId} {t : Ty} {l : List t.den} {us : List Value} {cap : Nat} {cur : Array Value} (hels : Els (t.KR (Mut MX hp ρ) w) l us) (hle : l.length ≤ cap) (hmax : cap ≤ maxLen) (hcur : cur.size = cap * t.sz) (htk : cur.toList.take (l.length * t.sz) = us)
    (hk : (Eff.nw (.row e t l) fun i => .ret (.own i)).go b hp rs ws K = some r) :
    ∃ x b' hp' rs' ws' ρ', K x b' hp' rs' ws' = some r ∧ Step MX w ρ hp (w.alloc (.cells cur e)) ρ' hp' ∧ R (Mut MX hp' ρ') (w.alloc (.cells cur e)) ρ' hp' x (.slice (some ⟨w.heap.size, 0, none⟩) l.length cap) := by
  simp only [Eff.go] at hk
  split at hk
  case h_2 => cases hk
  rename_i hu
  refine ⟨_, _, _, _, _, upd ρ b (.slice (some ⟨w.heap.size, 0, none⟩) l.length cap), hk, Step.alloc H hu rfl ?_, ?_⟩
  · intro M ρ' hp' old hv hM
    refine ⟨us, ?_, Els.imp (fun _ _ h => KR_step (D := fun _ => False) (Off.alloc _ _ _) (fun _ _ h => h.elim) hM t h) hels⟩
    rw [hv]
    exact ⟨Els.len (fun _ _ h => KR_len t h) hels, .inr ⟨w.heap.size, cap, cur, rfl, Nat.zero_le _, heap_alloc_new w _, hle, hmax, hcur, htk⟩⟩
  · exact ⟨by rw [upd_same]; simp, by rw [upd_same], _, _, _, rfl⟩

theorem decL_sound {M : Nat → Prop} {t : Ty} : {n : Nat} → {cs : List AV} → {l : List t.den} → {vs : List Value} → decL t n cs = some l → Rs M w ρ hp cs vs → Els (t.KR M w) l vs ∧ l.length = n
  | 0, cs, l, vs, h, hr => by
    unfold decL at h
    split at h
    · injection h with h; subst h; cases hr; exact ⟨rfl, rfl⟩
    · cases h
  | n + 1, cs, l, vs, h, hr => by
    unfold decL at h
    split at h
    case h_2 => cases h
    rename_i x q hx hq
    injection h with h
    subst h
    obtain ⟨h1, h2⟩ := decL_sound hq (Rs_drop hr t.sz)
    exact ⟨⟨vs.take t.sz, vs.drop t.sz, (List.take_append_drop _ _).symm, dec_sound t hx (Rs_take hr _), h1⟩, by simp [h2]⟩

def replV : Nat → List Value → List Value
  | 0, _ => []
  | n + 1, z => replV n z ++ z

theorem Rs_repl {M : Nat → Prop} {z : List AV} {zs : List Value} (h : Rs M w ρ hp z zs) : (n : Nat) → Rs M w ρ hp (repl n z) (replV n zs)
  | 0 => rfl
  | n + 1 => Rs_append (Rs_repl h n) h

theorem madeCells_repl (z : Array Value) (hz : 0 < z.size) : (n : Nat) → (madeCells z (n * z.size)).toList = replV n z.toList
  | 0 => by simp [madeCells, replV]
  | n + 1 => by
    rw [replV, ← madeCells_repl z hz n]
    simp only [madeCells, Array.toList_map, Array.toList_range, Nat.add_mul, Nat.one_mul, List.range_add, List.map_append, List.map_map]
    congr 1
    apply List.ext_getElem?
    intro j
    by_cases hj : j < z.size
    · simp [hj, Nat.mul_add_mod_self_right, Nat.mod_eq_of_lt hj]
    · simp [hj]

theorem buildSliceE_sound (H : HRel MX w ρ hp) {T n : Nat} {ps : List (Nat × AV)} {vs : List (Nat × Value)} (hps : PartsR (Mut MX hp ρ) w ρ hp ps vs) (hk : (buildSliceE P T n ps).go b hp rs ws K = some r) :
    ∃ x b' hp' rs' ws' v w' ρ', K x b' hp' rs' ws' = some r ∧ (Instr.buildSlice T n vs.toArray).run P w = .ok v w' ∧ Step MX w ρ hp w' ρ' hp' ∧ R (Mut MX hp' ρ') w' ρ' hp' x v := by
  unfold buildSliceE at hk
  split at hk
  case h_2 => cases hk
  rename_i e hu
  split at hk
  case h_2 => cases hk
  rename_i t s z ht hs hz
  split at hk
  case h_2 => cases hk
  rename_i h1 h2 h3 h4
  have h1 := Nat.eq_of_beq_eq_true h1
  have h2 := Nat.eq_of_beq_eq_true h2
  have h3 := Nat.le_of_ble_eq_true h3
  have h4 := Nat.le_of_ble_eq_true h4
  split at hk
  case h_2 => cases hk
  rename_i cs hf
  obtain ⟨i, z', hi, hz', hr⟩ := zeroCellsAt_some hz
  have hzl : z'.cells.size = s := by
    have := Rs_len (hr (fun _ => False) w ρ hp)
    simp at this; omega
  obtain ⟨us, hfill, hrs, hlen⟩ := fill_sound (placeC := fun i => some (i * s, s)) (fun i p h => h) hps (Rs_repl (hr (Mut MX hp ρ) w ρ hp) n) hf
  obtain ⟨cs', hp1, rs1, ws1, hK1, hs1, hr1, hl1⟩ := settle_sound H hrs hk
  split at hK1
  case h_2 => cases hK1
  rename_i l hl
  obtain ⟨hels, hln⟩ := decL_sound hl hr1
  subst h1
  have hul : us.length = n * t.sz := by
    have h5 := Els.len (fun _ _ h => KR_len t h) hels
    rw [h5, hln]
  have hn : n ≤ n * t.sz := Nat.le_mul_of_pos_right n h4
  obtain ⟨x, b', hp', rs', ws', ρ', hK, hst, hR⟩ := nw_row (cap := n) (cur := us.toArray) hs1.rel hels (by omega) (by unfold maxLen; omega) (by simpa using hul) (by simp only []; rw [hln, ← hul]; exact List.take_length) hK1
  rw [hln] at hR
  refine ⟨x, b', hp', rs', ws', _, _, ρ', hK, ?_, hs1.trans hst, hR⟩
  have hmade : (Array.range (n * t.sz)).map (z'.cells[· % z'.cells.size]!) = (replV n z'.cells.toList).toArray := by
    have := madeCells_repl z'.cells (by omega) n
    unfold madeCells at this
    rw [hzl] at this
    rw [hzl, ← this]
  have hbig : ¬ (2 ^ 24 < n * t.sz) := by omega
  by_cases h0 : n * t.sz = 0
  · have hn0 : n = 0 := by omega
    subst hn0
    simp only [replV, List.toArray] at hfill
    simp [Instr.buildSlice, run_underlying hu, run_sizeOf hs, newRow]
    have e0 : Array.map (fun (_ : Nat) => (default : Value)) (Array.range 0) = #[] := by rw [Array.range_zero', Array.map_empty]
    rw [e0, show Instr.fill (fun i => some (i * t.sz, t.sz)) #[] vs = some us.toArray from hfill]
    simp
  · simp [Instr.buildSlice, run_underlying hu, run_sizeOf hs, hbig, h0, zeroValue, typeInfo, hi, hz', newRow]
    rw [hmade, hfill]
    simp
end
end Go.Proofs.YtmciidoohbmipaaGreatDoor.Abs
namespace Go.Proofs.YtmciidoohbmipaaGreatDoor.Abs
open Go Go.RowKit
set_option linter.unusedVariables false
set_option linter.unusedSectionVars false
set_option linter.unusedSimpArgs false

section
variable {Rt : Type} {P : Program} {MX : Nat → Prop} {w : World} {ρ : Nat → Value} {hp : Heap} {b : Nat} {rs ws : List Nat} {K : AV → Nat → Heap → List Nat → List Nat → Option Rt} {r : Rt}

theorem Els_replicate {M : Nat → Prop} {t : Ty} {z : t.den} {zs : List Value} (h : t.KR M w z zs) : (n : Nat) → Els (t.KR M w) (List.replicate n z) (replV n zs)
  | 0 => rfl
  | n + 1 => by
    rw [List.replicate_succ', replV]
    exact Els.append (Els_replicate h n) ⟨zs, [], by simp, h, rfl⟩

theorem makeSliceE_sound (H : HRel MX w ρ hp) {T : TypeId} {n : AV} {vn : Value} (hn : R (Mut MX hp ρ) w ρ hp n vn) (hk : (makeSliceE P T n).go b hp rs ws K = some r) :
    ∃ x b' hp' rs' ws' v w' ρ', K x b' hp' rs' ws' = some r ∧ (Instr.makeSlice T vn vn).run P w = .ok v w' ∧ Step MX w ρ hp w' ρ' hp' ∧ R (Mut MX hp' ρ') w' ρ' hp' x v := by
  unfold makeSliceE at hk
  split at hk
  case h_2 => cases hk
  rename_i e n hu
  rw [show vn = _ from hn]
  split at hk
  case h_2 => cases hk
  rename_i t s z by_ ht hs hz hby
  split at hk
  case h_2 => cases hk
  rename_i z0 h1 h2 h3 h4 h5
  have h1 := Nat.eq_of_beq_eq_true h1
  have h2 := Nat.le_of_ble_eq_true h2
  have h3 := Nat.le_of_ble_eq_true h3
  have h4 := Nat.eq_of_beq_eq_true h4
  simp only [Eff.go] at hk
  split at hk
  case isFalse => cases hk
  rename_i hn0
  split at hk
  case isFalse => cases hk
  rename_i hn1
  obtain ⟨i, z', hi, hz', hr⟩ := zeroCellsAt_some hz
  have hzl : z'.cells.size = s := by
    have := Rs_len (hr (fun _ => False) w ρ hp)
    simp at this; omega
  have hsi : i.size = s := by simpa [sizeAt, hi] using hs
  have hbi : i.bytes = by_ := by simpa [hi] using hby
  subst h1
  have hmul : by_ * n.toNat ≤ 281474976710656 := by
    have := Nat.mul_le_mul_left by_ hn1
    exact Nat.le_trans this (Nat.mul_div_le _ _)
  have hmul' : (i.bytes : Int) * n ≤ 281474976710656 := by
    rw [hbi]
    have e : n = (n.toNat : Int) := by omega
    rw [e, ← Int.natCast_mul]
    omega
  have hnn : n.toNat ≤ 281474976710656 := Nat.le_trans (Nat.le_mul_of_pos_left _ h3) hmul
  have hrun := run_make (P := P) w T e i z' hu hi hz' .i64 .i64 n n hn0 (Int.le_refl _) hmul' (by omega)
  have hkz := dec_sound (M := Mut MX hp ρ) (w := w) (ρ := ρ) (hp := hp) t h5 (hr _ _ _ _)
  have hmade := madeCells_repl z'.cells (by omega) n.toNat
  rw [hzl] at hmade
  rw [hsi] at hrun
  obtain ⟨x, b', hp', rs', ws', ρ', hK, hst, hR⟩ := nw_row (cap := n.toNat) (cur := madeCells z'.cells (n.toNat * t.sz)) (us := replV n.toNat z'.cells.toList) H (Els_replicate hkz n.toNat) (by simp) (by unfold maxLen; omega)
    (by rw [size_madeCells]) (by rw [hmade, List.length_replicate]; exact List.take_of_length_le (by rw [← hmade]; simp [size_madeCells])) hk
  rw [List.length_replicate] at hR
  exact ⟨x, b', hp', rs', ws', _, _, ρ', hK, hrun, hst, hR⟩

/-- The bounds of a slice expression. -/
theorem cut_sound {M : Nat → Prop} {lo hi : Option AV} {vlo vhi : Option Value} {n : Nat} {k : Int → Int → Eff AV}
    (hlo : ∀ x, lo = some x → ∃ v, vlo = some v ∧ R M w ρ hp x v) (hlo' : lo = none → vlo = none) (hhi : ∀ x, hi = some x → ∃ v, vhi = some v ∧ R M w ρ hp x v) (hhi' : hi = none → vhi = none)
    (hk : (cutE lo hi (n : Int) k).go b hp rs ws K = some r) :
    ∃ l h : Int, (k l h).go b hp rs ws K = some r ∧ 0 ≤ l ∧ l ≤ h ∧ h ≤ n ∧ (hi = none → h = n) ∧ ∀ (isSlice : Bool) (cap : Nat), n ≤ cap → (Instr.sliceBounds isSlice n cap vlo vhi none).run P w = .ok (l.toNat, h.toNat, cap) w := by
  unfold cutE at hk
  split at hk
  case h_2 => cases hk
  rename_i h l hh hl
  have hi0 : (0 ≤ h ∧ h ≤ n ∧ (cutLo lo l h (k l h)).go b hp rs ws K = some r) ∧ (∀ (isSlice : Bool) (cap : Nat), n ≤ cap → (vhi = none ∧ h = n) ∨ ∃ k', vhi = some (.int k' h)) := by
    cases hi with
    | none =>
      simp only [boundOf] at hh
      injection hh with hh
      subst hh
      exact ⟨⟨by omega, by omega, hk⟩, fun _ _ _ => .inl ⟨hhi' rfl, rfl⟩⟩
    | some x =>
      obtain ⟨v, rfl, hv⟩ := hhi x rfl
      simp only [cutHi, Eff.go] at hk
      split at hk
      case isFalse => cases hk
      rename_i h0
      split at hk
      case isFalse => cases hk
      rename_i h1
      refine ⟨⟨h0, h1, hk⟩, fun isSlice cap hc => .inr ?_⟩
      unfold boundOf at hh
      split at hh
      · cases ‹some x = none›
      · rename_i k' m he
        injection hh with hh
        injection he with he
        subst hh he
        exact ⟨k', by rw [show v = _ from hv]⟩
      · cases hh
  obtain ⟨⟨h0, h1, hk⟩, hrun⟩ := hi0
  have hlo0 : 0 ≤ l ∧ l ≤ h ∧ (k l h).go b hp rs ws K = some r ∧ ((vlo = none ∧ l = 0) ∨ ∃ k', vlo = some (.int k' l)) := by
    cases lo with
    | none =>
      simp only [boundOf] at hl
      injection hl with hl
      subst hl
      exact ⟨by omega, h0, hk, .inl ⟨hlo' rfl, rfl⟩⟩
    | some x =>
      obtain ⟨v, rfl, hv⟩ := hlo x rfl
      simp only [cutLo, Eff.go] at hk
      split at hk
      case isFalse => cases hk
      rename_i l0
      split at hk
      case isFalse => cases hk
      rename_i l1
      refine ⟨l0, l1, hk, .inr ?_⟩
      unfold boundOf at hl
      split at hl
      · cases ‹some x = none›
      · rename_i k' m he
        injection hl with hl
        injection he with he
        subst hl he
        exact ⟨k', by rw [show v = _ from hv]⟩
      · cases hl
  obtain ⟨l0, l1, hk, hlr⟩ := hlo0
  refine ⟨l, h, hk, l0, l1, h1, fun he => ?_, fun isSlice cap hc => ?_⟩
  · rcases hrun true n (Nat.le_refl _) with ⟨_, e⟩ | ⟨k', e⟩
    · exact e
    · rw [hhi' he] at e; cases e
  rcases hrun isSlice cap hc with ⟨rfl, rfl⟩ | ⟨k1, rfl⟩ <;> rcases hlr with ⟨rfl, rfl⟩ | ⟨k2, rfl⟩
  · simp [Instr.sliceBounds]
  · have hb := run_sliceBound (P := P) w k2 l n .sliceB l0 l1
    simp [Instr.sliceBounds, hb]
  · have hb := run_sliceBound (P := P) w k1 h cap (if isSlice then .sliceAcap else .sliceAlen) h0 (by omega)
    simp [Instr.sliceBounds, hb]
  · have hb := run_sliceBound (P := P) w k1 h cap (if isSlice then .sliceAcap else .sliceAlen) h0 (by omega)
    have hb2 := run_sliceBound (P := P) w k2 l h.toNat .sliceB l0 (by omega)
    simp [Instr.sliceBounds, hb, hb2]

theorem run_sliceAt_sl {T e s : TypeId} (hu : P.underlying T = some (.slice e)) (hs : sizeAt P e = some s) {a : Option Addr} {n c l h m : Nat} {lo hi : Option Value} (hb : (Instr.sliceBounds true n c lo hi none).run P w = .ok (l, h, m) w) :
    (Instr.sliceAt T (.slice a n c) lo hi none).run P w = .ok (.slice (if m = l then a else a.map (·.add (l * s))) (h - l) (m - l)) w := by
  simp [Instr.sliceAt, run_underlying hu, Instr.slice, hb, run_sizeOf hs]
theorem run_sliceAt_str {T : TypeId} (hu : P.underlying T = some .string) {x : ByteArray} {l h m : Nat} {lo hi : Option Value} (hb : (Instr.sliceBounds false x.size x.size lo hi none).run P w = .ok (l, h, m) w) :
    (Instr.sliceAt T (.string x) lo hi none).run P w = .ok (.string (x.extract l h)) w := by
  simp [Instr.sliceAt, run_underlying hu, Instr.slice, hb]

/-- A part of a row that is read. -/
theorem con_part {M : Nat → Prop} {t : Ty} {c : List t.den} {A : Option Addr} {cap l h : Nat} (hr : RowR M w (t.KR M w) t.sz A c) (hl : l ≤ h) (hh : h ≤ c.length) (hc : c.length ≤ cap) :
    R M w ρ hp (.con t ((c.take h).drop l)) (.slice (if cap = l then A else A.map (·.add (l * t.sz))) (h - l) (cap - l)) := by
  have hlen : ((c.take h).drop l).length = h - l := by simp; omega
  refine ⟨_, _, by rw [hlen], by omega, fun i x hx => ?_⟩
  have hi : i < h - l := by
    have := (List.getElem?_eq_some_iff.1 hx).1
    omega
  rw [List.getElem?_drop, List.getElem?_take, if_pos (by omega)] at hx
  obtain ⟨g, o, cs, hA, hg, hcl, hkr, hcc⟩ := hr (l + i) x hx
  refine ⟨g, o + l * t.sz, cs, ?_, hg, hcl, hkr, fun j u hu => ?_⟩
  · rw [if_neg (by omega), hA, Option.map_some, add_at']
  · have := hcc j u hu
    rw [Nat.add_mul] at this
    rw [← this]
    congr 2
    omega

theorem sliceE_sound (H : HRel MX w ρ hp) {T : TypeId} {x : AV} {vx : Value} {lo hi : Option AV} {vlo vhi : Option Value} (hx : R (Mut MX hp ρ) w ρ hp x vx)
    (hlo : ∀ x, lo = some x → ∃ v, vlo = some v ∧ R (Mut MX hp ρ) w ρ hp x v) (hlo' : lo = none → vlo = none) (hhi : ∀ x, hi = some x → ∃ v, vhi = some v ∧ R (Mut MX hp ρ) w ρ hp x v) (hhi' : hi = none → vhi = none)
    (hk : (sliceE P T x lo hi).go b hp rs ws K = some r) :
    ∃ x b' hp' rs' ws' v w' ρ', K x b' hp' rs' ws' = some r ∧ (Instr.sliceAt T vx vlo vhi none).run P w = .ok v w' ∧ Step MX w ρ hp w' ρ' hp' ∧ R (Mut MX hp' ρ') w' ρ' hp' x v := by
  unfold sliceE at hk
  split at hk
  · rename_i s hu
    rw [show vx = _ from hx]
    obtain ⟨l, h, hK, h0, h1, h2, hn, hb⟩ := cut_sound (P := P) hlo hlo' hhi hhi' hk
    exact ⟨_, _, _, _, _, _, w, ρ, hK, run_sliceAt_str hu (hb false s.size (Nat.le_refl _)), Step.refl H, rfl⟩
  · rename_i e t c hu
    split at hk
    case h_2 => cases hk
    rename_i s hs
    split at hk
    case h_2 => cases hk
    rename_i hsz
    have hsz := Nat.eq_of_beq_eq_true hsz
    subst hsz
    obtain ⟨A, cap, rfl, hle, hr⟩ := hx
    obtain ⟨l, h, hK, h0, h1, h2, hn, hb⟩ := cut_sound (P := P) hlo hlo' hhi hhi' hk
    exact ⟨_, _, _, _, _, _, w, ρ, hK, run_sliceAt_sl hu hs (hb true cap hle), Step.refl H, con_part hr (by omega) (by omega) hle⟩
  · rename_i e i hu
    split at hk
    case h_2 => cases hk
    rename_i s hs
    obtain ⟨hne, rfl, A0, n0, c0, hv⟩ := hx
    simp only [Eff.go] at hk
    have hok := H.ok i
    split at hk
    · rename_i e' t c hi'
      split at hk
      case h_2 => cases hk
      rename_i hsz
      have hsz := Nat.eq_of_beq_eq_true hsz
      subst hsz
      obtain ⟨l, h, hK, h0, h1, h2, hn, hb⟩ := cut_sound (P := P) hlo hlo' hhi hhi' hk
      simp only [Eff.go] at hK
      have hst := Step.freeze H hi'
      have hok' := hst.rel.ok i
      rw [upd_same] at hok'
      obtain ⟨A, cap, hv', hle, hr⟩ := hok'
      rw [hv']
      exact ⟨_, _, _, _, _, _, w, ρ, hK, run_sliceAt_sl hu hs (hb true cap hle), hst, con_part hr (by omega) (by omega) hle⟩
    · rename_i t c hi'
      split at hk
      case h_2 => cases hk
      rename_i hsz
      have hsz := Nat.eq_of_beq_eq_true hsz
      subst hsz
      rw [hi'] at hok
      obtain ⟨A, cap, hv', hle, hr⟩ := hok
      rw [hv']
      obtain ⟨l, h, hK, h0, h1, h2, hn, hb⟩ := cut_sound (P := P) hlo hlo' hhi hhi' hk
      exact ⟨_, _, _, _, _, _, w, ρ, hK, run_sliceAt_sl hu hs (hb true cap hle), Step.refl H, con_part hr (by omega) (by omega) hle⟩
    · rename_i c hi'
      split at hk
      case h_2 => cases hk
      rename_i hsz
      have hsz := Nat.eq_of_beq_eq_true hsz
      subst hsz
      rw [hi'] at hok
      obtain ⟨g, cap, hv', hle, hr⟩ := hok
      rw [hv']
      obtain rfl := hhi' rfl
      obtain ⟨l, h, hK, h0, h1, h2, hn, hb⟩ := cut_sound (P := P) (hi := none) (vhi := none) hlo hlo' (fun y hy => by cases hy) (fun _ => rfl) hk
      have hrun := run_sliceAt_sl hu hs (a := some ⟨g, 0, none⟩) (hb true cap hle)
      have hcl : h = (c.length : Int) := hn rfl
      subst hcl
      refine ⟨_, _, _, _, _, _, w, ρ, hK, hrun, Step.refl H, hne, g, c.length, cap, cap - l.toNat, (if cap = l.toNat then ⟨g, 0, none⟩ else ⟨g, l.toNat, none⟩), hv', by omega, ?_, ?_⟩
      · congr 1
        split
        · rfl
        · simp only [Option.map_some, Nat.mul_one]
          rw [add_at', Nat.zero_add]
      · intro hlt
        rw [if_neg (by omega)]
    · cases hk
  · cases hk

/-- The cells of a row that is read, one behind the other. -/
theorem row_cells {M : Nat → Prop} {t : Ty} {g : Nat} : {l : List t.den} → {o : Nat} → (∀ (i : Nat) (x : t.den), l[i]? = some x → ∃ cs, cs.length = t.sz ∧ t.KR M w x cs ∧ ∀ (j : Nat) (u : Value), cs[j]? = some u → w.cell? ⟨g, o + (i * t.sz + j), none⟩ = some u) →
    ∃ xs, Els (t.KR M w) l xs ∧ ∀ (q : Nat) (u : Value), xs[q]? = some u → w.cell? ⟨g, o + q, none⟩ = some u
  | [], _, _ => ⟨[], rfl, fun q u h => by simp at h⟩
  | x :: l, o, h => by
    obtain ⟨cs, h1, h2, h3⟩ := h 0 x rfl
    obtain ⟨xs, h4, h5⟩ := row_cells (l := l) (o := o + t.sz) (fun i y hy => by
      obtain ⟨cs, g1, g2, g3⟩ := h (i + 1) y (by simpa using hy)
      refine ⟨cs, g1, g2, fun j u hu => ?_⟩
      have := g3 j u hu
      rw [← this]
      congr 2
      rw [Nat.add_mul, Nat.one_mul]; omega)
    refine ⟨cs ++ xs, ⟨cs, xs, rfl, h2, h4⟩, fun q u hq => ?_⟩
    by_cases hlt : q < cs.length
    · rw [List.getElem?_append_left hlt] at hq
      have := h3 q u hq
      rw [← this]
      congr 2
      omega
    · rw [List.getElem?_append_right (by omega)] at hq
      have := h5 _ u hq
      rw [← this]
      congr 2
      omega

theorem con_cells {M : Nat → Prop} {t : Ty} {l : List t.den} {A : Option Addr} (hr : RowR M w (t.KR M w) t.sz A l) :
    (A = none ∧ l = []) ∨ ∃ a xs, A = some a ∧ Els (t.KR M w) l xs ∧ ∀ (q : Nat) (u : Value), xs[q]? = some u → w.cell? (a.add q) = some u := by
  cases A with
  | none =>
    refine .inl ⟨rfl, ?_⟩
    cases l with
    | nil => rfl
    | cons x l => obtain ⟨b, o, cs, hA, _⟩ := hr 0 x rfl; cases hA
  | some a =>
    right
    cases l with
    | nil => exact ⟨a, [], rfl, rfl, fun q u h => by simp at h⟩
    | cons x l =>
      obtain ⟨g, o, cs, hA, _⟩ := hr 0 x rfl
      injection hA with hA
      subst hA
      obtain ⟨xs, h1, h2⟩ := row_cells (g := g) (o := o) (fun i y hy => by
        obtain ⟨g', o', cs, hA, _, h1, h2, h3⟩ := hr i y hy
        injection hA with hA
        injection hA with e1 e2
        subst e1 e2
        exact ⟨cs, h1, h2, h3⟩)
      exact ⟨_, xs, rfl, h1, fun q u hq => by rw [add_at']; exact h2 q u hq⟩

/-- A slice as it is read (out of a heap from which some entries have gone). -/
theorem readSl_sound (H : HRel MX w ρ hp) {hp1 : Heap} (hq : ∀ q, hp1 q = hp q ∨ hp1 q = .gone) {x : AV} {vx : Value} {k : (t : Ty) → List t.den → Eff AV} (hx : R (Mut MX hp ρ) w ρ hp x vx) (hk : (readSl x k).go b hp1 rs ws K = some r) :
    ∃ t l rs' A c, (k t l).go b hp1 rs' ws K = some r ∧ vx = .slice A l.length c ∧ l.length ≤ c ∧ ((A = none ∧ l = []) ∨ ∃ a xs, A = some a ∧ Els (t.KR (Mut MX hp ρ) w) l xs ∧ ∀ (q : Nat) (u : Value), xs[q]? = some u → w.cell? (a.add q) = some u) := by
  unfold readSl at hk
  split at hk
  · rename_i t l
    obtain ⟨A, c, rfl, hle, hr⟩ := hx
    exact ⟨t, l, rs, A, c, hk, rfl, hle, con_cells hr⟩
  · rename_i i
    obtain ⟨hne, rfl, A0, n0, c0, hv⟩ := hx
    simp only [Eff.go] at hk
    have hok := H.ok i
    split at hk
    · rename_i e t l hi
      rcases hq i with h | h
      case inr => rw [h] at hi; cases hi
      rw [h] at hi
      rw [hi] at hok
      obtain ⟨xs, h1, h2⟩ := hok
      have hc := fun g hg => World.ownsRow.cells h1 (g := g) hg
      rcases h1.2 with ⟨h3, h4⟩ | ⟨g, cap, cur, h3, _, hh, hle, _⟩
      · exact ⟨t, l, _, none, 0, hk, by rw [h3, h4], by omega, .inl ⟨rfl, List.eq_nil_of_length_eq_zero h4⟩⟩
      · exact ⟨t, l, _, _, cap, hk, h3, hle, .inr ⟨_, xs, rfl, h2, fun q u hq => hc g (by rw [h3]; rfl) q u hq⟩⟩
    · rename_i t l hi
      rcases hq i with h | h
      case inr => rw [h] at hi; cases hi
      rw [h] at hi
      rw [hi] at hok
      obtain ⟨A, c, h1, hle, hr⟩ := hok
      exact ⟨t, l, _, A, c, hk, h1, hle, con_cells hr⟩
    · cases hk
  · cases hk

theorem moreE_sound (H : HRel MX w ρ hp) {hp1 : Heap} (hq : ∀ q, hp1 q = hp q ∨ hp1 q = .gone) {t : Ty} {x : AV} {vx : Value} {k : List t.den → Eff AV} (hx : R (Mut MX hp ρ) w ρ hp x vx) (hk : (moreE t x k).go b hp1 rs ws K = some r) :
    ∃ l rs' A c, (k l).go b hp1 rs' ws K = some r ∧ vx = .slice A l.length c ∧ l.length ≤ c ∧ ((A = none ∧ l = []) ∨ ∃ a xs, A = some a ∧ Els (t.KR (Mut MX hp ρ) w) l xs ∧ ∀ (q : Nat) (u : Value), xs[q]? = some u → w.cell? (a.add q) = some u) := by
  unfold moreE at hk
  split at hk
  · exact ⟨[], rs, none, 0, hk, hx, Nat.le_refl _, .inl ⟨rfl, rfl⟩⟩
  · obtain ⟨t', l, rs', A, c, hk, h1, h2, h3⟩ := readSl_sound H hq hx hk
    split at hk
    case h_2 => cases hk
    rename_i h _
    subst h
    exact ⟨l, rs', A, c, hk, h1, h2, h3⟩

theorem run_append_none' {T ty e : TypeId} {i : TypeInfo} {sz n c : Nat} {v : Value} {xs : List Value} (hu : P.underlying T = some (.slice e)) (hi : P.info? e = some i) (hown : w.ownsRow 0 e sz v n xs) :
    (Builtin.append_ #[T, T] ty #[v, .slice none 0 c]).run P w = .ok v w := by
  rcases hown.2 with ⟨rfl, rfl⟩ | ⟨g, cap, cur, rfl, _, _, hnc, _⟩
  · simp [Builtin.append_, run_underlying hu, sizeOf, typeInfo, hi, Builtin.lenOf, Builtin.firstCells]
  · simp [Builtin.append_, run_underlying hu, sizeOf, typeInfo, hi, Builtin.lenOf, Builtin.firstCells, hnc, storeCells]

/-! Words of the kit's print, for what is written in one go. -/
namespace Z
theorem add_plain (g j : Nat) : (⟨g, 0, none⟩ : Addr).add j = ⟨g, j, none⟩ := by unfold Addr.add; split <;> simp_all
theorem blk_frozen {w : World} {g : Nat} {t : TypeId} {cs : Array Value} (h : w.heap[g]? = some (.cells cs t (0, 0))) (i : Nat) : w.frozen? ⟨g, i, none⟩ = false := by simp [World.frozen?, h]
theorem blk_set {w : World} {g : Nat} {t : TypeId} {cs : Array Value} (h : w.heap[g]? = some (.cells cs t (0, 0))) (i : Nat) (u : Value) : (w.setCell ⟨g, i, none⟩ u).heap[g]? = some (.cells (cs.setIfInBounds i u) t (0, 0)) := by
  simp [World.setCell, Array.getElem?_modify, h]
theorem setCells_far {g : Nat} : ∀ (vs : List Value) (o : Nat) {w : World} (k : Nat), k ≠ g → (w.setCells g o vs).heap[k]? = w.heap[k]?
  | [], _, _, _, _ => rfl
  | v :: r, o, w, k, hk => by
    rw [World.setCells, setCells_far r (o + 1) k hk]
    exact Below.heap_setCell w ⟨g, o, none⟩ v k hk
theorem setCells_same (g : Nat) : ∀ (vs : List Value) (o : Nat) (w : World), (w.setCells g o vs).os = w.os ∧ (w.setCells g o vs).tape = w.tape ∧ (w.setCells g o vs).output = w.output ∧ (w.setCells g o vs).heap.size = w.heap.size
  | [], _, _ => ⟨rfl, rfl, rfl, rfl⟩
  | v :: r, o, w => by
    obtain ⟨h1, h2, h3, h4⟩ := setCells_same g r (o + 1) (w.setCell ⟨g, o, none⟩ v)
    rw [World.setCells]
    exact ⟨h1, h2, h3, by rw [h4]; simp [World.setCell]⟩
theorem setCells_row {g : Nat} {e : TypeId} : ∀ (vs : List Value) (o : Nat) (w : World) (cur : Array Value), w.heap[g]? = some (.cells cur e (0, 0)) → o + vs.length ≤ cur.size →
    ∃ cur', (w.setCells g o vs).heap[g]? = some (.cells cur' e (0, 0)) ∧ cur'.size = cur.size ∧ cur'.toList = cur.toList.take o ++ vs ++ cur.toList.drop (o + vs.length)
  | [], o, w, cur, h, _ => ⟨cur, h, rfl, by simp⟩
  | v :: r, o, w, cur, h, hl => by
    have h2 := blk_set h o v
    simp only [List.length_cons] at hl
    obtain ⟨cur', h3, h4, h5⟩ := setCells_row r (o + 1) (w.setCell ⟨g, o, none⟩ v) _ h2 (by simp; omega)
    refine ⟨cur', h3, by rw [h4]; simp, ?_⟩
    rw [h5, Array.toList_setIfInBounds]
    have ho : o < cur.toList.length := by rw [Array.length_toList]; omega
    rw [List.take_set, List.drop_set_of_lt (by omega)]
    simp only [List.length_cons]
    rw [show o + 1 + r.length = o + (r.length + 1) by omega]
    congr 1
    rw [List.take_succ_eq_append_getElem ho, List.set_append_right _ _ (by rw [List.length_take]; omega)]
    have ho' : o < cur.size := by omega
    simp [Nat.min_eq_left (Nat.le_of_lt ho')]
end Z
open Z in
theorem run_append_zeros (w : World) (base : Nat) (t ti ty e : TypeId) (i : TypeInfo) (z : Value) (size bytes : Nat) (ht : P.underlying t = some (.slice e)) {k : IntKind} (hti : P.underlying ti = some (.int k)) (hi : P.info? e = some i) (hz : i.zero = some z)
    (hsize : i.size = size) (hby : i.bytes = bytes) (hzs : z.cells.size = size) (hsz : 0 < size) (hb0 : 0 < bytes)
    (v : Value) (n : Nat) (xs : List Value) (hown : w.ownsRow base e size v n xs) (kx : IntKind) (m : Nat) (h1 : ∀ u ∈ (Builtin.zeroCells z.cells m).toList, u.oneCell' = true)
    (hbytes : (n + m) * bytes ≤ 140737488355328) (hbase : base ≤ w.heap.size) :
    ∃ v' w', (Builtin.append_ #[t, ti] ty #[v, .int kx m]).run P w = .ok v' w' ∧ w'.ownsRow base e size v' (n + m) (xs ++ (Builtin.zeroCells z.cells m).toList) ∧ w.grownBy w' v.ownBlock ∧
      (v'.ownBlock = v.ownBlock ∨ v'.ownBlock = some w.heap.size) := by
  subst hsize
  subst hby
  have hle : n + m ≤ 140737488355328 := Nat.le_trans (Nat.le_mul_of_pos_right _ hb0) hbytes
  have h63 : n + m ≤ maxLen := by simp only [maxLen]; omega
  have hw : IntKind.i64.wrap (m : Int) = m := by rw [IntKind.wrap_i64]; omega
  have hw0 : IntKind.i64.wrap 0 = 0 := by rw [IntKind.wrap_i64]; rfl
  have hneg : ¬ ((m : Int) < 0) := by omega
  have hmb : m * i.bytes ≤ 140737488355328 := Nat.le_trans (Nat.mul_le_mul_right _ (Nat.le_add_left m n)) hbytes
  have hbig : ¬ (281474976710656 < (m : Int) * (i.bytes : Int)) := by
    rw [← Int.natCast_mul]
    omega
  have hsn : i.size ≠ 0 := by omega
  obtain ⟨news, hnews⟩ : ∃ news, news = (Builtin.zeroCells z.cells m).toList := ⟨_, rfl⟩
  rw [← hnews] at h1 ⊢
  have hl : news.length = m * i.size := by rw [hnews, Array.length_toList, size_zeroCells, hzs]
  have hna : Builtin.zeroCells z.cells m = news.toArray := by rw [hnews]
  have hlen : (xs ++ news).length = (n + m) * i.size := by rw [List.length_append, hown.1, hl, Nat.add_mul]
  have hnil : m = 0 → news = [] := fun h => List.eq_nil_of_length_eq_zero (by rw [hl, h, Nat.zero_mul])
  have grown : ∀ (old : Nat), old < n + m → ∀ (row : Option Nat),
      (w.drew.alloc (.cells (xs.toArray ++ news.toArray ++ Builtin.zeroCells z.cells (grownCap w (n + m) old e - (n + m))) e)).ownsRow base e i.size
        (.slice (some ⟨w.heap.size, 0, none⟩) (n + m) (grownCap w (n + m) old e)) (n + m) (xs ++ news) ∧
      w.grownBy (w.drew.alloc (.cells (xs.toArray ++ news.toArray ++ Builtin.zeroCells z.cells (grownCap w (n + m) old e - (n + m))) e)) row := by
    intro old ho row
    have hge := grownCap_ge w (n + m) old e
    have hcm : grownCap w (n + m) old e ≤ maxLen := grownCap_le_maxLen w (n + m) old e h63
    refine ⟨⟨hlen, .inr ⟨w.heap.size, _, _, rfl, hbase, heap_alloc_new w.drew _, hge, hcm, ?_, ?_⟩⟩, ⟨rfl, rfl, rfl, by simp, fun k hk _ => heap_alloc_old w.drew _ hk⟩⟩
    · simp only [Array.size_append, List.size_toArray, size_zeroCells, hzs, hown.1, hl, ← Nat.add_mul]
      congr 1
      omega
    · simp only [Array.toList_append, List.append_assoc]
      rw [← List.append_assoc, ← hlen]
      exact List.take_left
  have runs : ∀ (A : Option Addr) (cap : Nat), cap < n + m → (Builtin.firstCells i.size n (.slice A n cap)).run P w.drew = .ok xs.toArray w.drew → (Builtin.append_ #[t, ti] ty #[.slice A n cap, .int kx m]).run P w =
      .ok (.slice (some ⟨w.heap.size, 0, none⟩) (n + m) (grownCap w (n + m) cap e)) (w.drew.alloc (.cells (xs.toArray ++ news.toArray ++ Builtin.zeroCells z.cells (grownCap w (n + m) cap e - (n + m))) e)) := by
    intro A cap hcap hfo
    have hn : ¬ (n + m ≤ cap) := by omega
    have h63' : ¬ (9223372036854775807 < ((n : Int) + (m : Int))) := by omega
    have hfit := growslice_fits hcap hbytes
    have h48' : ¬ (281474976710656 < Builtin.nextslicecap (n + m) cap * i.bytes) := by omega
    by_cases hm : m = 0
    · have hnl := hnil hm
      subst hm
      rw [hnl]
      simp only [Nat.add_zero] at hn h63' h48' ⊢
      have h63'' : ¬ (9223372036854775807 < (n : Int)) := by omega
      simp [Builtin.append_, run_underlying ht, run_underlying hti, sizeOf, typeInfo, zeroValue, hi, hz, asInt, asIntOf, hw0, hn, h63'', h48', Question.forced, hfo, newRow, grownCap]
    · have hmz : ¬ (m * i.size = 0) := Nat.mul_ne_zero hm hsn
      simp [Builtin.append_, run_underlying ht, run_underlying hti, sizeOf, typeInfo, zeroValue, hi, hz, asInt, asIntOf, hw, hneg, hbig, hn, h63', h48', Question.forced, hfo, newRow, grownCap, hmz, hna]
      congr 2
      apply Array.ext'
      simp [List.append_assoc]
  rcases hown.2 with ⟨rfl, rfl⟩ | ⟨g, cap, cur, rfl, hbg, hg, hnc, hcm, hcs, htake⟩
  · have hx : xs = [] := List.eq_nil_of_length_eq_zero (by simpa using hown.1)
    subst hx
    by_cases hm : m = 0
    · have hnl := hnil hm
      subst hm
      rw [hnl]
      refine ⟨.slice none 0 0, w, ?_, World.ownsRow_nil w base e i.size, ⟨rfl, rfl, rfl, Nat.le_refl _, fun _ _ _ => rfl⟩, Or.inl rfl⟩
      simp [Builtin.append_, run_underlying ht, run_underlying hti, sizeOf, typeInfo, hi, asInt, asIntOf, hw0]
    · have hgr := grown 0 (by omega) (Value.ownBlock (.slice none 0 0))
      exact ⟨_, _, runs none 0 (by omega) (by simp [Builtin.firstCells]), hgr.1, hgr.2, Or.inr rfl⟩
  · by_cases hroom : n + m ≤ cap
    · have hfit : n * i.size + news.length ≤ cur.size := by rw [hl, hcs, ← Nat.add_mul]; exact Nat.mul_le_mul_right _ hroom
      obtain ⟨cur', h3, h4, h5⟩ := setCells_row news (n * i.size) w cur hg hfit
      obtain ⟨s1, s2, s3, s4⟩ := setCells_same g news (n * i.size) w
      have hst := run_storeCells_cells (P := P) g (n * i.size) news 0 w (fun j hj => by rw [cell_of_row w g _ cur e (0, 0) hg]; simp; omega) (fun j _ => blk_frozen hg _) h1
      simp only [Nat.add_zero] at hst
      refine ⟨.slice (some ⟨g, 0, none⟩) (n + m) cap, w.setCells g (n * i.size) news, ?_, ⟨hlen, .inr ⟨g, cap, cur', rfl, hbg, h3, hroom, hcm, by rw [h4, hcs], ?_⟩⟩, ⟨s1, s2, s3, by rw [s4]; exact Nat.le_refl _, fun k _ hk => setCells_far news _ k (fun e => hk (by simp [Value.ownBlock, e]))⟩, Or.inl rfl⟩
      · by_cases hm : m = 0
        · have hnl := hnil hm
          subst hm
          rw [hnl] at hst ⊢
          simp [Builtin.append_, run_underlying ht, run_underlying hti, sizeOf, typeInfo, hi, asInt, asIntOf, hw0, hnc, add_plain, hst]
        · have hmz : ¬ (m * i.size = 0) := Nat.mul_ne_zero hm hsn
          simp [Builtin.append_, run_underlying ht, run_underlying hti, sizeOf, typeInfo, zeroValue, hi, hz, asInt, asIntOf, hw, hneg, hbig, hroom, hmz, hna, add_plain, hst]
      · rw [h5]
        have h6 : cur.toList.take (n * i.size) = xs := htake
        rw [h6, ← hlen]
        exact List.take_left
    · have holds : ∀ j u, xs[j]? = some u → w.cell? ((⟨g, 0, none⟩ : Addr).add j) = some u := hown.cells (g := g) rfl
      have hgr := grown cap (by omega) (Value.ownBlock (.slice (some ⟨g, 0, none⟩) n cap))
      exact ⟨_, _, runs (some ⟨g, 0, none⟩) cap (by omega) (run_firstCells_some (P := P) w.drew i.size n _ n cap xs hown.1 (by simpa using holds)), hgr.1, hgr.2, Or.inr rfl⟩

/-- What an append leaves. -/
theorem putRow_core (H : HRel MX w ρ hp) {hp1 : Heap} (hq : ∀ q, hp1 q = hp q ∨ (hp1 q = .gone ∧ hp q ≠ .unused)) (hqb : ∀ q, hp1 q = .gone → ∀ cs, hp q ≠ .box cs) {T ty e : TypeId} {t : Ty} {by_ : Nat} {l m : List t.den} {v : Value} {xs : List Value}
    (hels : Els (t.KR (Mut MX hp ρ) w) l xs) (hlv : ∀ g, v.ownBlock = some g → Lv hp ρ g ∧ ∀ j, live (hp1 j) → blk (ρ j) ≠ some g)
    {T2 : TypeId} {vx : Value} (main : l.length + m.length ≤ 140737488355328 / by_ → ∃ v' w' ys, (Builtin.append_ #[T, T2] ty #[v, vx]).run P w = .ok v' w' ∧ Els (t.KR (Mut MX hp ρ) w) m ys ∧ w'.ownsRow 0 e t.sz v' (l.length + m.length) (xs ++ ys) ∧ w.grownBy w' v.ownBlock ∧ (v'.ownBlock = v.ownBlock ∨ ∀ g, v'.ownBlock = some g → w.heap.size ≤ g))
    (hk : (putRow e t by_ l m).go b hp1 rs ws K = some r) :
    ∃ x b' hp' rs' ws' v' w' ρ', K x b' hp' rs' ws' = some r ∧ (Builtin.append_ #[T, T2] ty #[v, vx]).run P w = .ok v' w' ∧ Step MX w ρ hp w' ρ' hp' ∧ R (Mut MX hp' ρ') w' ρ' hp' x v' := by
  unfold putRow at hk
  simp only [Eff.go] at hk
  split at hk
  case isFalse => cases hk
  rename_i hle
  split at hk
  case h_2 => cases hk
  rename_i hu'
  obtain ⟨v', w', ys, hrun, hy, hown', hg, hat_⟩ := main hle
  have hbs : hp b = .unused := by
    rcases hq b with h | ⟨h, _⟩
    · rw [← h]; exact hu'
    · rw [hu'] at h; cases h
  have hsl : ∀ {x : Value} {n : Nat} {zs : List Value} {ww : World}, ww.ownsRow 0 e t.sz x n zs → (∃ A n c, x = .slice A n c) ∧ blk x = x.ownBlock := by
    intro x n zs ww h
    have : ∃ A n c, x = .slice A n c := by
      rcases h.2 with ⟨h2, _⟩ | ⟨g, cap, cur, h2, _⟩
      · exact ⟨_, _, _, h2⟩
      · exact ⟨_, _, _, h2⟩
    exact ⟨this, blk_own this⟩
  have hoff : Off (fun g => v.ownBlock = some g) w w' := Off.grown hg
  have hnew : ∀ g, blk v' = some g → g < w.heap.size → Lv hp ρ g ∧ ∀ j, live (hp1 j) → blk (ρ j) ≠ some g := by
    intro g hg1 hg2
    rw [(hsl hown').2] at hg1
    rcases hat_ with h | h
    · exact hlv g (by rw [← h]; exact hg1)
    · have := h g hg1; omega
  have hl1 : ∀ j, live (hp1 j) → live (hp j) := by
    intro j hj
    rcases hq j with h | ⟨h, _⟩
    · rwa [h] at hj
    · rw [h] at hj; exact hj.elim
  have lvi : ∀ j g, live (upd hp1 b (.row e t (l ++ m)) j) → blk (upd ρ b v' j) = some g → (j = b ∧ blk v' = some g) ∨ (j ≠ b ∧ live (hp1 j) ∧ blk (ρ j) = some g) := by
    intro j g hl hb'
    by_cases hjb : j = b
    · subst hjb; rw [upd_same] at hb'; exact .inl ⟨rfl, hb'⟩
    · rw [upd_ne _ _ hjb] at hl hb'; exact .inr ⟨hjb, hl, hb'⟩
  have old : ∀ j, hp j ≠ .unused → upd ρ b v' j = ρ j ∧ upd hp1 b (.row e t (l ++ m)) j ≠ .unused := by
    intro j hj
    have hne : j ≠ b := fun e => hj (e ▸ hbs)
    rw [upd_ne _ _ hne, upd_ne _ _ hne]
    refine ⟨rfl, ?_⟩
    rcases hq j with h | ⟨h, _⟩
    · rw [h]; exact hj
    · rw [h]; simp
  have nwl : ∀ g, g < w.heap.size → Lv (upd hp1 b (.row e t (l ++ m))) (upd ρ b v') g → Lv hp ρ g := by
    rintro g hlt ⟨j, hl, hbj⟩
    rcases lvi j g hl hbj with ⟨_, h⟩ | ⟨_, h1, h2⟩
    · exact (hnew g h hlt).1
    · exact ⟨j, hl1 j h1, h2⟩
  refine ⟨_, _, _, _, _, v', w', upd ρ b v', hk, hrun, ?_, by rw [upd_same]; simp, by rw [upd_same], (hsl hown').1⟩
  refine Step.mk' (D := fun g => v.ownBlock = some g) H hoff (fun g _ h => (hlv g h).1) old nwl ?_ ?_ ?_ (fun j cs hj => ?_)
  case refine_4 =>
    left
    have hjb : j ≠ b := fun e => by rw [e, hbs] at hj; cases hj
    rcases hq j with h | ⟨h, _⟩
    · exact ⟨by rw [upd_ne _ _ hjb, h], fun g hbg hD => (hlv g hD).2 j (by rw [h, hj]; trivial) hbg⟩
    · exact absurd hj (hqb j h cs)
  · intro j
    by_cases hjb : j = b
    · subst hjb
      right
      rw [upd_same]
      refine ⟨xs ++ ys, ?_, ?_⟩
      · rw [upd_same, List.length_append]; exact hown'
      · refine Els.append ?_ ?_
        · exact Els.imp (fun _ _ h => KR_step hoff (fun g _ h => .inr (hlv g h).1) (fun g hg hm => hm.imp id (nwl g hg)) t h) hels
        · exact Els.imp (fun _ _ h => KR_step hoff (fun g _ h => .inr (hlv g h).1) (fun g hg hm => hm.imp id (nwl g hg)) t h) hy
    · rcases hq j with h | ⟨h, _⟩
      · refine .inl ⟨by rw [upd_ne _ _ hjb, h], upd_ne _ _ hjb, fun hl g hbg hD => ?_⟩
        exact (hlv g hD).2 j (by rw [h]; exact hl) hbg
      · right
        rw [upd_ne _ _ hjb, h]
        trivial
  · intro j j' g hl hl' hbj hbj'
    rcases lvi j g hl hbj with ⟨rfl, e1⟩ | ⟨_, hl1', hb1⟩ <;> rcases lvi j' g hl' hbj' with ⟨rfl, e2⟩ | ⟨_, hl2', hb2⟩
    · rfl
    · by_cases hlt : g < w.heap.size
      · exact absurd hb2 ((hnew g e1 hlt).2 j' hl2')
      · exact absurd (H.lt (hl1 j' hl2') hb2) hlt
    · by_cases hlt : g < w.heap.size
      · exact absurd hb1 ((hnew g e2 hlt).2 j hl1')
      · exact absurd (H.lt (hl1 j hl1') hb1) hlt
    · exact H.sep j j' g (hl1 j hl1') (hl1 j' hl2') hb1 hb2
  · intro j g hl hbj hmx
    rcases lvi j g hl hbj with ⟨rfl, e1⟩ | ⟨_, hl1', hb1⟩
    · obtain ⟨j', h1, h2⟩ := (hnew g e1 (H.mx g hmx)).1
      exact H.ext j' g h1 h2 hmx
    · exact H.ext j g (hl1 j hl1') hb1 hmx


theorem putRow_sound (H : HRel MX w ρ hp) {hp1 : Heap} (hq : ∀ q, hp1 q = hp q ∨ (hp1 q = .gone ∧ hp q ≠ .unused)) (hqb : ∀ q, hp1 q = .gone → ∀ cs, hp q ≠ .box cs) {T ty e : TypeId} {t : Ty} {i : TypeInfo} {z : Value} {by_ : Nat} {l m : List t.den} {v : Value} {xs : List Value} {A : Option Addr} {c : Nat}
    (hu : P.underlying T = some (.slice e)) (hi : P.info? e = some i) (hz : i.zero = some z) (hsz : i.size = t.sz) (hby : i.bytes = by_) (hzs : z.cells.size = t.sz) (hby1 : 1 ≤ by_)
    (hown : w.ownsRow 0 e t.sz v l.length xs) (hels : Els (t.KR (Mut MX hp ρ) w) l xs) (hlv : ∀ g, v.ownBlock = some g → Lv hp ρ g ∧ ∀ j, live (hp1 j) → blk (ρ j) ≠ some g)
    (hm : (A = none ∧ m = []) ∨ ∃ a ys, A = some a ∧ Els (t.KR (Mut MX hp ρ) w) m ys ∧ ∀ (q : Nat) (u : Value), ys[q]? = some u → w.cell? (a.add q) = some u)
    (hk : (putRow e t by_ l m).go b hp1 rs ws K = some r) :
    ∃ x b' hp' rs' ws' v' w' ρ', K x b' hp' rs' ws' = some r ∧ (Builtin.append_ #[T, T] ty #[v, .slice A m.length c]).run P w = .ok v' w' ∧ Step MX w ρ hp w' ρ' hp' ∧ R (Mut MX hp' ρ') w' ρ' hp' x v' := by
  refine putRow_core (T := T) (T2 := T) (vx := .slice A m.length c) H hq hqb hels hlv (fun hle => ?_) hk
  have hbytes : (l.length + m.length) * by_ ≤ 140737488355328 := by
    have := Nat.mul_le_mul_right by_ hle
    exact Nat.le_trans this (Nat.div_mul_le_self _ _)
  have hmax : l.length + m.length ≤ maxLen := by
    have := Nat.le_trans (Nat.le_mul_of_pos_right (l.length + m.length) hby1) hbytes
    unfold maxLen
    omega
  rcases hm with ⟨rfl, rfl⟩ | ⟨a, ys, rfl, hy, hcell⟩
  · exact ⟨v, w, [], run_append_none' hu hi hown, rfl, by simpa using hown, ⟨rfl, rfl, rfl, Nat.le_refl _, fun _ _ _ => rfl⟩, .inl rfl⟩
  · have hyl := Els.len (fun _ _ h => KR_len t h) hy
    obtain ⟨v', w', h1, h2, h3, _, h5⟩ := run_append_own_at (P := P) (w := w) 0 T ty e i z t.sz by_ hu hi hz hsz hby hzs t.sz_pos v l.length xs hown a m.length c ys hyl hcell (Els.one (sz := t.sz) (fun _ _ h => KR_one t h) hy) hmax hbytes (Nat.zero_le _)
    exact ⟨v', w', ys, h1, hy, h2, h3, h5.imp id (fun h g hg => by rw [h] at hg; injection hg with hg; omega)⟩

theorem putZeros_sound (H : HRel MX w ρ hp) {hp1 : Heap} (hq : ∀ q, hp1 q = hp q ∨ (hp1 q = .gone ∧ hp q ≠ .unused)) (hqb : ∀ q, hp1 q = .gone → ∀ cs, hp q ≠ .box cs) {T T2 ty e : TypeId} {t : Ty} {i : TypeInfo} {z : Value} {d : t.den} {by_ : Nat} {l : List t.den} {v : Value} {xs : List Value}
    (hu : P.underlying T = some (.slice e)) {k : IntKind} (hu2 : P.underlying T2 = some (.int k)) (hi : P.info? e = some i) (hz : i.zero = some z) (hsz : i.size = t.sz) (hby : i.bytes = by_) (hzs : z.cells.size = t.sz) (hby1 : 1 ≤ by_) (hd : t.KR (Mut MX hp ρ) w d z.cells.toList)
    (hown : w.ownsRow 0 e t.sz v l.length xs) (hels : Els (t.KR (Mut MX hp ρ) w) l xs) (hlv : ∀ g, v.ownBlock = some g → Lv hp ρ g ∧ ∀ j, live (hp1 j) → blk (ρ j) ≠ some g)
    {kx : IntKind} {n : Int} (hn : 0 ≤ n)
    (hk : (putRow e t by_ l (List.replicate n.toNat d)).go b hp1 rs ws K = some r) :
    ∃ x b' hp' rs' ws' v' w' ρ', K x b' hp' rs' ws' = some r ∧ (Builtin.append_ #[T, T2] ty #[v, .int kx n]).run P w = .ok v' w' ∧ Step MX w ρ hp w' ρ' hp' ∧ R (Mut MX hp' ρ') w' ρ' hp' x v' := by
  refine putRow_core (T := T) (T2 := T2) (vx := .int kx n) H hq hqb hels hlv (fun hle => ?_) hk
  rw [List.length_replicate] at hle
  have hbytes : (l.length + n.toNat) * by_ ≤ 140737488355328 := by
    have := Nat.mul_le_mul_right by_ hle
    exact Nat.le_trans this (Nat.div_mul_le_self _ _)
  have hels2 : Els (t.KR (Mut MX hp ρ) w) (List.replicate n.toNat d) (Builtin.zeroCells z.cells n.toNat).toList := by
    have h := madeCells_repl z.cells (by rw [hzs]; exact t.sz_pos) n.toNat
    rw [show Builtin.zeroCells z.cells n.toNat = madeCells z.cells (n.toNat * z.cells.size) by unfold Builtin.zeroCells madeCells; rfl, h]
    exact Els_replicate hd n.toNat
  have hnn : (n.toNat : Int) = n := by omega
  obtain ⟨v', w', h1, h2, h3, h4⟩ := run_append_zeros (P := P) w 0 T T2 ty e i z t.sz by_ hu hu2 hi hz hsz hby hzs t.sz_pos hby1 v l.length xs hown kx n.toNat (Els.one (sz := t.sz) (fun _ _ h => KR_one t h) hels2) hbytes (Nat.zero_le _)
  rw [hnn] at h1
  rw [List.length_replicate]
  exact ⟨v', w', _, h1, hels2, h2, h3, h4.imp id (fun h g hg => by rw [h] at hg; injection hg with hg; omega)⟩

/-- A string appended to bytes of one's own. -/
theorem run_append_str (t u ty e : TypeId) (i : TypeInfo) (ht : P.underlying t = some (.slice e)) (hu : P.underlying u = some .string) (hi : P.info? e = some i) (hz : i.zero = some (.int .u8 0)) (hsize : i.size = 1) (hby : i.bytes = 1)
    (v : Value) (n : Nat) (xs : List Value) (hown : w.ownsRow 0 e 1 v n xs) (s : ByteArray) (hbytes : n + s.size ≤ 140737488355328) :
    ∃ v' w', (Builtin.append_ #[t, u] ty #[v, .string s]).run P w = .ok v' w' ∧ w'.ownsRow 0 e 1 v' (n + s.size) (xs ++ Lib.strCells s) ∧ w.grownBy w' v.ownBlock ∧ (v'.ownBlock = v.ownBlock ∨ ∀ g, v'.ownBlock = some g → w.heap.size ≤ g) := by
  have h63 : n + s.size ≤ maxLen := by simp only [maxLen]; omega
  rcases hown.2 with ⟨rfl, rfl⟩ | ⟨g, cap, cur, rfl, hbg, hg, hnc, hcm, hcs, htake⟩
  · obtain ⟨v', w', h1, h2, h3, h4⟩ := Lib.run_append_own_string (P := P) w w.heap.size t u ty e i ht hu hi hz hsize hby (.slice none 0 0) 0 xs ⟨hown.1, .inl ⟨rfl, rfl⟩⟩ s h63 hbytes (Nat.le_refl _)
    refine ⟨v', w', h1, ⟨h2.1, h2.2.imp id fun ⟨g, cap, cur, a, _, c⟩ => ⟨g, cap, cur, a, Nat.zero_le _, c⟩⟩, h3, .inr fun g hg => (h2.lt g hg).1⟩
  · have hxl : xs.length = n := by simpa using hown.1
    have hlen : (xs ++ Lib.strCells s).length = (n + s.size) * 1 := by rw [List.length_append, hxl, Lib.strCells_length, Nat.mul_one]
    by_cases hroom : n + s.size ≤ cap
    · have hcs' : cur.size = cap := by simpa using hcs
      have hr := Lib.run_append_room_stringF (P := P) w t u ty e i ht hu hi hsize g n cap cur (0, 0) hg (Nat.zero_le _) s hroom (by omega)
      refine ⟨_, _, hr, ⟨hlen, .inr ⟨g, cap, _, rfl, hbg, setRow_heap w g cur _ e _ hg, hroom, hcm, ?_, ?_⟩⟩, ⟨rfl, rfl, rfl, by simp, fun k _ hk => setRow_other w g k _ (fun e => hk (by simp [Value.ownBlock, e]))⟩, .inl rfl⟩
      · simp only [List.size_toArray, List.length_append, List.length_take, List.length_drop, Array.length_toList, Lib.strCells_length]
        omega
      · have ht' : cur.toList.take n = xs := by simpa using htake
        rw [ht', ← hlen]
        exact List.take_left
    · have holds : ∀ j u, xs[j]? = some u → w.cell? ((⟨g, 0, none⟩ : Addr).add j) = some u := hown.cells (g := g) rfl
      have hr := Lib.run_append_grow_string (P := P) w t u ty e i (.int .u8 0) ht hu hi hz ⟨g, 0, none⟩ n cap xs (by rw [hsize]; simpa using hxl) holds s (by omega) (by omega) (by rw [hby]; exact growslice_fits (by omega) (by omega))
      have hge := grownCap_ge w (n + s.size) cap e
      have hcm2 : grownCap w (n + s.size) cap e ≤ maxLen := grownCap_le_maxLen w (n + s.size) cap e h63
      refine ⟨_, _, hr, ⟨hlen, .inr ⟨w.heap.size, _, _, rfl, Nat.zero_le _, heap_alloc_new w.drew _, hge, hcm2, ?_, ?_⟩⟩, ⟨rfl, rfl, rfl, by simp, fun k hk _ => by first | exact heap_alloc_old w.drew _ k hk | exact heap_alloc_old w.drew _ hk⟩, .inr fun g hg => ?_⟩
      · have hz1 : (Value.int IntKind.u8 0).cells.size = 1 := rfl
        simp only [Array.size_append, List.size_toArray, size_zeroCells, hz1, hxl, Lib.strCells_length]
        omega
      · simp only [Array.toList_append, List.append_assoc]
        rw [← List.append_assoc, ← hlen]
        exact List.take_left
      · simp only [Value.ownBlock] at hg
        injection hg with hg
        omega

theorem strCells_els {M : Nat → Prop} (s : ByteArray) : Els (Ty.KR M w (.int .u8)) (numsOf s) (Lib.strCells s) := by
  have key : ∀ l : List UInt8, Els (Ty.KR M w (.int .u8)) (l.map fun b => (b.toNat : Int)) (l.map fun b => Value.int .u8 (b.toNat : Int)) := by
    intro l
    induction l with
    | nil => rfl
    | cons x l ih => exact ⟨[.int .u8 (x.toNat : Int)], _, rfl, rfl, ih⟩
  have h := key s.data.toList
  unfold numsOf
  have e : Lib.strCells s = s.data.toList.map fun b => Value.int .u8 (b.toNat : Int) := by
    simp [Lib.strCells]
  rw [e]
  exact h

theorem putStr_sound (H : HRel MX w ρ hp) {hp1 : Heap} (hq : ∀ q, hp1 q = hp q ∨ (hp1 q = .gone ∧ hp q ≠ .unused)) (hqb : ∀ q, hp1 q = .gone → ∀ cs, hp q ≠ .box cs) {T T2 ty e : TypeId} {i : TypeInfo} {l : List Int} {v : Value} {xs : List Value} {s : ByteArray}
    (hu : P.underlying T = some (.slice e)) (hu2 : P.underlying T2 = some .string) (hi : P.info? e = some i) (hz : i.zero = some (.int .u8 0)) (hsz : i.size = 1) (hby : i.bytes = 1)
    (hown : w.ownsRow 0 e 1 v l.length xs) (hels : Els (Ty.KR (Mut MX hp ρ) w (.int .u8)) l xs) (hlv : ∀ g, v.ownBlock = some g → Lv hp ρ g ∧ ∀ j, live (hp1 j) → blk (ρ j) ≠ some g)
    (hk : (putRow e (.int .u8) 1 l (numsOf s)).go b hp1 rs ws K = some r) :
    ∃ x b' hp' rs' ws' v' w' ρ', K x b' hp' rs' ws' = some r ∧ (Builtin.append_ #[T, T2] ty #[v, .string s]).run P w = .ok v' w' ∧ Step MX w ρ hp w' ρ' hp' ∧ R (Mut MX hp' ρ') w' ρ' hp' x v' := by
  refine putRow_core (t := .int .u8) (T := T) (T2 := T2) (vx := .string s) H hq hqb hels hlv (fun hle => ?_) hk
  have hl := numsOf_length s
  rw [Nat.div_one] at hle
  have hle : l.length + (numsOf s).length ≤ 140737488355328 := hle
  obtain ⟨v', w', h1, h2, h3, h4⟩ := run_append_str (P := P) (w := w) T T2 ty e i hu hu2 hi hz hsz hby v l.length xs hown s (by omega)
  refine ⟨v', w', _, h1, strCells_els s, ?_, h3, h4⟩
  have e1 : l.length + (numsOf s).length = l.length + s.size := by omega
  show w'.ownsRow 0 e 1 v' (l.length + (numsOf s).length) _
  rw [e1]
  exact h2

end
theorem els_byte {M : Nat → Prop} {w : World} : {l : List Int} → {xs : List Value} → Els (Ty.KR M w (.int .u8)) l xs → xs = l.map (Value.int .u8)
  | [], _, h => h
  | x :: l, _, ⟨c, r, e, hc, hr⟩ => by
    have hc : c = [.int .u8 x] := hc
    rw [e, hc, els_byte hr]
    rfl
theorem BRow.put {w : World} {g c : Nat} {l : List Int} (h : BRow w g l c) (m : List Int) (hm : l.length + m.length ≤ c) : BRow (w.setCells g l.length (m.map (Value.int .u8))) g (l ++ m) c := by
  obtain ⟨extra, e, fr, hc, hf, hh⟩ := h
  have key : ∀ (ys : List Value) (o : Nat) (W : World) (cur : Array Value), W.heap[g]? = some (.cells cur e fr) → o + ys.length ≤ cur.size → (W.setCells g o ys).heap[g]? = some (.cells (cur.toList.take o ++ ys ++ cur.toList.drop (o + ys.length)).toArray e fr) := by
    intro ys
    induction ys with
    | nil =>
      intro o W cur h _
      show W.heap[g]? = _
      rw [h]
      simp
    | cons y r ih =>
      intro o W cur h hl
      simp only [List.length_cons] at hl
      have h2 : (W.setCell ⟨g, o, none⟩ y).heap[g]? = some (.cells (cur.setIfInBounds o y) e fr) := by
        have hlt : g < W.heap.size := (Array.getElem?_eq_some_iff.1 h).1
        have hv : W.heap[g] = _ := (Array.getElem?_eq_some_iff.1 h).2
        simp only [World.setCell]
        rw [Array.getElem?_eq_getElem (by simpa using hlt), Array.getElem_modify]
        simp [hv]
      rw [World.setCells, ih (o + 1) _ _ h2 (by simp; omega)]
      congr 2
      apply Array.ext'
      have ho : o < cur.toList.length := by rw [Array.length_toList]; omega
      simp only [Array.toList_setIfInBounds, List.length_cons]
      rw [List.take_set, List.drop_set_of_lt (by omega), List.take_succ_eq_append_getElem ho, List.set_append_right _ _ (by rw [List.length_take]; omega), show o + 1 + r.length = o + (r.length + 1) by omega]
      have ho' : o < cur.size := by omega
      simp [Nat.min_eq_left (Nat.le_of_lt ho')]
  have hsz : (l.map (Value.int .u8) ++ extra).toArray.size = c := by simp; omega
  refine ⟨extra.drop m.length, e, fr, by simp; omega, hf, ?_⟩
  rw [key (m.map (Value.int .u8)) l.length w _ hh (by rw [hsz]; simpa using hm)]
  congr 2
  simp only [List.map_append, List.length_map, List.append_assoc]
  have e1 : (l.map (Value.int .u8) ++ extra).take l.length = l.map (Value.int .u8) := List.take_left' (by simp)
  have e2 : (l.map (Value.int .u8) ++ extra).drop (l.length + m.length) = extra.drop m.length := by
    rw [List.drop_append, List.drop_eq_nil_of_le (by simp), List.nil_append]
    congr 1
    simp
  rw [e1, e2]
section
variable {P : Program} {w : World}
set_option maxHeartbeats 1000000 in
/-- append of cells that are read once. -/
theorem run_append_bts (t u ty e : TypeId) (i : TypeInfo) (d : TypeDesc) (ht : P.underlying t = some (.slice e)) (hu : P.underlying u = some d) (hd : d = .string ∨ ∃ q, d = .slice q) (hi : P.info? e = some i) (hz : i.zero = some (.int .u8 0)) (hsize : i.size = 1) (hby : i.bytes = 1)
    {g c : Nat} {l m : List Int} (h : BRow w g l c) (hlc : l.length ≤ c) (x : Value) (hx : (Builtin.lenOf x).run P w = .ok m.length w) (hf : ∀ W, (∀ a, W.cell? a = w.cell? a) → (Builtin.firstCells 1 m.length x).run P W = .ok (m.map (Value.int .u8)).toArray W) (hbytes : l.length + m.length ≤ 140737488355328) :
    ∃ g' c' w', (Builtin.append_ #[t, u] ty #[.slice (some ⟨g, 0, none⟩) l.length c, x]).run P w = .ok (.slice (some ⟨g', 0, none⟩) (l.length + m.length) c') w' ∧ l.length + m.length ≤ c' ∧ BRow w' g' (l ++ m) c' ∧ w.grownBy w' (some g) ∧ (g' = g ∨ g' = w.heap.size) := by
  have hl := run_loadCells_list (P := P)
  by_cases hroom : l.length + m.length ≤ c
  · have hst := run_storeCells_cells (P := P) g l.length (m.map (Value.int .u8)) 0 w (fun j hj => by
        obtain ⟨extra, e0, fr, hc, hfr, hh⟩ := h
        simp only [List.length_map] at hj
        simp only [World.cell?, hh]
        rw [Array.getElem?_eq_getElem (by simp; omega)]
        rfl) (fun j hj => h.frozen' (by simp only [List.length_map] at hj; omega)) (fun v hv => by
        obtain ⟨y, _, rfl⟩ := List.mem_map.1 hv
        rfl)
    obtain ⟨s1, s2, s3, s4⟩ := Z.setCells_same g (m.map (Value.int .u8)) l.length w
    refine ⟨g, c, w.setCells g l.length (m.map (Value.int .u8)), ?_, hroom, h.put m hroom, ⟨s1, s2, s3, by rw [s4]; exact Nat.le_refl _, fun k _ hk => Z.setCells_far _ _ k (fun e => hk (by rw [e]))⟩, .inl rfl⟩
    have ha : (⟨g, 0, none⟩ : Addr).add l.length = ⟨g, l.length, none⟩ := Z.add_plain g _
    simp only [Nat.add_zero] at hst
    rcases hd with rfl | ⟨q, rfl⟩
    all_goals simp [Builtin.append_, run_underlying ht, run_underlying hu, sizeOf, typeInfo, hi, hsize, hx, hroom, hf w (fun _ => rfl), ha, hst]
  · have hfit := growslice_fits (old := c) (need := l.length + m.length) (bytes := 1) (by omega) (by omega)
    have h48 : ¬ (281474976710656 < Builtin.nextslicecap (l.length + m.length) c) := by omega
    have hfo := run_firstCells_some (P := P) w.drew 1 l.length ⟨g, 0, none⟩ l.length c (l.map (Value.int .u8)) (by simp) (fun j v hj => by
      rw [Z.add_plain]
      rw [List.getElem?_map] at hj
      cases hq : l[j]? with
      | none => rw [hq] at hj; cases hj
      | some y =>
        rw [hq] at hj
        have hjl := (List.getElem?_eq_some_iff.1 hq).1
        have := h.cell hjl
        rw [List.getD_eq_getElem?_getD, hq] at this
        rw [← hj]
        exact this)
    have hfx := hf w.drew (fun _ => rfl)
    have hge := grownCap_ge w (l.length + m.length) c e
    refine ⟨w.heap.size, grownCap w (l.length + m.length) c e, w.drew.alloc (.cells ((l.map (Value.int .u8)).toArray ++ (m.map (Value.int .u8)).toArray ++ Builtin.zeroCells (Value.int .u8 0).cells (grownCap w (l.length + m.length) c e - (l.length + m.length))) e), ?_, hge, ⟨(Builtin.zeroCells (Value.int .u8 0).cells (grownCap w (l.length + m.length) c e - (l.length + m.length))).toList, e, (0, 0), ?_, .inl rfl, ?_⟩, ⟨rfl, rfl, rfl, by simp, fun k hk _ => heap_alloc_old w.drew _ hk⟩, .inr rfl⟩
    · rcases hd with rfl | ⟨q, rfl⟩
      all_goals
        simp [Builtin.append_, run_underlying ht, run_underlying hu, sizeOf, typeInfo, zeroValue, hi, hz, hsize, hby, hx, hroom, h48, Question.forced, hfo, hfx, newRow, grownCap]
        congr 2
        apply Array.ext'
        simp
    · have hz1 : (Value.int IntKind.u8 0).cells.size = 1 := rfl
      simp [size_zeroCells, hz1]
      omega
    · refine (heap_alloc_new w.drew _).trans ?_
      congr 2
      apply Array.ext'
      simp
end
section
variable {P : Program} {MX : Nat → Prop} {w : World} {ρ : Nat → Value} {hp : Heap} {X : Type} {b : Nat} {rs ws : List Nat} {K : AV → Nat → Heap → List Nat → List Nat → Option X} {r : X}
theorem putBts_core (H : HRel MX w ρ hp) {q : Nat} {l m : List Int} (hq0 : hp q = .bts l) {T T2 ty : TypeId} {vx : Value}
    (main : ∀ g c, ρ q = .slice (some ⟨g, 0, none⟩) l.length c → l.length ≤ c → BRow w g l c → l.length + m.length ≤ 140737488355328 → ∃ g' c' w', (Builtin.append_ #[T, T2] ty #[.slice (some ⟨g, 0, none⟩) l.length c, vx]).run P w = .ok (.slice (some ⟨g', 0, none⟩) (l.length + m.length) c') w' ∧ l.length + m.length ≤ c' ∧ BRow w' g' (l ++ m) c' ∧ w.grownBy w' (some g) ∧ (g' = g ∨ g' = w.heap.size))
    (hk : (putBts l m).go b (upd hp q .gone) rs ws K = some r) :
    ∃ x b' hp' rs' ws' v' w' ρ', K x b' hp' rs' ws' = some r ∧ (Builtin.append_ #[T, T2] ty #[ρ q, vx]).run P w = .ok v' w' ∧ Step MX w ρ hp w' ρ' hp' ∧ R (Mut MX hp' ρ') w' ρ' hp' x v' := by
  unfold putBts at hk
  simp only [Eff.go] at hk
  split at hk
  case isFalse => cases hk
  rename_i hle
  split at hk
  case h_2 => cases hk
  rename_i hu'
  have hok := H.ok q
  rw [hq0] at hok
  obtain ⟨g, c, h1, h2, h3⟩ := hok
  obtain ⟨g', c', w', hrun, hc', hrow, hg, hat_⟩ := main g c h1 h2 h3 hle
  have hqb : q ≠ b := by
    intro e
    subst e
    rw [upd_same] at hu'
    cases hu'
  have hbs : hp b = .unused := by rw [upd_ne _ _ (Ne.symm hqb)] at hu'; exact hu'
  have hoff : Off (fun x => some g = some x) w w' := Off.grown hg
  have blkq : blk (ρ q) = some g := by rw [h1]; rfl
  have hlq : live (hp q) := by rw [hq0]; trivial
  have hlv : Lv hp ρ g := ⟨q, hlq, blkq⟩
  have hsep : ∀ j, live (upd hp q .gone j) → blk (ρ j) ≠ some g := by
    intro j hj hbj
    by_cases hjq : j = q
    · subst hjq; rw [upd_same] at hj; exact hj
    · rw [upd_ne _ _ hjq] at hj
      exact hjq (H.sep j q g hj hlq hbj blkq)
  have hl1 : ∀ j, live (upd hp q .gone j) → live (hp j) := by
    intro j hj
    by_cases hjq : j = q
    · subst hjq; exact hlq
    · rwa [upd_ne _ _ hjq] at hj
  have lvi : ∀ j x, live (upd (upd hp q .gone) b (.bts (l ++ m)) j) → blk (upd ρ b (.slice (some ⟨g', 0, none⟩) (l.length + m.length) c') j) = some x → (j = b ∧ x = g') ∨ (j ≠ b ∧ live (upd hp q .gone j) ∧ blk (ρ j) = some x) := by
    intro j x hl hb'
    by_cases hjb : j = b
    · subst hjb
      rw [upd_same] at hb'
      injection hb' with hb'
      exact .inl ⟨rfl, hb'.symm⟩
    · rw [upd_ne _ _ hjb] at hl hb'
      exact .inr ⟨hjb, hl, hb'⟩
  have old : ∀ j, hp j ≠ .unused → upd ρ b (.slice (some ⟨g', 0, none⟩) (l.length + m.length) c') j = ρ j ∧ upd (upd hp q .gone) b (.bts (l ++ m)) j ≠ .unused := by
    intro j hj
    have hne : j ≠ b := fun e => hj (e ▸ hbs)
    rw [upd_ne _ _ hne, upd_ne _ _ hne]
    refine ⟨rfl, ?_⟩
    by_cases hjq : j = q
    · subst hjq; rw [upd_same]; simp
    · rw [upd_ne _ _ hjq]; exact hj
  have nwl : ∀ x, x < w.heap.size → Lv (upd (upd hp q .gone) b (.bts (l ++ m))) (upd ρ b (.slice (some ⟨g', 0, none⟩) (l.length + m.length) c')) x → Lv hp ρ x := by
    rintro x hlt ⟨j, hl, hbj⟩
    rcases lvi j x hl hbj with ⟨_, rfl⟩ | ⟨_, k1, k2⟩
    · rcases hat_ with e | e
      · rw [e]; exact hlv
      · omega
    · exact ⟨j, hl1 j k1, k2⟩
  refine ⟨_, _, _, _, _, _, w', upd ρ b (.slice (some ⟨g', 0, none⟩) (l.length + m.length) c'), hk, by rw [h1]; exact hrun, ?_, by rw [upd_same]; simp, by rw [upd_same], ⟨_, _, _, rfl⟩⟩
  refine Step.mk' (D := fun x => some g = some x) H hoff (fun x _ h => by injection h with h; rw [← h]; exact hlv) old nwl ?_ ?_ ?_ (fun j cs hj => ?_)
  case refine_4 =>
    left
    have hjb : j ≠ b := fun e => by rw [e, hbs] at hj; cases hj
    have hjq : j ≠ q := fun e => by rw [e, hq0] at hj; cases hj
    refine ⟨by rw [upd_ne _ _ hjb, upd_ne _ _ hjq], fun x hbx hD => ?_⟩
    injection hD with hD
    exact hsep j (by rw [upd_ne _ _ hjq, hj]; trivial) (by rw [hD]; exact hbx)
  · intro j
    by_cases hjb : j = b
    · subst hjb
      right
      rw [upd_same]
      refine ⟨g', c', ?_, ?_, hrow⟩
      · rw [upd_same, List.length_append]
      · rw [List.length_append]; exact hc'
    · by_cases hjq : j = q
      · right
        rw [upd_ne _ _ hjb, hjq, upd_same]
        trivial
      · refine .inl ⟨by rw [upd_ne _ _ hjb, upd_ne _ _ hjq], upd_ne _ _ hjb, fun hl x hbx hD => ?_⟩
        injection hD with hD
        exact hsep j (by rw [upd_ne _ _ hjq]; exact hl) (by rw [hD]; exact hbx)
  · intro j j' x hl hl' hbj hbj'
    rcases lvi j x hl hbj with ⟨rfl, e1⟩ | ⟨_, k1, k2⟩ <;> rcases lvi j' x hl' hbj' with ⟨rfl, e2⟩ | ⟨_, k3, k4⟩
    · rfl
    · exfalso
      rcases hat_ with e | e
      · exact hsep j' k3 (by rw [k4, e1, e])
      · have := H.lt (hl1 j' k3) k4; omega
    · exfalso
      rcases hat_ with e | e
      · exact hsep j k1 (by rw [k2, e2, e])
      · have := H.lt (hl1 j k1) k2; omega
    · exact H.sep j j' x (hl1 j k1) (hl1 j' k3) k2 k4
  · intro j x hl hbj hmx
    rcases lvi j x hl hbj with ⟨rfl, e1⟩ | ⟨_, k1, k2⟩
    · rcases hat_ with e | e
      · exact H.ext q x hlq (by rw [blkq, e1, e]) hmx
      · have := H.mx x hmx; omega
    · exact H.ext j x (hl1 j k1) k2 hmx
end
theorem first_str {P : Program} (s : ByteArray) (W : World) : (Builtin.firstCells 1 (numsOf s).length (.string s)).run P W = .ok ((numsOf s).map (Value.int .u8)).toArray W := by
  have hl : (List.map (fun b : UInt8 => Value.int .u8 b.toNat) s.data.toList).length = s.size := by simp
  have hm : (numsOf s).map (Value.int .u8) = List.map (fun b : UInt8 => Value.int .u8 b.toNat) s.data.toList := by
    rw [numsOf, List.map_map]
    rfl
  rw [hm, numsOf_length]
  simp [Builtin.firstCells]
  apply Array.ext'
  simp
section
variable {Rt : Type} {P : Program} {MX : Nat → Prop} {w : World} {ρ : Nat → Value} {hp : Heap} {b : Nat} {rs ws : List Nat} {K : AV → Nat → Heap → List Nat → List Nat → Option Rt} {r : Rt}
theorem appendZE_sound (H : HRel MX w ρ hp) {T T2 ty e : TypeId} (hu : P.underlying T = some (.slice e)) {s x : AV} {vs vx : Value} (hs : R (Mut MX hp ρ) w ρ hp s vs) (hx : R (Mut MX hp ρ) w ρ hp x vx) (hk : (appendZE P T2 e s x).go b hp rs ws K = some r) :
    ∃ x b' hp' rs' ws' v' w' ρ', K x b' hp' rs' ws' = some r ∧ (Builtin.append_ #[T, T2] ty #[vs, vx]).run P w = .ok v' w' ∧ Step MX w ρ hp w' ρ' hp' ∧ R (Mut MX hp' ρ') w' ρ' hp' x v' := by
  unfold appendZE at hk
  split at hk
  case h_3 => cases hk
  case h_2 =>
    rename_i x hu2
    rw [show vx = _ from hx]
    split at hk
    case h_2 => cases hk
    rename_i hsz hz hby
    obtain ⟨i, hi, hz'⟩ : ∃ i, P.info? e = some i ∧ i.zero = some (.int .u8 0) := by
      cases hi : P.info? e with
      | none => rw [hi] at hz; cases hz
      | some i => rw [hi] at hz; exact ⟨i, rfl, hz⟩
    have hsi : i.size = 1 := by simpa [sizeAt, hi] using hsz
    have hbi : i.bytes = 1 := by simpa [hi] using hby
    split at hk
    · rw [show vs = _ from hs]
      exact putStr_sound (l := []) H (fun q => .inl rfl) (fun q h cs => by rw [h]; simp) hu hu2 hi hz' hsi hbi (World.ownsRow_nil w 0 e 1) rfl (fun g hg => by simp [Value.ownBlock] at hg) hk
    · rename_i q
      obtain ⟨hne, rfl, A0, n0, c0, hv⟩ := hs
      simp only [Eff.go] at hk
      have hok := H.ok q
      split at hk
      case h_3 => cases hk
      case h_2 =>
        rename_i l hq
        simp only [Eff.go] at hk
        refine putBts_core H hq (fun g c q1 q2 q3 q4 => run_append_bts T T2 ty e i .string hu hu2 (.inl rfl) hi hz' hsi hbi q3 q2 (.string x) ?_ (fun W _ => first_str x W) q4) hk
        rw [numsOf_length]
        simp [Builtin.lenOf]
      rename_i e' l hq
      split at hk
      case h_2 => cases hk
      rename_i he
      have he := Nat.eq_of_beq_eq_true he
      subst he
      rw [hq] at hok
      obtain ⟨xs, g1, g2⟩ := hok
      simp only [Eff.go] at hk
      have hqq : ∀ j, upd hp q .gone j = hp j ∨ (upd hp q .gone j = .gone ∧ hp j ≠ .unused) := by
        intro j
        by_cases hj : j = q
        · subst hj; exact .inr ⟨upd_same _ _ _, by rw [hq]; simp⟩
        · exact .inl (upd_ne _ _ hj)
      have hqb : ∀ j, upd hp q .gone j = .gone → ∀ cs, hp j ≠ .box cs := by
        intro j h cs hj
        by_cases hjq : j = q
        · subst hjq; rw [hq] at hj; cases hj
        · rw [upd_ne _ _ hjq, hj] at h; cases h
      refine putStr_sound H hqq hqb hu hu2 hi hz' hsi hbi g1 g2 (fun g hg => ?_) hk
      have hbg : blk (ρ q) = some g := by rw [blk_own ⟨A0, n0, c0, hv⟩]; exact hg
      refine ⟨⟨q, by rw [hq]; trivial, hbg⟩, fun j hj hbj => ?_⟩
      by_cases hjq : j = q
      · subst hjq; rw [upd_same] at hj; exact hj
      · rw [upd_ne _ _ hjq] at hj
        exact hjq (H.sep j q g hj (by rw [hq]; trivial) hbj hbg)
    · cases hk
  rename_i k kx n hu2
  rw [show vx = _ from hx]
  split at hk
  case h_2 => cases hk
  rename_i t sz z by_ ht hsz hz hby
  split at hk
  case h_2 => cases hk
  rename_i d h1 h2 h3 h4 h5
  have h1 := Nat.eq_of_beq_eq_true h1
  have h3 := Nat.le_of_ble_eq_true h3
  have h4 := Nat.eq_of_beq_eq_true h4
  subst h1
  obtain ⟨i, z', hi, hz', hr⟩ := zeroCellsAt_some hz
  have hzl : z'.cells.size = t.sz := by
    have := Rs_len (hr (fun _ => False) w ρ hp)
    simp at this; omega
  have hsi : i.size = t.sz := by simpa [sizeAt, hi] using hsz
  have hbi : i.bytes = by_ := by simpa [hi] using hby
  have hkz := dec_sound (M := Mut MX hp ρ) (w := w) (ρ := ρ) (hp := hp) t h5 (hr _ _ _ _)
  simp only [Eff.go] at hk
  split at hk
  case isFalse => cases hk
  rename_i hn
  split at hk
  · rw [show vs = _ from hs]
    exact putZeros_sound (l := []) H (fun q => .inl rfl) (fun q h cs => by rw [h]; simp) hu hu2 hi hz' hsi hbi hzl h3 hkz (World.ownsRow_nil w 0 e t.sz) rfl (fun g hg => by simp [Value.ownBlock] at hg) hn hk
  · rename_i q
    obtain ⟨hne, rfl, A0, n0, c0, hv⟩ := hs
    simp only [Eff.go] at hk
    have hok := H.ok q
    split at hk
    case h_2 => cases hk
    rename_i e' t' l hq
    split at hk
    case h_2 => cases hk
    rename_i h he _
    have he := Nat.eq_of_beq_eq_true he
    subst he h
    rw [hq] at hok
    obtain ⟨xs, g1, g2⟩ := hok
    simp only [Eff.go] at hk
    have hqq : ∀ j, upd hp q .gone j = hp j ∨ (upd hp q .gone j = .gone ∧ hp j ≠ .unused) := by
      intro j
      by_cases hj : j = q
      · subst hj; exact .inr ⟨upd_same _ _ _, by rw [hq]; simp⟩
      · exact .inl (upd_ne _ _ hj)
    have hqb : ∀ j, upd hp q .gone j = .gone → ∀ cs, hp j ≠ .box cs := by
      intro j h cs hj
      by_cases hjq : j = q
      · subst hjq; rw [hq] at hj; cases hj
      · rw [upd_ne _ _ hjq, hj] at h; cases h
    refine putZeros_sound H hqq hqb hu hu2 hi hz' hsi hbi hzl h3 hkz g1 g2 (fun g hg => ?_) hn hk
    have hbg : blk (ρ q) = some g := by rw [blk_own ⟨A0, n0, c0, hv⟩]; exact hg
    refine ⟨⟨q, by rw [hq]; trivial, hbg⟩, fun j hj hbj => ?_⟩
    by_cases hjq : j = q
    · subst hjq; rw [upd_same] at hj; exact hj
    · rw [upd_ne _ _ hjq] at hj
      exact hjq (H.sep j q g hj (by rw [hq]; trivial) hbj hbg)
  · cases hk

theorem appendE_sound (H : HRel MX w ρ hp) {T T2 ty : TypeId} {s x : AV} {vs vx : Value} (hs : R (Mut MX hp ρ) w ρ hp s vs) (hx : R (Mut MX hp ρ) w ρ hp x vx) (hk : (appendE P T T2 s x).go b hp rs ws K = some r) :
    ∃ x b' hp' rs' ws' v' w' ρ', K x b' hp' rs' ws' = some r ∧ (Builtin.append_ #[T, T2] ty #[vs, vx]).run P w = .ok v' w' ∧ Step MX w ρ hp w' ρ' hp' ∧ R (Mut MX hp' ρ') w' ρ' hp' x v' := by
  unfold appendE at hk
  split at hk
  case h_3 => cases hk
  case h_2 => exact appendZE_sound H ‹_› hs hx hk
  rename_i e hT hu
  have hT := Nat.eq_of_beq_eq_true hT
  subst hT
  split at hk
  case h_2 => cases hk
  rename_i t sz z by_ ht hsz hz hby
  split at hk
  case h_2 => cases hk
  rename_i h1 h2 h3 h4
  have h1 := Nat.eq_of_beq_eq_true h1
  have h3 := Nat.le_of_ble_eq_true h3
  have h4 := Nat.eq_of_beq_eq_true h4
  subst h1
  obtain ⟨i, z', hi, hz', hr⟩ := zeroCellsAt_some hz
  have hzl : z'.cells.size = t.sz := by
    have := Rs_len (hr (fun _ => False) w ρ hp)
    simp at this; omega
  have hsi : i.size = t.sz := by simpa [sizeAt, hi] using hsz
  have hbi : i.bytes = by_ := by simpa [hi] using hby
  split at hk
  · rw [show vs = _ from hs]
    obtain ⟨m, rs', A, c, hk, rfl, hle, hm⟩ := moreE_sound H (fun q => .inl rfl) hx hk
    exact putRow_sound (l := []) H (fun q => .inl rfl) (fun q h cs => by rw [h]; simp) hu hi hz' hsi hbi hzl h3 (World.ownsRow_nil w 0 e t.sz) rfl (fun g hg => by simp [Value.ownBlock] at hg) hm hk
  · rename_i q
    obtain ⟨hne, rfl, A0, n0, c0, hv⟩ := hs
    simp only [Eff.go] at hk
    have hok := H.ok q
    split at hk
    case h_3 => cases hk
    case h_2 =>
      rename_i l hq
      split at hk
      case h_2 => cases hk
      rename_i ht8 hd8 hb1 hz9
      have hb1 := Nat.eq_of_beq_eq_true hb1
      subst ht8 hb1
      simp only [Eff.go] at hk
      have hqq : ∀ j, upd hp q .gone j = hp j ∨ (upd hp q .gone j = .gone ∧ hp j ≠ .unused) := by
        intro j
        by_cases hj : j = q
        · subst hj; exact .inr ⟨upd_same _ _ _, by rw [hq]; simp⟩
        · exact .inl (upd_ne _ _ hj)
      obtain ⟨m, rs', A, c, hk, rfl, hle, hm⟩ := moreE_sound H (fun j => (hqq j).imp id (·.1)) hx hk
      have hz8 : i.zero = some (.int .u8 0) := by
        rw [hi] at hz9
        exact hz9
      refine putBts_core H hq (fun g c' q1 q2 q3 q4 => run_append_bts T T ty e i (.slice e) hu hu (.inr ⟨_, rfl⟩) hi hz8 hsi hbi q3 q2 (.slice A m.length c) ?_ (fun W hW => ?_) q4) hk
      · simp [Builtin.lenOf]
        rfl
      · rcases hm with ⟨rfl, rfl⟩ | ⟨a, ys, rfl, hy, hcell⟩
        · show (Builtin.firstCells 1 0 (.slice none 0 c)).run P W = .ok #[] W
          simp [Builtin.firstCells]
        · have e0 := els_byte hy
          subst e0
          exact run_firstCells_some (P := P) W 1 m.length a m.length c (m.map (Value.int .u8)) (by exact Eq.trans (List.length_map (α := Int) (Value.int .u8)) (Nat.mul_one _).symm) (fun j v hj => by rw [hW]; exact hcell j v hj)
    rename_i e' t' l hq
    split at hk
    case h_2 => cases hk
    rename_i h he _
    have he := Nat.eq_of_beq_eq_true he
    subst he h
    rw [hq] at hok
    obtain ⟨xs, g1, g2⟩ := hok
    simp only [Eff.go] at hk
    have hqq : ∀ j, upd hp q .gone j = hp j ∨ (upd hp q .gone j = .gone ∧ hp j ≠ .unused) := by
      intro j
      by_cases hj : j = q
      · subst hj; exact .inr ⟨upd_same _ _ _, by rw [hq]; simp⟩
      · exact .inl (upd_ne _ _ hj)
    obtain ⟨m, rs', A, c, hk, rfl, hle, hm⟩ := moreE_sound H (fun j => (hqq j).imp id (·.1)) hx hk
    have hqb : ∀ j, upd hp q .gone j = .gone → ∀ cs, hp j ≠ .box cs := by
      intro j h cs hj
      by_cases hjq : j = q
      · subst hjq; rw [hq] at hj; cases hj
      · rw [upd_ne _ _ hjq, hj] at h; cases h
    refine putRow_sound H hqq hqb hu hi hz' hsi hbi hzl h3 g1 g2 (fun g hg => ?_) hm hk
    have hbg : blk (ρ q) = some g := by rw [blk_own ⟨A0, n0, c0, hv⟩]; exact hg
    refine ⟨⟨q, by rw [hq]; trivial, hbg⟩, fun j hj hbj => ?_⟩
    by_cases hjq : j = q
    · subst hjq; rw [upd_same] at hj; exact hj
    · rw [upd_ne _ _ hjq] at hj
      exact hjq (H.sep j q g hj (by rw [hq]; trivial) hbj hbg)
  · cases hk

theorem strOf_foldl (l : List Int) (s : ByteArray) : l.foldl (fun r n => r.push (UInt8.ofNat n.toNat)) s = ⟨s.data ++ (l.map fun n => UInt8.ofNat n.toNat).toArray⟩ := by
  induction l generalizing s with
  | nil => simp
  | cons x l ih =>
    rw [List.foldl_cons, ih]
    simp [ByteArray.push]

theorem run_bytes_str {S T e : TypeId} (hu : P.underlying S = some (.slice e)) (he : P.underlying e = some (.int .u8)) (hd : P.underlying T = some .string) {M : Nat → Prop} {l : List Int} {A : Option Addr} {c : Nat}
    (h : (A = none ∧ l = []) ∨ ∃ a xs, A = some a ∧ Els (Ty.KR M w (.int .u8)) l xs ∧ ∀ (q : Nat) (u : Value), xs[q]? = some u → w.cell? (a.add q) = some u) : (convert S T (.slice A l.length c)).run P w = .ok (.string (strOf l)) w := by
  rw [run_convert_bytes_string w S T e A l.length c hu he hd]
  rcases h with ⟨rfl, rfl⟩ | ⟨a, xs, rfl, hels, hc⟩
  · simp [Conv.bytesToString, strOf]; rfl
  · have hx : xs = l.map (Value.int .u8) := by
      clear hc
      induction l generalizing xs with
      | nil => exact hels
      | cons y l ih =>
        obtain ⟨c, q, rfl, hy, hq⟩ := hels
        rw [show c = [.int .u8 y] from hy, ih q hq]
        rfl
    subst hx
    have hl : (loadCells a l.length).run P w = .ok (l.map (Value.int .u8)).toArray w := by
      have := run_loadCells_list (P := P) w a _ hc
      simpa using this
    rw [run_bytesToString w a l.length c l hl, strOf_foldl]
    congr 2
    show ByteArray.mk (#[] ++ _) = _
    rw [Array.empty_append]
    rfl

theorem els_ints {k : IntKind} {M : Nat → Prop} {w : World} : (l : List Int) → Els (Ty.KR M w (.int k)) l (l.map (Value.int k))
  | [] => rfl
  | x :: l => ⟨[.int k x], l.map (Value.int k), rfl, rfl, els_ints l⟩
theorem lt_of_get' {α : Type} {l : List α} {k : Nat} {x : α} (h : l[k]? = some x) : k < l.length := (List.getElem?_eq_some_iff.1 h).1

theorem convE_sound (H : HRel MX w ρ hp) {S T : TypeId} {x : AV} {vx : Value} (hx : R (Mut MX hp ρ) w ρ hp x vx) (hk : (convE P S T x).go b hp rs ws K = some r) :
    ∃ x v rs', K x b hp rs' ws = some r ∧ (convert S T vx).run P w = .ok v w ∧ R (Mut MX hp ρ) w ρ hp x v := by
  unfold convE at hk
  split at hk
  · rename_i k0 k k1 n hS hT
    rw [show vx = _ from hx]
    exact ⟨_, _, _, hk, by simp [convert, run_underlying hS, run_underlying hT, Conv.intToInt, wrp_eq], rfl⟩
  · rename_i s hS hT
    rw [show vx = _ from hx]
    exact ⟨_, _, _, hk, by simp [convert, run_underlying hS, run_underlying hT], rfl⟩
  · rename_i e hS hT
    split at hk
    · rename_i l he
      obtain ⟨A, c, rfl, hle, hr⟩ := hx
      exact ⟨_, _, _, hk, run_bytes_str hS he hT (con_cells hr), rfl⟩
    · rename_i he
      rw [show vx = _ from hx]
      exact ⟨_, _, _, hk, run_bytes_str (M := Mut MX hp ρ) (l := []) hS he hT (.inl ⟨rfl, rfl⟩), rfl⟩
    · rename_i i he
      obtain ⟨hne, rfl, A0, n0, c0, hv⟩ := hx
      simp only [Eff.go] at hk
      have hok := H.ok i
      split at hk
      · rename_i e' l hi
        rw [hi] at hok
        obtain ⟨xs, h1, h2⟩ := hok
        have hc := fun g hg => World.ownsRow.cells h1 (g := g) hg
        rcases h1.2 with ⟨h3, h4⟩ | ⟨g, cap, cur, h3, _, hh, hle, _⟩
        · have hl := List.eq_nil_of_length_eq_zero h4
          subst hl
          rw [h3]
          exact ⟨_, _, _, hk, run_bytes_str (M := Mut MX hp ρ) (l := []) hS he hT (.inl ⟨rfl, rfl⟩), rfl⟩
        · rw [h3]
          exact ⟨_, _, _, hk, run_bytes_str hS he hT (.inr ⟨_, xs, rfl, h2, fun q u hq => hc g (by rw [h3]; rfl) q u hq⟩), rfl⟩
      · rename_i l hi
        rw [hi] at hok
        obtain ⟨A, c, h1, hle, hr⟩ := hok
        rw [h1]
        exact ⟨_, _, _, hk, run_bytes_str hS he hT (con_cells hr), rfl⟩
      · rename_i l hi
        rw [hi] at hok
        obtain ⟨g, c, h1, hle, hr⟩ := hok
        rw [h1]
        refine ⟨_, _, _, hk, run_bytes_str (M := Mut MX hp ρ) hS he hT (.inr ⟨_, l.map (Value.int .u8), rfl, els_ints l, fun q u hq => ?_⟩), rfl⟩
        rw [List.getElem?_map] at hq
        cases hlq : l[q]? with
        | none => rw [hlq] at hq; cases hq
        | some y =>
          rw [hlq] at hq
          injection hq with hq
          subst hq
          rw [add_at', Nat.zero_add, hr.cell (lt_of_get' hlq), List.getD_eq_getElem?_getD, hlq]
          rfl
      · cases hk
    · cases hk
  · cases hk

theorem lenE_sound (H : HRel MX w ρ hp) {T ty : TypeId} {x : AV} {vx : Value} (hx : R (Mut MX hp ρ) w ρ hp x vx) (hk : (lenE P T x).go b hp rs ws K = some r) :
    ∃ x v rs', K x b hp rs' ws = some r ∧ (Builtin.len_ #[T] ty #[vx]).run P w = .ok v w ∧ R (Mut MX hp ρ) w ρ hp x v := by
  unfold lenE at hk
  split at hk
  · rename_i s hu
    rw [show vx = _ from hx]
    exact ⟨_, _, _, hk, run_len_str w hu s, rfl⟩
  · rename_i e hu
    rw [show vx = _ from hx]
    exact ⟨_, _, _, hk, run_len_sl w hu _ _ _, rfl⟩
  · rename_i e t l hu
    obtain ⟨A, c, rfl, hle, hr⟩ := hx
    exact ⟨_, _, _, hk, run_len_sl w hu _ _ _, rfl⟩
  · rename_i e i hu
    obtain ⟨hne, rfl, A0, n0, c0, hv⟩ := hx
    simp only [Eff.go] at hk
    have hok := H.ok i
    split at hk
    · rename_i e t l hi
      rw [hi] at hok
      obtain ⟨xs, h1, h2⟩ := hok
      rcases h1.2 with ⟨h3, h4⟩ | ⟨g, cap, cur, h3, _⟩
      · rw [h3]
        refine ⟨_, _, _, hk, run_len_sl w hu _ _ _, ?_⟩
        rw [h4]; rfl
      · rw [h3]
        exact ⟨_, _, _, hk, run_len_sl w hu _ _ _, rfl⟩
    · rename_i t l hi
      rw [hi] at hok
      obtain ⟨A, c, h1, hle, hr⟩ := hok
      rw [h1]
      exact ⟨_, _, _, hk, run_len_sl w hu _ _ _, rfl⟩
    · rename_i l hi
      rw [hi] at hok
      obtain ⟨g, c, h1, hle, hr⟩ := hok
      rw [h1]
      exact ⟨_, _, _, hk, run_len_sl w hu _ _ _, rfl⟩
    · cases hk
  · cases hk

theorem minE_sound {M : Nat → Prop} {lt : Bool} {x y : AV} {vx vy : Value} {T1 : Array TypeId} {t0 : TypeId} (hx : R M w ρ hp x vx) (hy : R M w ρ hp y vy) (hk : (minE lt x y).go b hp rs ws K = some r) :
    ∃ z v, K z b hp rs ws = some r ∧ (match lt with | true => Builtin.min_ T1 t0 #[vx, vy] | false => Builtin.max_ T1 t0 #[vx, vy]).run P w = .ok v w ∧ R M w ρ hp z v := by
  unfold minE at hk
  split at hk
  case h_2 => cases hk
  rw [show vx = _ from hx, show vy = _ from hy]
  split at hk
  · exact ⟨_, _, hk, by simp [Builtin.min_, Builtin.min2], rfl⟩
  · exact ⟨_, _, hk, by simp [Builtin.max_, Builtin.max2], rfl⟩
end
end Go.Proofs.YtmciidoohbmipaaGreatDoor.Abs
namespace Go.Proofs.YtmciidoohbmipaaGreatDoor.Abs
open Go Go.RowKit
set_option linter.unusedVariables false
set_option linter.unusedSectionVars false
set_option linter.unusedSimpArgs false

section
variable {Rt : Type} {P : Program} {MX : Nat → Prop} {w : World} {ρ : Nat → Value} {hp : Heap} {b : Nat} {rs ws : List Nat} {K : AV → Nat → Heap → List Nat → List Nat → Option Rt} {r : Rt}

theorem isBytesConv_some {S T : TypeId} (h : isBytesConv P S T = true) : ∃ e, P.underlying S = some .string ∧ P.underlying T = some (.slice e) ∧ P.underlying e = some (.int .u8) := by
  unfold isBytesConv at h
  split at h
  · rename_i e hS hT
    split at h
    · rename_i he; exact ⟨e, hS, hT, he⟩
    · cases h
  · cases h

theorem Off.bytes (M : Nat → Prop) (w : World) (e : TypeId) (s : ByteArray) : Off M w (Lib.bytesWorld w e s) :=
  ⟨rfl, rfl, rfl, by rw [Lib.bytesWorld_size]; omega, fun b hb _ => Lib.bytesWorld_at_old w e s b hb⟩

/-- A new block in a world that is as it was for what was there. -/
theorem Step.fresh {w' : World} (H : HRel MX w ρ hp) {i : Nat} (hu : hp i = .unused) {h : HE} {v : Value} (hb : blk v = some w.heap.size) (off : ∀ M, Off M w w')
    (ok : ∀ (M : Nat → Prop) (ρ' : Nat → Value) (hp' : Heap), ρ' i = v → HEok M w' ρ' hp' i h) :
    Step MX w ρ hp w' (upd ρ i v) (upd hp i h) := by
  have old : ∀ j, hp j ≠ .unused → upd ρ i v j = ρ j ∧ upd hp i h j ≠ .unused := by
    intro j hj
    have hne : j ≠ i := fun e => hj (e ▸ hu)
    rw [upd_ne _ _ hne, upd_ne _ _ hne]
    exact ⟨rfl, hj⟩
  have lvi : ∀ j b, live (upd hp i h j) → blk (upd ρ i v j) = some b → (j = i ∧ b = w.heap.size) ∨ (j ≠ i ∧ live (hp j) ∧ blk (ρ j) = some b) := by
    intro j b hl hb'
    by_cases hji : j = i
    · subst hji; rw [upd_same, hb] at hb'; exact .inl ⟨rfl, by injection hb' with e; exact e.symm⟩
    · rw [upd_ne _ _ hji] at hl hb'; exact .inr ⟨hji, hl, hb'⟩
  refine Step.mk' (D := fun _ => False) H (off _) (fun _ _ hf => hf.elim) old ?_ ?_ ?_ ?_ (fun j cs hj => .inl ⟨upd_ne _ _ (fun e => by rw [e, hu] at hj; cases hj), fun _ _ h => h⟩)
  · rintro b hlt ⟨j, hl, hbj⟩
    rcases lvi j b hl hbj with ⟨_, e⟩ | ⟨_, hl', hb'⟩
    · omega
    · exact ⟨j, hl', hb'⟩
  · intro j
    by_cases hji : j = i
    · subst hji
      refine .inr ?_
      rw [upd_same]
      exact ok _ _ _ (upd_same _ _ _)
    · exact .inl ⟨upd_ne _ _ hji, upd_ne _ _ hji, fun _ _ _ hf => hf⟩
  · intro j j' b hl hl' hbj hbj'
    rcases lvi j b hl hbj with ⟨rfl, e⟩ | ⟨_, hl1, hb1⟩ <;> rcases lvi j' b hl' hbj' with ⟨rfl, e'⟩ | ⟨_, hl2, hb2⟩
    · rfl
    · have := H.lt hl2 hb2; omega
    · have := H.lt hl1 hb1; omega
    · exact H.sep j j' b hl1 hl2 hb1 hb2
  · intro j b hl hbj hmx
    rcases lvi j b hl hbj with ⟨_, e⟩ | ⟨_, hl', hb'⟩
    · have := H.mx b hmx; omega
    · exact H.ext j b hl' hb' hmx

theorem conv2E_sound (H : HRel MX w ρ hp) {S T : TypeId} {x : AV} {vx : Value} (hx : R (Mut MX hp ρ) w ρ hp x vx) (hk : (conv2E P S T x).go b hp rs ws K = some r) :
    ∃ x b' hp' rs' ws' v w' ρ', K x b' hp' rs' ws' = some r ∧ (convert S T vx).run P w = .ok v w' ∧ Step MX w ρ hp w' ρ' hp' ∧ R (Mut MX hp' ρ') w' ρ' hp' x v := by
  unfold conv2E at hk
  split at hk
  · rename_i hB
    obtain ⟨e, hS, hT, he⟩ := isBytesConv_some hB
    unfold bytesE at hk
    split at hk
    case h_2 => cases hk
    rename_i s
    rw [show vx = _ from hx]
    simp only [Eff.go] at hk
    split at hk
    case h_2 => cases hk
    rename_i hu
    have hlen : (numsOf s).length ≤ grownCap w s.size 0 e := by rw [numsOf_length]; exact grownCap_ge w s.size 0 e
    refine ⟨_, _, _, _, _, _, _, upd ρ b (.slice (some ⟨w.heap.size, 0, none⟩) s.size (grownCap w s.size 0 e)), hk, Lib.run_convert_string_bytes w S T e s hS hT he, Step.fresh H hu rfl (fun M => Off.bytes M w e s) ?_, ?_⟩
    · intro M ρ' hp' hv
      exact ⟨w.heap.size, _, by rw [hv, numsOf_length], hlen, BRow.of_bytes w e s (grownCap_ge w s.size 0 e)⟩
    · exact ⟨by rw [upd_same]; simp, by rw [upd_same], _, _, _, rfl⟩
  · obtain ⟨x, v, rs', h1, h2, h3⟩ := convE_sound H hx hk
    exact ⟨x, b, hp, rs', ws, v, w, ρ, h1, h2, Step.refl H, h3⟩

theorem val1_enc : (t : Ty) → {z : Value} → {x : t.den} → t.val1 z = some x → z = t.enc1 x
  | .int k, .int k' n, x, h => by
    simp only [Ty.val1] at h
    split at h
    · rename_i e _
      subst e
      injection h with h
      subst h; rfl
    · cases h
  | .bool, .bool b, x, h => by
    simp only [Ty.val1] at h
    injection h with h
    subst h; rfl
  | .str, .string s, x, h => by
    simp only [Ty.val1] at h
    injection h with h
    subst h; rfl
  | .int k, .bool _, _, h => by cases h
  | .int k, .string _, _, h => by cases h
  | .int k, .float .., _, h => by cases h
  | .int k, .complex .., _, h => by cases h
  | .int k, .pointer .., _, h => by cases h
  | .int k, .slice .., _, h => by cases h
  | .int k, .map .., _, h => by cases h
  | .int k, .chan .., _, h => by cases h
  | .int k, .func .., _, h => by cases h
  | .int k, .nilFunc, _, h => by cases h
  | .int k, .iface .., _, h => by cases h
  | .int k, .nilIface, _, h => by cases h
  | .int k, .agg .., _, h => by cases h
  | .int k, .tuple .., _, h => by cases h

/-- A value of a kind that a map holds. -/
theorem flat_enc {M : Nat → Prop} {w : World} {ρ : Nat → Value} {hp : Heap} {t : Ty} {z : Value} {zx : t.den} (hz : t.val1 z = some zx) {x : AV} {vx : Value} {cs : List AV} {v : t.den} (hx : R M w ρ hp x vx) (hc : cellsOf x = some cs) (hna : (∀ a, x ≠ .v (.agg a)) ∧ ∀ a, x ≠ .agg a) (hd : t.dec cs = some v) : vx = t.enc1 v := by
  obtain ⟨vs, hvs, hr⟩ := cellsOf_sound hx hc
  have hcs : cs = [x] := by
    unfold cellsOf at hc
    split at hc
    · exact absurd rfl (hna.1 _)
    · cases hc
    · exact absurd rfl (hna.2 _)
    · cases hc
    · cases hc
    · injection hc with hc; exact hc.symm
  subst hcs
  obtain ⟨v0, q, rfl, hv0, hq⟩ := hr
  cases hq
  have hkr := dec_sound (M := M) (w := w) (ρ := ρ) (hp := hp) (vs := [vx]) t hd ⟨_, _, rfl, hx, rfl⟩
  cases t with
  | int k => have hkr : [vx] = [.int k v] := hkr; injection hkr
  | bool => have hkr : [vx] = [.bool v] := hkr; injection hkr
  | str => have hkr : [vx] = [.string v] := hkr; injection hkr
  | sl t => cases z <;> cases hz
  | pair a b => cases z <;> cases hz

theorem mapTy_some {T : TypeId} {m : MapTy} (h : mapTy P T = some m) : ∃ K i z, P.underlying T = some (.map K m.V) ∧ P.underlying K = some (.int .i64) ∧ P.info? m.V = some i ∧ i.zero = some z ∧ m.t.val1 z = some m.z := by
  unfold mapTy at h
  split at h
  case h_2 => cases h
  rename_i K V hT
  split at h
  case h_2 => cases h
  rename_i t z hK ht hz
  split at h
  case h_2 => cases h
  rename_i z0 hz0
  injection h with h
  subst h
  cases hi : P.info? V with
  | none => rw [hi] at hz; cases hz
  | some i =>
    rw [hi] at hz
    exact ⟨K, i, z, hT, hK, rfl, hz, hz0⟩

theorem makeMapE_sound (H : HRel MX w ρ hp) {T : TypeId} (hk : (makeMapE P T).go b hp rs ws K = some r) :
    ∃ x b' hp' rs' ws' v w' ρ', K x b' hp' rs' ws' = some r ∧ (Instr.makeMap T none).run P w = .ok v w' ∧ Step MX w ρ hp w' ρ' hp' ∧ R (Mut MX hp' ρ') w' ρ' hp' x v := by
  unfold makeMapE at hk
  split at hk
  case h_2 => cases hk
  rename_i m hm
  simp only [Eff.go] at hk
  split at hk
  case h_2 => cases hk
  rename_i hu
  refine ⟨_, _, _, _, _, .map (some w.heap.size), w.alloc (.map #[] 0), upd ρ b (.map (some w.heap.size)), hk, by simp [Instr.makeMap, newObj, Sem.run], Step.fresh H hu rfl (fun M => Off.alloc M w _) ?_, ?_⟩
  · intro M ρ' hp' hv
    exact ⟨w.heap.size, hv, MapI.made (heap_alloc_new w _)⟩
  · exact ⟨by rw [upd_same]; simp, by rw [upd_same], _, rfl⟩

theorem mapPutE_sound (H : HRel MX w ρ hp) {T : TypeId} {m k x : AV} {vm vk vx : Value} (hm : R (Mut MX hp ρ) w ρ hp m vm) (hkk : R (Mut MX hp ρ) w ρ hp k vk) (hx : R (Mut MX hp ρ) w ρ hp x vx) (hk : (mapPutE P T m k x).go b hp rs ws K = some r) :
    ∃ b' hp' rs' ws' w' ρ', K (.v undef) b' hp' rs' ws' = some r ∧ (Instr.mapUpdate T vm vk vx).run P w = .ok () w' ∧ Step MX w ρ hp w' ρ' hp' := by
  unfold mapPutE at hk
  split at hk
  case h_2 => cases hk
  rename_i mt i n cs hmt hcs
  obtain ⟨KT, inf, z, hT, hK, hi, hz, hz0⟩ := mapTy_some hmt
  obtain ⟨hne, rfl, b0, hv⟩ := hm
  rw [show vk = _ from hkk]
  simp only [Eff.go] at hk
  have hok := H.ok i
  split at hk
  case h_2 => cases hk
  rename_i t f hmp
  rw [hmp] at hok
  obtain ⟨b1, g1, g2⟩ := hok
  rw [hv] at g1
  injection g1 with g1
  injection g1 with g1
  subst g1
  split at hk
  case h_2 => cases hk
  rename_i htt v _ hall hdec
  subst htt
  split at hk
  · cases hk
  · cases hk
  rename_i hna1 hna2
  simp only [Eff.go] at hk
  have hvx := flat_enc hz0 hx hcs ⟨fun a e => hna1 a e, fun a e => hna2 a e⟩ hdec
  obtain ⟨w', hrun, hmi, hgr, hsz⟩ := g2.put (P := P) hT hK n v
  refine ⟨_, _, _, _, w', ρ, hk, by rw [hv, hvx]; exact hrun, Step.write H (fun _ => by rw [hmp]; trivial) (by simp) (fun cs h => by rw [hmp] at h; cases h) ?_ ?_⟩
  · exact (Off.grown hgr).mono fun b _ hb => ⟨by rw [hmp]; trivial, by rw [hv]; exact hb⟩
  · intro hp' hp'u M hM hMl _
    exact ⟨b0, hv, hmi⟩

theorem lookupE_sound (H : HRel MX w ρ hp) {T : TypeId} {m k : AV} {vm vk : Value} (hm : R (Mut MX hp ρ) w ρ hp m vm) (hkk : R (Mut MX hp ρ) w ρ hp k vk) (hk : (lookupE P T m k).go b hp rs ws K = some r) :
    ∃ x v rs', K x b hp rs' ws = some r ∧ (Instr.lookup T vm vk false).run P w = .ok v w ∧ R (Mut MX hp ρ) w ρ hp x v := by
  unfold lookupE at hk
  split at hk
  case h_2 => cases hk
  rename_i mt i n hmt
  obtain ⟨KT, inf, z, hT, hK, hi, hz, hz0⟩ := mapTy_some hmt
  obtain ⟨hne, rfl, b0, hv⟩ := hm
  rw [show vk = _ from hkk]
  simp only [Eff.go] at hk
  have hok := H.ok i
  split at hk
  case h_2 => cases hk
  rename_i t f hmp
  rw [hmp] at hok
  obtain ⟨b1, g1, g2⟩ := hok
  rw [hv] at g1
  injection g1 with g1
  injection g1 with g1
  subst g1
  split at hk
  case h_2 => cases hk
  rename_i htt _
  subst htt
  split at hk
  case h_2 => cases hk
  rename_i c hc
  have hzv : (zeroValue mt.V).run P w = .ok z w := by simp [zeroValue, typeInfo, hi, hz]
  have hze := val1_enc mt.t hz0
  have hlook := g2.look (P := P) hT hK hzv n
  refine ⟨_, _, _, hk, by rw [hv]; exact hlook, ?_⟩
  have he : ((f n).map mt.t.enc1).getD z = mt.t.enc1 ((f n).getD mt.z) := by
    rw [hze]
    cases f n <;> rfl
  rw [he]
  have hcells : ∀ {y : mt.t.den}, mt.t.cells y = [c] → R (Mut MX hp ρ) w ρ hp c (mt.t.enc1 y) := by
    intro y hy
    obtain ⟨V, t, zz⟩ := mt
    cases t with
    | int k => have hy : [AV.v (.int k y)] = [c] := hy; injection hy with hy; subst hy; rfl
    | bool => have hy : [AV.bs false y] = [c] := hy; injection hy with hy; subst hy; rfl
    | str => have hy : [AV.v (.string y)] = [c] := hy; injection hy with hy; subst hy; rfl
    | sl t => cases z <;> cases hz0
    | pair a b => cases z <;> cases hz0
  exact hcells hc

theorem copyE_sound (H : HRel MX w ρ hp) {T T2 ty : TypeId} {d x : AV} {vd vx : Value} (hd : R (Mut MX hp ρ) w ρ hp d vd) (hx : R (Mut MX hp ρ) w ρ hp x vx) (hk : (copyE P T d x).go b hp rs ws K = some r) :
    ∃ x b' hp' rs' ws' v w' ρ', K x b' hp' rs' ws' = some r ∧ (Builtin.copy_ #[T, T2] ty #[vd, vx]).run P w = .ok v w' ∧ Step MX w ρ hp w' ρ' hp' ∧ R (Mut MX hp' ρ') w' ρ' hp' x v := by
  unfold copyE at hk
  split at hk
  case h_2 => cases hk
  rename_i e i lo s hT
  split at hk
  case h_2 => cases hk
  rename_i n hn
  split at hk
  case h_2 => cases hk
  rename_i hn1
  have hn1 := Nat.eq_of_beq_eq_true hn1
  subst hn1
  obtain ⟨hne, g, n0, c, c', A, hv, hlo, rfl, hA⟩ := hd
  rw [show vx = _ from hx]
  simp only [Eff.go] at hk
  have hok := H.ok i
  split at hk
  case h_2 => cases hk
  rename_i l hi
  rw [hi] at hok
  obtain ⟨g', c1, h1, hle, h3⟩ := hok
  rw [hv] at h1
  injection h1 with e1 e2 e3
  injection e1 with e1
  injection e1 with e1
  subst e1 e2
  simp only [Eff.go] at hk
  have hdat : List.take (Nat.min s.size (l.length - lo)) (List.map (fun b : UInt8 => Value.int .u8 b.toNat) s.data.toList) = ((numsOf s).take (l.length - lo)).map (Value.int .u8) := by
    have hl : (List.map (fun b : UInt8 => Value.int .u8 b.toNat) s.data.toList).length = s.size := by simp
    rw [List.map_take, numsOf, List.map_map]
    show List.take (min s.size (l.length - lo)) _ = List.take (l.length - lo) (List.map (fun b : UInt8 => Value.int .u8 b.toNat) s.data.toList)
    rw [Nat.min_comm, ← hl, ← List.take_eq_take_min]
  have hyl : ((numsOf s).take (l.length - lo)).length = min s.size (l.length - lo) := by rw [List.length_take, numsOf_length]; omega
  obtain ⟨W', r1, r2, r3, r4, r5, r6, r7⟩ := run_store_bytes (P := P) ((numsOf s).take (l.length - lo)) h3 lo 0 (by rw [hyl]; omega)
  rw [Nat.add_zero] at r2
  have hrun : (Builtin.copy_ #[T, T2] ty #[.slice (some A) (l.length - lo) c', .string s]).run P w = .ok (goInt ((min s.size (l.length - lo) : Nat) : Int)) W' := by
    by_cases hz : lo < l.length
    · rw [hA hz]
      have r1' := r1
      rw [List.map_take] at r1'
      simp only [Builtin.copy_]
      simp [run_underlying hT, Builtin.lenOf, run_sizeOf hn, Builtin.firstCells, hdat, r1', Result.andThen]
    · have h0 : l.length - lo = 0 := by omega
      have hW : W' = w := by
        have r1' := r1
        rw [h0] at r1'
        simp [storeCells] at r1'
        exact r1'.symm
      subst hW
      simp [Builtin.copy_, run_underlying hT, Builtin.lenOf, run_sizeOf hn, Builtin.firstCells, h0, storeCells]
  refine ⟨_, _, _, _, _, _, W', ρ, hk, hrun, Step.write H (fun _ => by rw [hi]; trivial) (by simp) (fun cs h => by rw [hi] at h; cases h) ?_ ?_, rfl⟩
  · exact ⟨r4, r5, r6, by rw [r3]; exact Nat.le_refl _, fun b _ hb => r7 b fun e => hb ⟨by rw [hi]; trivial, by rw [hv, e]; rfl⟩⟩
  · intro hp' hp'u M hM hMl _
    have hcp : l.take lo ++ ((numsOf s).take (l.length - lo) ++ l.drop (lo + ((numsOf s).take (l.length - lo)).length)) = cpy l lo s := by rw [hyl]; rfl
    rw [hcp] at r2
    have hcl : (cpy l lo s).length = l.length := by
      rw [← hcp]
      simp only [List.length_append, List.length_drop, hyl, List.length_take]
      omega
    exact ⟨g, c, by rw [hcl]; exact hv, by rw [hcl, e3]; exact hle, by rw [e3]; exact r2⟩
end
end Go.Proofs.YtmciidoohbmipaaGreatDoor.Abs
