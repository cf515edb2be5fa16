/- The abstract machine: calls, regions, code. Definitions alone. -/
import Derived.Test.YtommgpkeicpokaaGreatDoorAbsDef
import Derived.Still
namespace Go.Proofs.YtommgpkeicpokaaGreatDoor.Abs
open Go Go.RowKit
set_option linter.unusedVariables false
set_option linter.unusedSectionVars false
set_option linter.unusedSimpArgs false

/-- A call as its contract has it: the Lean function at its arguments, and what its answer is among abstract values. -/
structure Call : Type 1 where
  X : Type
  o : Option X
  emb : X → AV × List HE

structure Spec : Type 1 where
  args : List RC
  pat : Nat → List AV → List HE → Option Call

/-! ### Behind a call -/
/-- Where each entry stands in the caller's heap. -/
def places : List HE → List (Option (Nat × Nat)) → (List (Nat × Nat) → Eff AV) → Eff AV
  | [], _, k => k []
  | _ :: hs, some p :: m, k => places hs m fun r => k (p :: r)
  | _ :: hs, none :: m, k => .nw .gone fun i => places hs m fun r => k ((i, 0) :: r)
  | _ :: hs, [], k => .nw .gone fun i => places hs [] fun r => k ((i, 0) :: r)

mutual
def rn (ids : List (Nat × Nat)) : AV → AV
  | .own k => match ids[k]? with
    | some (i, _) => .own i
    | none => .dead
  | .box k o => match ids[k]? with
    | some (i, off) => .box i (off + o)
    | none => .dead
  | .oel k sz j o => match ids[k]? with
    | some (i, _) => .oel i sz j o
    | none => .dead
  | .mp k => match ids[k]? with
    | some (i, _) => .mp i
    | none => .dead
  | .sub k lo => match ids[k]? with
    | some (i, _) => .sub i lo
    | none => .dead
  | .fn f n cs => .fn f n (rns ids cs)
  | .agg cs => .agg (rns ids cs)
  | .tup cs => .tup (rns ids cs)
  | .v x => .v x
  | .con t l => .con t l
  | .elt t x o => .elt t x o
  | .bs ng b => .bs ng b
  | .bp ng p d => .bp ng p d
  | .ifc n => .ifc n
  | .dead => .dead
def rns (ids : List (Nat × Nat)) : List AV → List AV
  | [] => []
  | c :: cs => rn ids c :: rns ids cs
end

def back1 (ids : List (Nat × Nat)) (p : Nat × Nat) (h : HE) (k : Eff AV) : Eff AV :=
  match h with
  | .box cs => .rd p.1 fun
    | .box old => match Nat.ble (p.2 + cs.length) old.length with
      | true => .wr p.1 (.box (splice old p.2 (rns ids cs))) k
      | false => .fail
    | .gone => match Nat.beq p.2 0 with
      | true => .wr p.1 (.box (rns ids cs)) k
      | false => .fail
    | _ => .fail
  | .row e t l => .wr p.1 (.row e t l) k
  | .frz t l => .wr p.1 (.frz t l) k
  | .mp t f => .wr p.1 (.mp t f) k
  | .bts l => .wr p.1 (.bts l) k
  | .bld T c => match Nat.beq p.2 0 with
    | true => .wr p.1 (.bld T (rn ids c)) k
    | false => .fail
  | .gone => .wr p.1 .gone k
  | .tre o fr e be t l cur => match cur with
    | none => .wr p.1 (.tre o fr e be t l none) k
    | some _ => .fail
  | .unused => .fail

def backAll (ids : List (Nat × Nat)) : List HE → List (Nat × Nat) → Eff AV → Eff AV
  | h :: hs, p :: ps, k => back1 ids p h (backAll ids hs ps k)
  | _, _, k => k

def Ty.hasSl : Ty → Bool
  | .sl _ => true
  | .pair a b => a.hasSl || b.hasSl
  | _ => false

mutual
def hasCon : AV → Bool
  | .con _ _ => true
  | .elt _ _ _ => true
  | .fn _ _ cs => hasCons cs
  | .agg cs => hasCons cs
  | .tup cs => hasCons cs
  | _ => false
def hasCons : List AV → Bool
  | [] => false
  | c :: cs => hasCon c || hasCons cs
end

def Ty.deep : Ty → Bool
  | .sl b => b.hasSl
  | .pair a b => a.hasSl || b.deep
  | _ => false

def hasConH : List HE → Bool
  | [] => false
  | .box cs :: hs => hasCons cs || hasConH hs
  | .row _ t _ :: hs => t.hasSl || hasConH hs
  | .mp t _ :: hs => t.hasSl || hasConH hs
  | .tre _ _ _ _ t _ _ :: hs => t.deep || hasConH hs
  | .bld _ c :: hs => hasCon c || hasConH hs
  | .frz _ _ :: _ => true
  | _ :: hs => hasConH hs

def freezeL : List Nat → Eff AV → Eff AV
  | [], k => k
  | i :: is, k => .rd i fun
    | .row _ t l => .wr i (.frz t l) (freezeL is k)
    | .box _ => .fail
    | .mp _ _ => .fail
    | .bts _ => .fail
    | .bld _ _ => .fail
    | .tre _ _ _ _ _ _ _ => .fail
    | _ => freezeL is k

def full : List HE → Bool
  | [] => true
  | .gone :: _ => false
  | _ :: hs => full hs

/-- Behind a call: the entries go back to their places. -/
def backE (ps : PS) (r : AV) (H : List HE) : Eff AV :=
  match Nat.ble ps.H.length H.length with
  | false => .fail
  | true => places H ps.m fun ids => backAll ids H ids (match hasCon r || hasConH H with
    | true => freezeL ps.lent (.ret (rn ids r))
    | false => .ret (rn ids r))

/-- The entries that values name. -/
def ownIds : List AV → List Nat
  | [] => []
  | .own i :: r => i :: ownIds r
  | .box i _ :: r => i :: ownIds r
  | _ :: r => ownIds r

/-- Rows that were taken out of elements go back to them; where such a row is no more, the elements up to that one are forgotten. -/
def closeL {α : Type} : Nat → List Nat → Eff α → Eff α
  | 0, _, k => k
  | _ + 1, [], k => k
  | n + 1, i :: is, k => .rd i fun
    | .tre o fr e be t l (some (j, q)) => .rd q fun
      | .row be' b m => match Nat.beq be' be, decEq b t.inn, Nat.beq q i with
        | true, isTrue h, false => .wr q .gone (.wr i (.tre o fr e be t (l.set j (t.put (l.getD j t.zero) (h ▸ m))) none) (closeL n is k))
        | _, _, _ => .fail
      | .gone => .wr i (.tre o (some (j + 1)) e be t l none) (closeL n is k)
      | _ => closeL n is k
    | .box cs => closeL n (ownIds cs ++ is) k
    | _ => closeL n is k

def callE (s : Spec) (fuel : Nat) (args : List AV) : Eff AV :=
  closeL 24 (ownIds args) <| pks s.args args ⟨[], [], []⟩ fun avs ps => match full ps.H with
    | false => .fail
    | true => match s.pat fuel avs ps.H with
      | none => .fail
      | some c => .opt c.X c.o fun x => backE ps (c.emb x).1 (c.emb x).2

abbrev Env := List ((FuncId × List FuncId) × Spec)

def fnIds : List AV → List FuncId
  | [] => []
  | .fn f _ _ :: r => f :: fnIds r
  | _ :: r => fnIds r

def sameIds : List Nat → List Nat → Bool
  | [], [] => true
  | a :: r, b :: s => Nat.beq a b && sameIds r s
  | _, _ => false

def look (f : FuncId) (fs : List FuncId) : Env → Option Spec
  | [] => none
  | ((g, gs), s) :: r => match Nat.beq f g && sameIds fs gs with
    | true => some s
    | false => look f fs r

def enterE (E : Env) (k : Nat) (f : FuncId) (args : List AV) : Eff AV :=
  match look f (fnIds args) E with
  | some s => callE s k args
  | none => .fail

def calleeE (P : Program) (E : Env) (k : Nat) (c : Go.Call) (tm : Nat → AV) : Eff AV :=
  let args := c.args.toList.map (ev tm)
  match c.callee with
  | .value f => match ev tm f with
    | .fn g n caps => enterE E k g (caps.take n ++ (args ++ caps.drop n))
    | _ => .fail
  | .builtin .len => match args, c.argTypes.toList with
    | [x], [T] => lenE P T x
    | _, _ => .fail
  | .builtin .append => match args, c.argTypes.toList with
    | [s, x], [T, T2] => appendXE P T T2 s x
    | _, _ => .fail
  | .builtin .copy => match args, c.argTypes.toList with
    | [d, x], [T, _] => copyE P T d x
    | _, _ => .fail
  | .builtin .min => match args with
    | [x, y] => minE true x y
    | _ => .fail
  | .builtin .max => match args with
    | [x, y] => minE false x y
    | _ => .fail
  | _ => .fail

def effOf (P : Program) (E : Env) (k : Nat) (o : Oper) (tm : Nat → AV) : Eff AV :=
  match o.op with
  | .move x => .ret (ev tm x)
  | .assign x => .ret (ev tm x)
  | .pick c a b => match ev tm c with
    | .v (.bool t) => match t with
      | true => .ret (ev tm a)
      | false => .ret (ev tm b)
    | .bs false t => .br (t = true) inferInstance (.ret (ev tm a)) (.ret (ev tm b))
    | .bs true t => .br (t = true) inferInstance (.ret (ev tm b)) (.ret (ev tm a))
    | .bp false p d => .br p d (.ret (ev tm a)) (.ret (ev tm b))
    | .bp true p d => .br p d (.ret (ev tm b)) (.ret (ev tm a))
    | _ => .fail
  | .alloc T => allocE P T
  | .box _ x => boxE (ev tm x)
  | .build T ps => buildE P T (ps.toList.map fun p => (p.1, ev tm p.2))
  | .buildSlice T n ps => buildOneE P T n (ps.toList.map fun p => (p.1, ev tm p.2)) (buildSliceE P T n (ps.toList.map fun p => (p.1, ev tm p.2)))
  | .load T a => loadE P T (ev tm a)
  | .store T a x => storeE P T (ev tm a) (ev tm x)
  | .nilCheck x => match ev tm x with
    | .box i o => .ret (.box i o)
    | .elt t y o => .ret (.elt t y o)
    | .oel i s j o => .ret (.oel i s j o)
    | .fn f n cs => .ret (.fn f n cs)
    | _ => .fail
  | .binOp op T x y _ => match y with
    | .const .nilIface => ifcE P op T (ev tm x)
    | _ => binE P op T (ev tm x) (ev tm y)
  | .unOp op _ x => unE op (ev tm x)
  | .convert S T x => conv2E P S T (ev tm x)
  | .makeMap T none => makeMapE P T
  | .mapUpdate T m k x => mapPutE P T (ev tm m) (ev tm k) (ev tm x)
  | .insert T m k x => mapPutE P T (ev tm m) (ev tm k) (ev tm x)
  | .lookup T m k false => lookupE P T (ev tm m) (ev tm k)
  | .makeFunc (.func f) first cap => .ret (.fn f first.toList.length ((first.toList ++ cap.toList).map (ev tm)))
  | .makeSlice T n c => match sameTmp n c with
    | true => makeSliceE P T (ev tm n)
    | false => .fail
  | .slice T x lo hi none => sliceE P T (ev tm x) (lo.map (ev tm)) (hi.map (ev tm))
  | .fieldAddr S x f => fieldAddrE P S (ev tm x) f
  | .field S x f => fieldE P S (ev tm x) f
  | .indexAddr T x i => indexAddrE P T (ev tm x) (ev tm i)
  | .index T x i => indexE P T (ev tm x) (ev tm i)
  | .extract x i => match ev tm x with
    | .tup cs => match cs[i]? with
      | some c => .ret c
      | none => .fail
    | _ => .fail
  | .call c => calleeE P E k c tm
  | _ => .fail

/-! ### Regions -/
structure St where
  tm : Nat → AV
  hp : Heap
  nx : Nat

/-- What was read and what was written by an operation. -/
abbrev Foot := List (List Nat × List Nat)

section
variable {R : Type} (P : Program) (E : Env) (k n : Nat) (ops : List Oper)

def put (n : Nat) (dst : Option Tmp) (x : AV) (tm : Nat → AV) (K : (Nat → AV) → Option R) : Option R :=
  match dst with
  | none => K tm
  | some d => match Nat.ble (d + 1) n with
    | true => K (upd tm d x)
    | false => none

/-- A guard: whether the operation is wanted; a test that is open is parted. -/
def guarded (ops : List Oper) (g : Option (Nat × Bool)) (tm : Nat → AV) (K : Bool → (Nat → AV) → Option R) : Option R :=
  match g with
  | none => K true tm
  | some (j, want) => match ops[j]? with
    | none => none
    | some o => match o.dst with
      | none => none
      | some d =>
        let yes (tm : Nat → AV) : Option R := match want with | true => K true tm | false => K false tm
        let no (tm : Nat → AV) : Option R := match want with | true => K false tm | false => K true tm
        match tm d with
        | .v (.bool b) => match b with
          | true => yes tm
          | false => no tm
        | .v (.tuple _) => K false tm
        | .bs false b => if b = true then yes (upd tm d (.v (.bool true))) else no (upd tm d (.v (.bool false)))
        | .bs true b => if b = true then no (upd tm d (.v (.bool false))) else yes (upd tm d (.v (.bool true)))
        | .bp false p dp => @ite _ p dp (yes (upd tm d (.v (.bool true)))) (no (upd tm d (.v (.bool false))))
        | .bp true p dp => @ite _ p dp (no (upd tm d (.v (.bool false)))) (yes (upd tm d (.v (.bool true))))
        | _ => none

/-- Operations in the order of the text. -/
def runOps : List Oper → St → (St → Option R) → Option R
  | [], st, K => K st
  | o :: r, st, K => guarded ops o.guard st.tm fun w tm => match w with
    | true => (effOf P E k o tm).go st.nx st.hp [] [] fun x b hp _ _ => put n o.dst x tm fun tm => runOps r ⟨tm, hp, b⟩ K
    | false => put n o.dst (.v undef) tm fun tm => runOps r ⟨tm, st.hp, st.nx⟩ K

/-- Operations of a region that draws its order: each makes entries in a range of its own. -/
def runD : List Oper → Nat → St → Foot → (St → Foot → Option R) → Option R
  | [], _, st, F, K => K st F
  | o :: r, i, st, F, K => guarded ops o.guard st.tm fun w tm => match w with
    | true => (effOf P E k o tm).go (st.nx + 16 * i) st.hp [] [] fun x b hp rs ws => match Nat.ble b (st.nx + 16 * i + 16) with
      | true => put n o.dst x tm fun tm => runD r (i + 1) ⟨tm, hp, st.nx⟩ (F ++ [(rs, ws)]) K
      | false => none
    | false => put n o.dst (.v undef) tm fun tm => runD r (i + 1) ⟨tm, st.hp, st.nx⟩ (F ++ [([], [])]) K
end

def meets : List Nat → List Nat → Bool
  | [], _ => false
  | a :: r, l => l.any (Nat.beq a) || meets r l

/-- Whether j waits for i, by way of others too. -/
def reach (ops : List Oper) : Nat → Nat → Nat → Bool
  | 0, _, _ => false
  | f + 1, j, i => match ops[j]? with
    | some o => o.after.toList.any fun e => Region.binds .any e && (Nat.beq e.on i || reach ops f e.on i)
    | none => false

/-- Two operations that may come in either order touch nothing of each other. -/
def footOk (ops : List Oper) (F : Foot) : Bool :=
  (List.range ops.length).all fun i => (List.range ops.length).all fun j => !Nat.ble (i + 1) j || (match ops[j]?, F[i]?, F[j]? with
    | some oj, some (ri, wi), some (rj, wj) => (oj.after.toList.any fun e => Region.binds .any e && Nat.beq e.on i) || ((!meets wi rj && !meets wi wj && !meets wj ri) || reach ops ops.length j i)
    | _, _, _ => false)

/-! ### Code -/
/-- What is still to be done, each piece of code with its number in the body. -/
inductive TI where
  | code (c : Code) (p : Nat)
  | inBlock (id : Nat)
  | inLoop (c : Code) (p : Nat)

def csz : Code → Nat
  | .seq a b => csz a + csz b + 1
  | .cond _ a b => csz a + csz b + 1
  | .block _ a => csz a + 1
  | .loop a => csz a + 1
  | _ => 1

def exitA (id : Nat) : List TI → Option (List TI)
  | [] => none
  | .inBlock i :: k => match Nat.beq i id with
    | true => some k
    | false => exitA id k
  | _ :: k => exitA id k

/-- What becomes of an entry that came in: a row that is forgotten, a row that is kept, a box. -/
inductive IC where
  | drop
  | keep
  | box (cs : List RC)

def IC.kind : IC → Nat
  | .drop => 0
  | .keep => 1
  | .box _ => 2

/-- A point of a function (a loop's head, a place where ways meet): what is live there, and as what. -/
structure Pt where
  p : Nat
  live : List Nat
  rcs : List RC
  rc0 : List IC := []

def ptAt (p : Nat) : List Pt → Option Pt
  | [] => none
  | x :: r => match Nat.beq x.p p with
    | true => some x
    | false => ptAt p r

section
variable {X : Type}
/-- What a function has to be known by: its number of temporaries, its result variables, what its results are to be, how many entries came in, its points. -/
structure FnA (X : Type) where
  n : Nat
  res : List ResultVar
  rc : RC
  rc0 : List IC
  pts : List Pt
  fin : AV → List HE → Option X

def bind2 {α β : Type} (e : Eff α) (k : α → Eff β) : Eff β := e.bind k

def resVals {α : Type} (P : Program) (tm : Nat → AV) : List ResultVar → (List AV → Eff α) → Eff α
  | [], k => k []
  | .tmp t :: r, k => resVals P tm r fun xs => k (tm t :: xs)
  | .cell a T :: r, k => bind2 (loadB P T (tm a)) fun x => resVals P tm r fun xs => k (x :: xs)

/-- Rows that are to be kept are rows still. -/
def needRows {α : Type} : List IC → Nat → Eff α → Eff α
  | [], _, k => k
  | .keep :: r, i, k => .rd i fun
    | .row _ _ _ => needRows r (i + 1) k
    | .mp _ _ => needRows r (i + 1) k
    | .tre _ _ _ _ _ _ none => needRows r (i + 1) k
    | _ => .fail
  | .drop :: r, i, k => needRows r (i + 1) k
  | .box _ :: r, i, k => needRows r (i + 1) k

/-- The entries that came in: they are packed first, each at its old place; rows that are not kept are gone. -/
def packIn {α : Type} : List IC → Nat → PS → (PS → Eff α) → Eff α
  | [], _, s, k => k s
  | .drop :: r, i, s, k => packIn r (i + 1) s k
  | .keep :: r, i, s, k => .rd i fun
    | .row e t l => packIn r (i + 1) { s with H := s.H.set i (.row e t l) } k
    | .mp t f => packIn r (i + 1) { s with H := s.H.set i (.mp t f) } k
    | .tre o fr e be t l none => packIn r (i + 1) { s with H := s.H.set i (.tre o fr e be t l none) } k
    | _ => .fail
  | .box rcs :: r, i, s, k => .rd i fun
    | .box cs => match Nat.beq rcs.length cs.length with
      | true => pks rcs cs s fun cs' s' => packIn r (i + 1) { s' with H := s'.H.set i (.box cs') } k
      | false => .fail
    | _ => .fail

def startM : List IC → Nat → List (Option (Nat × Nat))
  | [], _ => []
  | .drop :: r, i => none :: startM r (i + 1)
  | .keep :: r, i => some (i, 0) :: startM r (i + 1)
  | .box _ :: r, i => some (i, 0) :: startM r (i + 1)

def start0 (rc0 : List IC) : PS := ⟨startM rc0 0, rc0.map fun _ => .gone, []⟩

def inE {α : Type} (rc0 : List IC) (k : PS → Eff α) : Eff α := needRows rc0 0 (packIn rc0 0 (start0 rc0) k)

/-- What a result variable, or a point, names; and what came in. -/
def resIds (tm : Nat → AV) : List ResultVar → List Nat
  | [] => []
  | .tmp t :: r => ownIds [tm t] ++ resIds tm r
  | .cell a _ :: r => ownIds [tm a] ++ resIds tm r

def one1 : List AV → AV
  | [x] => x
  | xs => .tup xs

def finishE (P : Program) (f : FnA X) (tm : Nat → AV) : Eff (AV × List HE) :=
  closeL 24 (List.range f.rc0.length ++ resIds tm f.res) <| inE f.rc0 fun s => resVals P tm f.res fun xs => pk f.rc (one1 xs) s fun x' s' => .ret (x', s'.H)

/-- To a point. -/
def jumpE (q : Pt) (tm : Nat → AV) : Eff (List AV × List HE) :=
  closeL 24 (List.range q.rc0.length ++ ownIds (q.live.map tm)) <| inE q.rc0 fun s => pks q.rcs (q.live.map tm) s fun avs s' => .ret (avs, s'.H)

def brA (x : AV) (K : Bool → AV → Option X) : Option X :=
  match x with
  | .v (.bool b) => match b with
    | true => K true x
    | false => K false x
  | .bs false b => if b = true then K true (.v (.bool true)) else K false (.v (.bool false))
  | .bs true b => if b = true then K false (.v (.bool false)) else K true (.v (.bool true))
  | .bp false p d => @ite _ p d (K true (.v (.bool true))) (K false (.v (.bool false)))
  | .bp true p d => @ite _ p d (K false (.v (.bool false))) (K true (.v (.bool true)))
  | _ => none

def setOp (c : Operand) (x : AV) (tm : Nat → AV) : Nat → AV :=
  match c with
  | .tmp t => upd tm t x
  | _ => tm

variable (P : Program) (E : Env) (k : Nat) (f : FnA X) (G : Nat → List AV → List HE → Option X)

/-- One piece of code; 'rec': on from there. -/
def stepC (rec : List TI → St → Option X) (c : Code) (p : Nat) (t : List TI) (st : St) : Option X :=
  match c with
  | .skip => rec t st
  | .seq a b => rec (.code a (p + 1) :: .code b (p + 1 + csz a) :: t) st
  | .cond c a b => brA (ev st.tm c) fun r x => match r with
    | true => rec (.code a (p + 1) :: t) { st with tm := setOp c x st.tm }
    | false => rec (.code b (p + 1 + csz a) :: t) { st with tm := setOp c x st.tm }
  | .block id a => rec (.code a (p + 1) :: .inBlock id :: t) st
  | .loop a => rec (.code a (p + 1) :: .inLoop a p :: t) st
  | .exit id => match exitA id t with
    | some t' => rec t' st
    | none => none
  | .region _ ops draw => match draw with
    | false => runOps P E k f.n ops.toList ops.toList st fun st' => rec t st'
    | true => match Region.lexB .any ops with
      | true => runD P E k f.n ops.toList ops.toList 0 st [] fun st' F => match footOk ops.toList F with
        | true => rec t { st' with nx := st.nx + 16 * ops.toList.length }
        | false => none
      | false => none
  | .ret => (finishE P f st.tm).go st.nx st.hp [] [] fun x _ _ _ _ => f.fin x.1 x.2
  | _ => none

/-- On from here. 'G': what is told from a point on. -/
def arun : Nat → List TI → St → Option X
  | 0, _, _ => none
  | _ + 1, [], st => (finishE P f st.tm).go st.nx st.hp [] [] fun x _ _ _ _ => f.fin x.1 x.2
  | s + 1, .inBlock _ :: t, st => arun s t st
  | _ + 1, .inLoop _ p :: _, st => match ptAt p f.pts with
    | some q => (jumpE q st.tm).go st.nx st.hp [] [] fun x _ _ _ _ => G p x.1 x.2
    | none => none
  | s + 1, .code c p :: t, st => match ptAt p f.pts with
    | some q => (jumpE q st.tm).go st.nx st.hp [] [] fun x _ _ _ _ => G p x.1 x.2
    | none => stepC P E k f (arun s) c p t st
end

/-- What is still to be done at number q. -/
def tk : Code → Nat → List TI → Nat → Option (List TI)
  | c, p, t, q => match Nat.beq q p with
    | true => some (.code c p :: t)
    | false => match c with
      | .seq a b => match Nat.ble (p + 1 + csz a) q with
        | true => tk b (p + 1 + csz a) t q
        | false => tk a (p + 1) (.code b (p + 1 + csz a) :: t) q
      | .cond _ a b => match Nat.ble (p + 1 + csz a) q with
        | true => tk b (p + 1 + csz a) t q
        | false => tk a (p + 1) t q
      | .block id a => tk a (p + 1) (.inBlock id :: t) q
      | .loop a => tk a (p + 1) (.inLoop a p :: t) q
      | _ => none

/-- From a point on: the point's own code, not the point again. -/
def tmOf : List Nat → List AV → Nat → AV
  | t :: ts, x :: xs => upd (tmOf ts xs) t x
  | _, _ => fun _ => .dead

def hpOf (H : List HE) : Heap := fun i => match H[i]? with
  | some h => h
  | none => .unused

def stOf (q : Pt) (avs : List AV) (H : List HE) : St := ⟨tmOf q.live avs, hpOf H, H.length⟩

/-- From point p on. -/
def fromPt {X : Type} (P : Program) (E : Env) (k : Nat) (f : FnA X) (G : Nat → List AV → List HE → Option X) (steps : Nat) (body : Code) (p : Nat) (avs : List AV) (H : List HE) : Option X :=
  match tk body 0 [] p, ptAt p f.pts with
  | some (.code c p' :: t), some q => stepC P E k f (arun P E k f G steps) c p' t (stOf q avs H)
  | _, _ => none

def argsTm : Nat → List AV → Nat → AV
  | _, [] => fun _ => .v undef
  | i, x :: xs => upd (argsTm (i + 1) xs) i x

/-- Whether the entries that come in are of the kinds that are told. -/
def shapeOk : List IC → List HE → Bool
  | [], [] => true
  | .box rcs :: r, .box cs :: H => Nat.beq rcs.length cs.length && shapeOk r H
  | .drop :: r, .row _ _ _ :: H => shapeOk r H
  | .keep :: r, .row _ _ _ :: H => shapeOk r H
  | .keep :: r, .mp _ _ :: H => shapeOk r H
  | .drop :: r, .tre _ _ _ _ _ _ none :: H => shapeOk r H
  | .keep :: r, .tre _ _ _ _ _ _ none :: H => shapeOk r H
  | _, _ => false

/-- From the beginning. -/
def fromTop {X : Type} (P : Program) (E : Env) (k : Nat) (f : FnA X) (G : Nat → List AV → List HE → Option X) (steps : Nat) (body : Code) (avs : List AV) (H : List HE) : Option X :=
  match shapeOk f.rc0 H with
  | true => arun P E k f G steps [.code body 0] ⟨argsTm 0 avs, hpOf H, H.length⟩
  | false => none

/-- A contract out of a Lean function. -/
def mkS {X : Type} (args : List RC) (pat : Nat → List AV → List HE → Option (Option X)) (emb : X → AV × List HE) : Spec :=
  ⟨args, fun k avs H => match pat k avs H with
    | some o => some ⟨X, o, emb⟩
    | none => none⟩

def bodyOf (P : Program) (f : FuncId) : Code := match P.funcs[f]? with
  | some fn => match fn.body with
    | some c => c
    | none => .skip
  | none => .skip
end Go.Proofs.YtommgpkeicpokaaGreatDoor.Abs
