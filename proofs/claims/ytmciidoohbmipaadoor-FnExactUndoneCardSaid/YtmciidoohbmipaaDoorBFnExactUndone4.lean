/- They are sound. (Merged out of this claim's own texts.) -/
import Derived.Test.YtmciidoohbmipaaDoorBFnExactUndone3
import Derived.Shelf.Strings.SlTrimAscii
import Derived.Lib.Repeat
import Derived.Test.YtmciidoohbmipaaDoorProg
import Derived.Test.YtmciidoohbmipaaDoorRows
import Derived.Test.YtmciidoohbmipaaDoorTie
import Derived.Test.YtmciidoohbmipaaDoorCards
import Derived.WalkKit
import Derived.LaidMore
import Derived.Lay
import Derived.SevenTiedAt
import Derived.Stop.Joined
import Derived.ProofKit
import Derived.OpenShut
import Derived.ShutString
import Derived.ChangeOld
import Derived.Below
import Derived.SizedLaws
import Derived.Carry
namespace Go.Proofs.YtmciidoohbmipaaDoor.Abs
open Go Go.RowKit
set_option linter.unusedVariables false
set_option linter.unusedSectionVars false
set_option linter.unusedSimpArgs false
noncomputable section
def spec_ReadShort.a : FnA (Int × Bool) := ⟨15, [.tmp 2, .tmp 3], .tup [.val, .bool], [], [], fun x H => match x, H with
  | .tup [.v (.int .i64 r_0), .bs false r_1], [] => some (r_0, r_1)
  | _, _ => none⟩
def spec_ReadShort.s : Spec := mkS [.val] (fun k avs H => match avs, H with
  | [.v (.string a0)], [] => some (spec_ReadShort.f a0)
  | _, _ => none) (fun r => (.tup [.v (.int .i64 r.1), .bs false r.2], []))
def spec_ReadShort.E : Env := []
def spec_ReadShort.G (k p : Nat) (avs : List AV) (H : List HE) : Option (Int × Bool) := none
set_option maxRecDepth 100000 in
theorem spec_ReadShort.eq (k : Nat) (a0 : ByteArray) : fromTop Tryd.prog spec_ReadShort.E k spec_ReadShort.a (spec_ReadShort.G k) 1000 (bodyOf Tryd.prog 19) [.v (.string a0)] [] = spec_ReadShort.f a0 := by kernel_rfl
theorem spec_ReadShort.E_ok : EnvOk Tryd.prog spec_ReadShort.E := trivial
theorem spec_ReadShort.sound : Sound Tryd.prog 19 spec_ReadShort.s := by
  refine func_sound (f := spec_ReadShort.a) (G := spec_ReadShort.G) (fn := Tryd.f19) (body := bodyOf Tryd.prog 19) 1000 (by kernel_rfl) spec_ReadShort.E_ok Tryd.func19 (by kernel_rfl) (by kernel_rfl) (by kernel_rfl) (ptsOk_of (by kernel_rfl)) ?_ ?_ ?_ ?_
  · intro r H x h
    unfold spec_ReadShort.a at h
    simp only at h
    split at h
    · cases h; rfl
    · cases h
  · intro q avs H; rfl
  · intro k q pt avs H x _ h; cases h
  · intro k avs H o h
    try dsimp only at h
    split at h
    · cases h; exact spec_ReadShort.eq _ _
    · cases h

def spec_l1In.a : FnA (Bool) := ⟨15, [.tmp 6], .bool, [], [], fun x H => match x, H with
  | .bs false r, [] => some r
  | _, _ => none⟩
def spec_l1In.s : Spec := mkS [.val, .val, .val] (fun k avs H => match avs, H with
  | [.v (.int .i64 a0), .v (.int .i64 a1), .v (.int .i64 a2)], [] => some (spec_l1In.f a0 a1 a2)
  | _, _ => none) (fun r => (.bs false r, []))
def spec_l1In.E : Env := []
def spec_l1In.G (k p : Nat) (avs : List AV) (H : List HE) : Option (Bool) := none
set_option maxRecDepth 100000 in
theorem spec_l1In.eq (k : Nat) (a0 : Int) (a1 : Int) (a2 : Int) : fromTop Tryd.prog spec_l1In.E k spec_l1In.a (spec_l1In.G k) 1000 (bodyOf Tryd.prog 25) [.v (.int .i64 a0), .v (.int .i64 a1), .v (.int .i64 a2)] [] = spec_l1In.f a0 a1 a2 := by kernel_rfl
theorem spec_l1In.E_ok : EnvOk Tryd.prog spec_l1In.E := trivial
theorem spec_l1In.sound : Sound Tryd.prog 25 spec_l1In.s := by
  refine func_sound (f := spec_l1In.a) (G := spec_l1In.G) (fn := Tryd.f25) (body := bodyOf Tryd.prog 25) 1000 (by kernel_rfl) spec_l1In.E_ok Tryd.func25 (by kernel_rfl) (by kernel_rfl) (by kernel_rfl) (ptsOk_of (by kernel_rfl)) ?_ ?_ ?_ ?_
  · intro r H x h
    unfold spec_l1In.a at h
    simp only at h
    split at h
    · cases h; rfl
    · cases h
  · intro q avs H; rfl
  · intro k q pt avs H x _ h; cases h
  · intro k avs H o h
    try dsimp only at h
    split at h
    · cases h; exact spec_l1In.eq _ _ _ _
    · cases h

def spec_l3Type.a : FnA (Bool) := ⟨23, [.tmp 2], .bool, [], [⟨6, [0, 3], [.val, .val], []⟩], fun x H => match x, H with
  | .bs false r, [] => some r
  | _, _ => none⟩
def spec_l3Type.s : Spec := mkS [.val] (fun k avs H => match avs, H with
  | [.v (.string a0)], [] => some (spec_l3Type.f k a0)
  | _, _ => none) (fun r => (.bs false r, []))
def spec_l3Type.E : Env := [((25, []), spec_l1In.s)]
def spec_l3Type.G6 (k : Nat) (avs : List AV) (H : List HE) : Option (Bool) := match avs, H with
  | [.v (.string x0), .v (.int .i64 x3)], [] => spec_l3Type.p6 k x0 x3
  | _, _ => none
def spec_l3Type.G (k p : Nat) (avs : List AV) (H : List HE) : Option (Bool) := (pick1 6 (spec_l3Type.G6 k avs H) none p)
set_option maxRecDepth 100000 in
theorem spec_l3Type.eq (k : Nat) (a0 : ByteArray) : fromTop Tryd.prog spec_l3Type.E k spec_l3Type.a (spec_l3Type.G k) 1000 (bodyOf Tryd.prog 59) [.v (.string a0)] [] = spec_l3Type.f k a0 := by kernel_rfl
set_option maxRecDepth 100000 in
theorem spec_l3Type.eq6 (k : Nat) (x0 : ByteArray) (x3 : Int) : fromPt Tryd.prog spec_l3Type.E k spec_l3Type.a (spec_l3Type.G k) 1000 (bodyOf Tryd.prog 59) 6 [.v (.string x0), .v (.int .i64 x3)] [] = spec_l3Type.p6 (k + 1) x0 x3 := by kernel_rfl
theorem spec_l3Type.G6_0 {avs : List AV} {H : List HE} : spec_l3Type.G6 0 avs H = none := by unfold spec_l3Type.G6; split <;> rfl
theorem spec_l3Type.G6_s (k : Nat) {avs : List AV} {H : List HE} {x : Bool} (h : spec_l3Type.G6 (k + 1) avs H = some x) : fromPt Tryd.prog spec_l3Type.E k spec_l3Type.a (spec_l3Type.G k) 1000 (bodyOf Tryd.prog 59) 6 avs H = some x := by
  unfold spec_l3Type.G6 at h
  split at h
  · rw [← h]; exact spec_l3Type.eq6 _ _ _
  · cases h
theorem spec_l3Type.E_ok : EnvOk Tryd.prog spec_l3Type.E := ⟨⟨spec_l1In.sound, callable_of (by kernel_rfl)⟩, trivial⟩
theorem spec_l3Type.sound : Sound Tryd.prog 59 spec_l3Type.s := by
  refine func_sound (f := spec_l3Type.a) (G := spec_l3Type.G) (fn := Tryd.f59) (body := bodyOf Tryd.prog 59) 1000 (by kernel_rfl) spec_l3Type.E_ok Tryd.func59 (by kernel_rfl) (by kernel_rfl) (by kernel_rfl) (ptsOk_of (by kernel_rfl)) ?_ ?_ ?_ ?_
  · intro r H x h
    unfold spec_l3Type.a at h
    simp only at h
    split at h
    · cases h; rfl
    · cases h
  · exact fun q avs H => pick1_none spec_l3Type.G6_0 (rfl)
  · intro k q pt avs H x _ h
    rcases pick1_some h with ⟨rfl, h⟩ | h
    · exact spec_l3Type.G6_s _ h
    cases h
  · intro k avs H o h
    try dsimp only at h
    split at h
    · cases h; exact spec_l3Type.eq _ _
    · cases h

def spec_TypesOk.a : FnA (Bool) := ⟨20, [.tmp 2], .bool, [], [⟨14, [0, 3], [.con .str, .val], []⟩], fun x H => match x, H with
  | .bs false r, [] => some r
  | _, _ => none⟩
def spec_TypesOk.s : Spec := mkS [.con .str] (fun k avs H => match avs, H with
  | [.con .str a0], [] => some (spec_TypesOk.f k a0)
  | _, _ => none) (fun r => (.bs false r, []))
def spec_TypesOk.E : Env := [((25, []), spec_l1In.s), ((59, []), spec_l3Type.s)]
def spec_TypesOk.G14 (k : Nat) (avs : List AV) (H : List HE) : Option (Bool) := match avs, H with
  | [.con .str x0, .v (.int .i64 x3)], [] => spec_TypesOk.p14 k x0 x3
  | _, _ => none
def spec_TypesOk.G (k p : Nat) (avs : List AV) (H : List HE) : Option (Bool) := (pick1 14 (spec_TypesOk.G14 k avs H) none p)
set_option maxRecDepth 100000 in
theorem spec_TypesOk.eq (k : Nat) (a0 : List ByteArray) : fromTop Tryd.prog spec_TypesOk.E k spec_TypesOk.a (spec_TypesOk.G k) 1000 (bodyOf Tryd.prog 50) [.con .str a0] [] = spec_TypesOk.f k a0 := by kernel_rfl
set_option maxRecDepth 100000 in
theorem spec_TypesOk.eq14 (k : Nat) (x0 : List ByteArray) (x3 : Int) : fromPt Tryd.prog spec_TypesOk.E k spec_TypesOk.a (spec_TypesOk.G k) 1000 (bodyOf Tryd.prog 50) 14 [.con .str x0, .v (.int .i64 x3)] [] = spec_TypesOk.p14 (k + 1) x0 x3 := by kernel_rfl
theorem spec_TypesOk.G14_0 {avs : List AV} {H : List HE} : spec_TypesOk.G14 0 avs H = none := by unfold spec_TypesOk.G14; split <;> rfl
theorem spec_TypesOk.G14_s (k : Nat) {avs : List AV} {H : List HE} {x : Bool} (h : spec_TypesOk.G14 (k + 1) avs H = some x) : fromPt Tryd.prog spec_TypesOk.E k spec_TypesOk.a (spec_TypesOk.G k) 1000 (bodyOf Tryd.prog 50) 14 avs H = some x := by
  unfold spec_TypesOk.G14 at h
  split at h
  · rw [← h]; exact spec_TypesOk.eq14 _ _ _
  · cases h
theorem spec_TypesOk.E_ok : EnvOk Tryd.prog spec_TypesOk.E := ⟨⟨spec_l1In.sound, callable_of (by kernel_rfl)⟩, ⟨spec_l3Type.sound, callable_of (by kernel_rfl)⟩, trivial⟩
theorem spec_TypesOk.sound : Sound Tryd.prog 50 spec_TypesOk.s := by
  refine func_sound (f := spec_TypesOk.a) (G := spec_TypesOk.G) (fn := Tryd.f50) (body := bodyOf Tryd.prog 50) 1000 (by kernel_rfl) spec_TypesOk.E_ok Tryd.func50 (by kernel_rfl) (by kernel_rfl) (by kernel_rfl) (ptsOk_of (by kernel_rfl)) ?_ ?_ ?_ ?_
  · intro r H x h
    unfold spec_TypesOk.a at h
    simp only at h
    split at h
    · cases h; rfl
    · cases h
  · exact fun q avs H => pick1_none spec_TypesOk.G14_0 (rfl)
  · intro k q pt avs H x _ h
    rcases pick1_some h with ⟨rfl, h⟩ | h
    · exact spec_TypesOk.G14_s _ h
    cases h
  · intro k avs H o h
    try dsimp only at h
    split at h
    · cases h; exact spec_TypesOk.eq _ _
    · cases h

def spec_ConfigOk.a : FnA (Bool) := ⟨29, [.tmp 2], .bool, [], [], fun x H => match x, H with
  | .bs false r, [] => some r
  | _, _ => none⟩
def spec_ConfigOk.s : Spec := mkS [.agg [.val, .val, .val, .con .str]] (fun k avs H => match avs, H with
  | [.agg [.v (.int .i64 a0_0), .v (.int .i64 a0_1), .v (.int .i64 a0_2), .con .str a0_3]], [] => some (spec_ConfigOk.f k a0_0 a0_1 a0_2 a0_3)
  | _, _ => none) (fun r => (.bs false r, []))
def spec_ConfigOk.E : Env := [((25, []), spec_l1In.s), ((50, []), spec_TypesOk.s)]
def spec_ConfigOk.G (k p : Nat) (avs : List AV) (H : List HE) : Option (Bool) := none
set_option maxRecDepth 100000 in
theorem spec_ConfigOk.eq (k : Nat) (a0_0 : Int) (a0_1 : Int) (a0_2 : Int) (a0_3 : List ByteArray) : fromTop Tryd.prog spec_ConfigOk.E k spec_ConfigOk.a (spec_ConfigOk.G k) 1000 (bodyOf Tryd.prog 35) [.agg [.v (.int .i64 a0_0), .v (.int .i64 a0_1), .v (.int .i64 a0_2), .con .str a0_3]] [] = spec_ConfigOk.f k a0_0 a0_1 a0_2 a0_3 := by kernel_rfl
theorem spec_ConfigOk.E_ok : EnvOk Tryd.prog spec_ConfigOk.E := ⟨⟨spec_l1In.sound, callable_of (by kernel_rfl)⟩, ⟨spec_TypesOk.sound, callable_of (by kernel_rfl)⟩, trivial⟩
theorem spec_ConfigOk.sound : Sound Tryd.prog 35 spec_ConfigOk.s := by
  refine func_sound (f := spec_ConfigOk.a) (G := spec_ConfigOk.G) (fn := Tryd.f35) (body := bodyOf Tryd.prog 35) 1000 (by kernel_rfl) spec_ConfigOk.E_ok Tryd.func35 (by kernel_rfl) (by kernel_rfl) (by kernel_rfl) (ptsOk_of (by kernel_rfl)) ?_ ?_ ?_ ?_
  · intro r H x h
    unfold spec_ConfigOk.a at h
    simp only at h
    split at h
    · cases h; rfl
    · cases h
  · intro q avs H; rfl
  · intro k q pt avs H x _ h; cases h
  · intro k avs H o h
    try dsimp only at h
    split at h
    · cases h; exact spec_ConfigOk.eq _ _ _ _ _
    · cases h

def spec_WordBytes.a : FnA (ByteArray) := ⟨23, [.tmp 2], .val, [], [⟨8, [0, 3, 4], [.val, .row 5 (.int .u8), .val], []⟩], fun x H => match x, H with
  | .v (.string r), [] => some r
  | _, _ => none⟩
def spec_WordBytes.s : Spec := mkS [.val] (fun k avs H => match avs, H with
  | [.v (.int .i64 a0)], [] => some (spec_WordBytes.f k a0)
  | _, _ => none) (fun r => (.v (.string r), []))
def spec_WordBytes.E : Env := []
def spec_WordBytes.G8 (k : Nat) (avs : List AV) (H : List HE) : Option (ByteArray) := match avs, H with
  | [.v (.int .i64 x0), .own 0, .v (.int .i64 x4)], [.row 5 (.int .u8) x3] => spec_WordBytes.p8 k x0 x3 x4
  | _, _ => none
def spec_WordBytes.G (k p : Nat) (avs : List AV) (H : List HE) : Option (ByteArray) := (pick1 8 (spec_WordBytes.G8 k avs H) none p)
set_option maxRecDepth 100000 in
theorem spec_WordBytes.eq (k : Nat) (a0 : Int) : fromTop Tryd.prog spec_WordBytes.E k spec_WordBytes.a (spec_WordBytes.G k) 1000 (bodyOf Tryd.prog 40) [.v (.int .i64 a0)] [] = spec_WordBytes.f k a0 := by kernel_rfl
set_option maxRecDepth 100000 in
theorem spec_WordBytes.eq8 (k : Nat) (x0 : Int) (x3 : List Int) (x4 : Int) : fromPt Tryd.prog spec_WordBytes.E k spec_WordBytes.a (spec_WordBytes.G k) 1000 (bodyOf Tryd.prog 40) 8 [.v (.int .i64 x0), .own 0, .v (.int .i64 x4)] [.row 5 (.int .u8) x3] = spec_WordBytes.p8 (k + 1) x0 x3 x4 := by kernel_rfl
theorem spec_WordBytes.G8_0 {avs : List AV} {H : List HE} : spec_WordBytes.G8 0 avs H = none := by unfold spec_WordBytes.G8; split <;> rfl
theorem spec_WordBytes.G8_s (k : Nat) {avs : List AV} {H : List HE} {x : ByteArray} (h : spec_WordBytes.G8 (k + 1) avs H = some x) : fromPt Tryd.prog spec_WordBytes.E k spec_WordBytes.a (spec_WordBytes.G k) 1000 (bodyOf Tryd.prog 40) 8 avs H = some x := by
  unfold spec_WordBytes.G8 at h
  split at h
  · rw [← h]; exact spec_WordBytes.eq8 _ _ _ _
  · cases h
theorem spec_WordBytes.E_ok : EnvOk Tryd.prog spec_WordBytes.E := trivial
theorem spec_WordBytes.sound : Sound Tryd.prog 40 spec_WordBytes.s := by
  refine func_sound (f := spec_WordBytes.a) (G := spec_WordBytes.G) (fn := Tryd.f40) (body := bodyOf Tryd.prog 40) 1000 (by kernel_rfl) spec_WordBytes.E_ok Tryd.func40 (by kernel_rfl) (by kernel_rfl) (by kernel_rfl) (ptsOk_of (by kernel_rfl)) ?_ ?_ ?_ ?_
  · intro r H x h
    unfold spec_WordBytes.a at h
    simp only at h
    split at h
    · cases h; rfl
    · cases h
  · exact fun q avs H => pick1_none spec_WordBytes.G8_0 (rfl)
  · intro k q pt avs H x _ h
    rcases pick1_some h with ⟨rfl, h⟩ | h
    · exact spec_WordBytes.G8_s _ h
    cases h
  · intro k avs H o h
    try dsimp only at h
    split at h
    · cases h; exact spec_WordBytes.eq _ _
    · cases h

def spec_ShortBytes.a : FnA (ByteArray) := ⟨9, [.tmp 2], .val, [], [], fun x H => match x, H with
  | .v (.string r), [] => some r
  | _, _ => none⟩
def spec_ShortBytes.s : Spec := mkS [.val] (fun k avs H => match avs, H with
  | [.v (.int .i64 a0)], [] => some (spec_ShortBytes.f k a0)
  | _, _ => none) (fun r => (.v (.string r), []))
def spec_ShortBytes.E : Env := [((25, []), spec_l1In.s), ((40, []), spec_WordBytes.s)]
def spec_ShortBytes.G (k p : Nat) (avs : List AV) (H : List HE) : Option (ByteArray) := none
set_option maxRecDepth 100000 in
theorem spec_ShortBytes.eq (k : Nat) (a0 : Int) : fromTop Tryd.prog spec_ShortBytes.E k spec_ShortBytes.a (spec_ShortBytes.G k) 1000 (bodyOf Tryd.prog 39) [.v (.int .i64 a0)] [] = spec_ShortBytes.f k a0 := by kernel_rfl
theorem spec_ShortBytes.E_ok : EnvOk Tryd.prog spec_ShortBytes.E := ⟨⟨spec_l1In.sound, callable_of (by kernel_rfl)⟩, ⟨spec_WordBytes.sound, callable_of (by kernel_rfl)⟩, trivial⟩
theorem spec_ShortBytes.sound : Sound Tryd.prog 39 spec_ShortBytes.s := by
  refine func_sound (f := spec_ShortBytes.a) (G := spec_ShortBytes.G) (fn := Tryd.f39) (body := bodyOf Tryd.prog 39) 1000 (by kernel_rfl) spec_ShortBytes.E_ok Tryd.func39 (by kernel_rfl) (by kernel_rfl) (by kernel_rfl) (ptsOk_of (by kernel_rfl)) ?_ ?_ ?_ ?_
  · intro r H x h
    unfold spec_ShortBytes.a at h
    simp only at h
    split at h
    · cases h; rfl
    · cases h
  · intro q avs H; rfl
  · intro k q pt avs H x _ h; cases h
  · intro k avs H o h
    try dsimp only at h
    split at h
    · cases h; exact spec_ShortBytes.eq _ _
    · cases h

def spec_l1Zeros.a : FnA (ByteArray) := ⟨6, [.tmp 2], .val, [], [], fun x H => match x, H with
  | .v (.string r), [] => some r
  | _, _ => none⟩
def spec_l1Zeros.s : Spec := mkS [.val] (fun k avs H => match avs, H with
  | [.v (.int .i64 a0)], [] => some (spec_l1Zeros.f a0)
  | _, _ => none) (fun r => (.v (.string r), []))
def spec_l1Zeros.E : Env := []
def spec_l1Zeros.G (k p : Nat) (avs : List AV) (H : List HE) : Option (ByteArray) := none
set_option maxRecDepth 100000 in
theorem spec_l1Zeros.eq (k : Nat) (a0 : Int) : fromTop Tryd.prog spec_l1Zeros.E k spec_l1Zeros.a (spec_l1Zeros.G k) 1000 (bodyOf Tryd.prog 51) [.v (.int .i64 a0)] [] = spec_l1Zeros.f a0 := by kernel_rfl
theorem spec_l1Zeros.E_ok : EnvOk Tryd.prog spec_l1Zeros.E := trivial
theorem spec_l1Zeros.sound : Sound Tryd.prog 51 spec_l1Zeros.s := by
  refine func_sound (f := spec_l1Zeros.a) (G := spec_l1Zeros.G) (fn := Tryd.f51) (body := bodyOf Tryd.prog 51) 1000 (by kernel_rfl) spec_l1Zeros.E_ok Tryd.func51 (by kernel_rfl) (by kernel_rfl) (by kernel_rfl) (ptsOk_of (by kernel_rfl)) ?_ ?_ ?_ ?_
  · intro r H x h
    unfold spec_l1Zeros.a at h
    simp only at h
    split at h
    · cases h; rfl
    · cases h
  · intro q avs H; rfl
  · intro k q pt avs H x _ h; cases h
  · intro k avs H o h
    try dsimp only at h
    split at h
    · cases h; exact spec_l1Zeros.eq _ _
    · cases h

def spec_l1Crc.a : FnA (ByteArray) := ⟨45, [.tmp 2], .val, [], [⟨8, [0, 3, 4], [.val, .val, .val], []⟩, ⟨22, [0, 3, 4, 5], [.val, .val, .val, .val], []⟩], fun x H => match x, H with
  | .v (.string r), [] => some r
  | _, _ => none⟩
def spec_l1Crc.s : Spec := mkS [.val] (fun k avs H => match avs, H with
  | [.v (.string a0)], [] => some (spec_l1Crc.f k a0)
  | _, _ => none) (fun r => (.v (.string r), []))
def spec_l1Crc.E : Env := []
def spec_l1Crc.G8 (k : Nat) (avs : List AV) (H : List HE) : Option (ByteArray) := match avs, H with
  | [.v (.string x0), .v (.int .u32 x3), .v (.int .i64 x4)], [] => spec_l1Crc.p8 k x0 x3 x4
  | _, _ => none
def spec_l1Crc.G22 (k : Nat) (avs : List AV) (H : List HE) : Option (ByteArray) := match avs, H with
  | [.v (.string x0), .v (.int .u32 x3), .v (.int .i64 x4), .v (.int .i64 x5)], [] => spec_l1Crc.p22 k x0 x3 x4 x5
  | _, _ => none
def spec_l1Crc.G (k p : Nat) (avs : List AV) (H : List HE) : Option (ByteArray) := (pick1 8 (spec_l1Crc.G8 k avs H) (pick1 22 (spec_l1Crc.G22 k avs H) none p) p)
set_option maxRecDepth 100000 in
theorem spec_l1Crc.eq (k : Nat) (a0 : ByteArray) : fromTop Tryd.prog spec_l1Crc.E k spec_l1Crc.a (spec_l1Crc.G k) 1000 (bodyOf Tryd.prog 52) [.v (.string a0)] [] = spec_l1Crc.f k a0 := by kernel_rfl
set_option maxRecDepth 100000 in
theorem spec_l1Crc.eq8 (k : Nat) (x0 : ByteArray) (x3 : Int) (x4 : Int) : fromPt Tryd.prog spec_l1Crc.E k spec_l1Crc.a (spec_l1Crc.G k) 1000 (bodyOf Tryd.prog 52) 8 [.v (.string x0), .v (.int .u32 x3), .v (.int .i64 x4)] [] = spec_l1Crc.p8 (k + 1) x0 x3 x4 := by kernel_rfl
theorem spec_l1Crc.G8_0 {avs : List AV} {H : List HE} : spec_l1Crc.G8 0 avs H = none := by unfold spec_l1Crc.G8; split <;> rfl
theorem spec_l1Crc.G8_s (k : Nat) {avs : List AV} {H : List HE} {x : ByteArray} (h : spec_l1Crc.G8 (k + 1) avs H = some x) : fromPt Tryd.prog spec_l1Crc.E k spec_l1Crc.a (spec_l1Crc.G k) 1000 (bodyOf Tryd.prog 52) 8 avs H = some x := by
  unfold spec_l1Crc.G8 at h
  split at h
  · rw [← h]; exact spec_l1Crc.eq8 _ _ _ _
  · cases h
set_option maxRecDepth 100000 in
theorem spec_l1Crc.eq22 (k : Nat) (x0 : ByteArray) (x3 : Int) (x4 : Int) (x5 : Int) : fromPt Tryd.prog spec_l1Crc.E k spec_l1Crc.a (spec_l1Crc.G k) 1000 (bodyOf Tryd.prog 52) 22 [.v (.string x0), .v (.int .u32 x3), .v (.int .i64 x4), .v (.int .i64 x5)] [] = spec_l1Crc.p22 (k + 1) x0 x3 x4 x5 := by kernel_rfl
theorem spec_l1Crc.G22_0 {avs : List AV} {H : List HE} : spec_l1Crc.G22 0 avs H = none := by unfold spec_l1Crc.G22; split <;> rfl
theorem spec_l1Crc.G22_s (k : Nat) {avs : List AV} {H : List HE} {x : ByteArray} (h : spec_l1Crc.G22 (k + 1) avs H = some x) : fromPt Tryd.prog spec_l1Crc.E k spec_l1Crc.a (spec_l1Crc.G k) 1000 (bodyOf Tryd.prog 52) 22 avs H = some x := by
  unfold spec_l1Crc.G22 at h
  split at h
  · rw [← h]; exact spec_l1Crc.eq22 _ _ _ _ _
  · cases h
theorem spec_l1Crc.E_ok : EnvOk Tryd.prog spec_l1Crc.E := trivial
theorem spec_l1Crc.sound : Sound Tryd.prog 52 spec_l1Crc.s := by
  refine func_sound (f := spec_l1Crc.a) (G := spec_l1Crc.G) (fn := Tryd.f52) (body := bodyOf Tryd.prog 52) 1000 (by kernel_rfl) spec_l1Crc.E_ok Tryd.func52 (by kernel_rfl) (by kernel_rfl) (by kernel_rfl) (ptsOk_of (by kernel_rfl)) ?_ ?_ ?_ ?_
  · intro r H x h
    unfold spec_l1Crc.a at h
    simp only at h
    split at h
    · cases h; rfl
    · cases h
  · exact fun q avs H => pick1_none spec_l1Crc.G8_0 (pick1_none spec_l1Crc.G22_0 (rfl))
  · intro k q pt avs H x _ h
    rcases pick1_some h with ⟨rfl, h⟩ | h
    · exact spec_l1Crc.G8_s _ h
    rcases pick1_some h with ⟨rfl, h⟩ | h
    · exact spec_l1Crc.G22_s _ h
    cases h
  · intro k avs H o h
    try dsimp only at h
    split at h
    · cases h; exact spec_l1Crc.eq _ _
    · cases h

def spec_Sealed.a : FnA (ByteArray) := ⟨17, [.tmp 2], .val, [], [], fun x H => match x, H with
  | .v (.string r), [] => some r
  | _, _ => none⟩
def spec_Sealed.s : Spec := mkS [.val] (fun k avs H => match avs, H with
  | [.v (.string a0)], [] => some (spec_Sealed.f k a0)
  | _, _ => none) (fun r => (.v (.string r), []))
def spec_Sealed.E : Env := [((51, []), spec_l1Zeros.s), ((52, []), spec_l1Crc.s)]
def spec_Sealed.G (k p : Nat) (avs : List AV) (H : List HE) : Option (ByteArray) := none
set_option maxRecDepth 100000 in
theorem spec_Sealed.eq (k : Nat) (a0 : ByteArray) : fromTop Tryd.prog spec_Sealed.E k spec_Sealed.a (spec_Sealed.G k) 1000 (bodyOf Tryd.prog 38) [.v (.string a0)] [] = spec_Sealed.f k a0 := by kernel_rfl
theorem spec_Sealed.E_ok : EnvOk Tryd.prog spec_Sealed.E := ⟨⟨spec_l1Zeros.sound, callable_of (by kernel_rfl)⟩, ⟨spec_l1Crc.sound, callable_of (by kernel_rfl)⟩, trivial⟩
theorem spec_Sealed.sound : Sound Tryd.prog 38 spec_Sealed.s := by
  refine func_sound (f := spec_Sealed.a) (G := spec_Sealed.G) (fn := Tryd.f38) (body := bodyOf Tryd.prog 38) 1000 (by kernel_rfl) spec_Sealed.E_ok Tryd.func38 (by kernel_rfl) (by kernel_rfl) (by kernel_rfl) (ptsOk_of (by kernel_rfl)) ?_ ?_ ?_ ?_
  · intro r H x h
    unfold spec_Sealed.a at h
    simp only at h
    split at h
    · cases h; rfl
    · cases h
  · intro q avs H; rfl
  · intro k q pt avs H x _ h; cases h
  · intro k avs H o h
    try dsimp only at h
    split at h
    · cases h; exact spec_Sealed.eq _ _
    · cases h

def spec_l3Super.a : FnA (ByteArray) := ⟨77, [.tmp 2], .val, [], [⟨8, [1, 3, 4], [.box [.val, .val, .val, .con .str], .val, .val], []⟩, ⟨23, [1, 3, 4, 5, 6], [.box [.val, .val, .val, .con .str], .val, .val, .val, .val], []⟩], fun x H => match x, H with
  | .v (.string r), [] => some r
  | _, _ => none⟩
def spec_l3Super.s : Spec := mkS [.agg [.val, .val, .val, .con .str]] (fun k avs H => match avs, H with
  | [.agg [.v (.int .i64 a0_0), .v (.int .i64 a0_1), .v (.int .i64 a0_2), .con .str a0_3]], [] => some (spec_l3Super.f k a0_0 a0_1 a0_2 a0_3)
  | _, _ => none) (fun r => (.v (.string r), []))
def spec_l3Super.E : Env := [((39, []), spec_ShortBytes.s), ((38, []), spec_Sealed.s)]
def spec_l3Super.G8 (k : Nat) (avs : List AV) (H : List HE) : Option (ByteArray) := match avs, H with
  | [.box 0 0, .v (.string x3), .v (.int .i64 x4)], [.box [.v (.int .i64 x1_0), .v (.int .i64 x1_1), .v (.int .i64 x1_2), .con .str x1_3]] => spec_l3Super.p8 k x1_0 x1_1 x1_2 x1_3 x3 x4
  | _, _ => none
def spec_l3Super.G23 (k : Nat) (avs : List AV) (H : List HE) : Option (ByteArray) := match avs, H with
  | [.box 0 0, .v (.string x3), .v (.int .i64 x4), .v (.int .i64 x5), .v (.int .i64 x6)], [.box [.v (.int .i64 x1_0), .v (.int .i64 x1_1), .v (.int .i64 x1_2), .con .str x1_3]] => spec_l3Super.p23 k x1_0 x1_1 x1_2 x1_3 x3 x4 x5 x6
  | _, _ => none
def spec_l3Super.G (k p : Nat) (avs : List AV) (H : List HE) : Option (ByteArray) := (pick1 8 (spec_l3Super.G8 k avs H) (pick1 23 (spec_l3Super.G23 k avs H) none p) p)
set_option maxRecDepth 100000 in
theorem spec_l3Super.eq (k : Nat) (a0_0 : Int) (a0_1 : Int) (a0_2 : Int) (a0_3 : List ByteArray) : fromTop Tryd.prog spec_l3Super.E k spec_l3Super.a (spec_l3Super.G k) 1000 (bodyOf Tryd.prog 36) [.agg [.v (.int .i64 a0_0), .v (.int .i64 a0_1), .v (.int .i64 a0_2), .con .str a0_3]] [] = spec_l3Super.f k a0_0 a0_1 a0_2 a0_3 := by kernel_rfl
set_option maxRecDepth 100000 in
theorem spec_l3Super.eq8 (k : Nat) (x1_0 : Int) (x1_1 : Int) (x1_2 : Int) (x1_3 : List ByteArray) (x3 : ByteArray) (x4 : Int) : fromPt Tryd.prog spec_l3Super.E k spec_l3Super.a (spec_l3Super.G k) 1000 (bodyOf Tryd.prog 36) 8 [.box 0 0, .v (.string x3), .v (.int .i64 x4)] [.box [.v (.int .i64 x1_0), .v (.int .i64 x1_1), .v (.int .i64 x1_2), .con .str x1_3]] = spec_l3Super.p8 (k + 1) x1_0 x1_1 x1_2 x1_3 x3 x4 := by kernel_rfl
theorem spec_l3Super.G8_0 {avs : List AV} {H : List HE} : spec_l3Super.G8 0 avs H = none := by unfold spec_l3Super.G8; split <;> rfl
theorem spec_l3Super.G8_s (k : Nat) {avs : List AV} {H : List HE} {x : ByteArray} (h : spec_l3Super.G8 (k + 1) avs H = some x) : fromPt Tryd.prog spec_l3Super.E k spec_l3Super.a (spec_l3Super.G k) 1000 (bodyOf Tryd.prog 36) 8 avs H = some x := by
  unfold spec_l3Super.G8 at h
  split at h
  · rw [← h]; exact spec_l3Super.eq8 _ _ _ _ _ _ _
  · cases h
set_option maxRecDepth 100000 in
theorem spec_l3Super.eq23 (k : Nat) (x1_0 : Int) (x1_1 : Int) (x1_2 : Int) (x1_3 : List ByteArray) (x3 : ByteArray) (x4 : Int) (x5 : Int) (x6 : Int) : fromPt Tryd.prog spec_l3Super.E k spec_l3Super.a (spec_l3Super.G k) 1000 (bodyOf Tryd.prog 36) 23 [.box 0 0, .v (.string x3), .v (.int .i64 x4), .v (.int .i64 x5), .v (.int .i64 x6)] [.box [.v (.int .i64 x1_0), .v (.int .i64 x1_1), .v (.int .i64 x1_2), .con .str x1_3]] = spec_l3Super.p23 (k + 1) x1_0 x1_1 x1_2 x1_3 x3 x4 x5 x6 := by kernel_rfl
theorem spec_l3Super.G23_0 {avs : List AV} {H : List HE} : spec_l3Super.G23 0 avs H = none := by unfold spec_l3Super.G23; split <;> rfl
theorem spec_l3Super.G23_s (k : Nat) {avs : List AV} {H : List HE} {x : ByteArray} (h : spec_l3Super.G23 (k + 1) avs H = some x) : fromPt Tryd.prog spec_l3Super.E k spec_l3Super.a (spec_l3Super.G k) 1000 (bodyOf Tryd.prog 36) 23 avs H = some x := by
  unfold spec_l3Super.G23 at h
  split at h
  · rw [← h]; exact spec_l3Super.eq23 _ _ _ _ _ _ _ _ _
  · cases h
theorem spec_l3Super.E_ok : EnvOk Tryd.prog spec_l3Super.E := ⟨⟨spec_ShortBytes.sound, callable_of (by kernel_rfl)⟩, ⟨spec_Sealed.sound, callable_of (by kernel_rfl)⟩, trivial⟩
theorem spec_l3Super.sound : Sound Tryd.prog 36 spec_l3Super.s := by
  refine func_sound (f := spec_l3Super.a) (G := spec_l3Super.G) (fn := Tryd.f36) (body := bodyOf Tryd.prog 36) 1000 (by kernel_rfl) spec_l3Super.E_ok Tryd.func36 (by kernel_rfl) (by kernel_rfl) (by kernel_rfl) (ptsOk_of (by kernel_rfl)) ?_ ?_ ?_ ?_
  · intro r H x h
    unfold spec_l3Super.a at h
    simp only at h
    split at h
    · cases h; rfl
    · cases h
  · exact fun q avs H => pick1_none spec_l3Super.G8_0 (pick1_none spec_l3Super.G23_0 (rfl))
  · intro k q pt avs H x _ h
    rcases pick1_some h with ⟨rfl, h⟩ | h
    · exact spec_l3Super.G8_s _ h
    rcases pick1_some h with ⟨rfl, h⟩ | h
    · exact spec_l3Super.G23_s _ h
    cases h
  · intro k avs H o h
    try dsimp only at h
    split at h
    · cases h; exact spec_l3Super.eq _ _ _ _ _
    · cases h

def spec_SuperLine.a : FnA (ByteArray) := ⟨8, [.tmp 2], .val, [], [], fun x H => match x, H with
  | .v (.string r), [] => some r
  | _, _ => none⟩
def spec_SuperLine.s : Spec := mkS [.agg [.val, .val, .val, .con .str]] (fun k avs H => match avs, H with
  | [.agg [.v (.int .i64 a0_0), .v (.int .i64 a0_1), .v (.int .i64 a0_2), .con .str a0_3]], [] => some (spec_SuperLine.f k a0_0 a0_1 a0_2 a0_3)
  | _, _ => none) (fun r => (.v (.string r), []))
def spec_SuperLine.E : Env := [((35, []), spec_ConfigOk.s), ((36, []), spec_l3Super.s)]
def spec_SuperLine.G (k p : Nat) (avs : List AV) (H : List HE) : Option (ByteArray) := none
set_option maxRecDepth 100000 in
theorem spec_SuperLine.eq (k : Nat) (a0_0 : Int) (a0_1 : Int) (a0_2 : Int) (a0_3 : List ByteArray) : fromTop Tryd.prog spec_SuperLine.E k spec_SuperLine.a (spec_SuperLine.G k) 1000 (bodyOf Tryd.prog 20) [.agg [.v (.int .i64 a0_0), .v (.int .i64 a0_1), .v (.int .i64 a0_2), .con .str a0_3]] [] = spec_SuperLine.f k a0_0 a0_1 a0_2 a0_3 := by kernel_rfl
theorem spec_SuperLine.E_ok : EnvOk Tryd.prog spec_SuperLine.E := ⟨⟨spec_ConfigOk.sound, callable_of (by kernel_rfl)⟩, ⟨spec_l3Super.sound, callable_of (by kernel_rfl)⟩, trivial⟩
theorem spec_SuperLine.sound : Sound Tryd.prog 20 spec_SuperLine.s := by
  refine func_sound (f := spec_SuperLine.a) (G := spec_SuperLine.G) (fn := Tryd.f20) (body := bodyOf Tryd.prog 20) 1000 (by kernel_rfl) spec_SuperLine.E_ok Tryd.func20 (by kernel_rfl) (by kernel_rfl) (by kernel_rfl) (ptsOk_of (by kernel_rfl)) ?_ ?_ ?_ ?_
  · intro r H x h
    unfold spec_SuperLine.a at h
    simp only at h
    split at h
    · cases h; rfl
    · cases h
  · intro q avs H; rfl
  · intro k q pt avs H x _ h; cases h
  · intro k avs H o h
    try dsimp only at h
    split at h
    · cases h; exact spec_SuperLine.eq _ _ _ _ _
    · cases h

def spec_ReadSuper.a : FnA (Int × Int × Int × List ByteArray × Bool) := ⟨103, [.cell 2 27, .tmp 3], .tup [.agg [.val, .val, .val, .row 9 .str], .bool], [], [⟨22, [0, 2, 4, 5], [.val, .box [.val, .val, .val, .val], .box [.val, .val, .val, .row 9 .str], .val], []⟩, ⟨26, [0, 2, 4, 5, 44], [.val, .box [.val, .val, .val, .val], .box [.val, .val, .val, .row 9 .str], .val, .bool], []⟩, ⟨41, [0, 2, 4, 5, 6, 7, 8, 9], [.val, .box [.val, .val, .val, .val], .box [.val, .val, .val, .row 9 .str], .val, .val, .val, .val, .val], []⟩, ⟨45, [0, 2, 4, 5, 6, 7, 8, 9, 78], [.val, .box [.val, .val, .val, .val], .box [.val, .val, .val, .row 9 .str], .val, .val, .val, .val, .val, .bool], []⟩], fun x H => match x, H with
  | .tup [.agg [.v (.int .i64 r_0_0), .v (.int .i64 r_0_1), .v (.int .i64 r_0_2), .own 0], .bs false r_1], [.row 9 .str r_0_3] => some (r_0_0, r_0_1, r_0_2, r_0_3, r_1)
  | _, _ => none⟩
def spec_ReadSuper.s : Spec := mkS [.val] (fun k avs H => match avs, H with
  | [.v (.string a0)], [] => some (spec_ReadSuper.f k a0)
  | _, _ => none) (fun r => (.tup [.agg [.v (.int .i64 r.1), .v (.int .i64 r.2.1), .v (.int .i64 r.2.2.1), .own 0], .bs false r.2.2.2.2], [.row 9 .str r.2.2.2.1]))
def spec_ReadSuper.E : Env := [((19, []), spec_ReadShort.s), ((20, []), spec_SuperLine.s)]
def spec_ReadSuper.G22 (k : Nat) (avs : List AV) (H : List HE) : Option (Int × Int × Int × List ByteArray × Bool) := match avs, H with
  | [.v (.string x0), .box 0 0, .box 1 0, .v (.int .i64 x5)], [.box [.v (.int .i64 x2_0), .v (.int .i64 x2_1), .v (.int .i64 x2_2), .v (.slice none 0 0)], .box [.v (.int .i64 x4_0), .v (.int .i64 x4_1), .v (.int .i64 x4_2), .own 2], .row 9 .str x4_3] => spec_ReadSuper.p22 k x0 x2_0 x2_1 x2_2 x4_0 x4_1 x4_2 x4_3 x5
  | _, _ => none
def spec_ReadSuper.G26 (k : Nat) (avs : List AV) (H : List HE) : Option (Int × Int × Int × List ByteArray × Bool) := match avs, H with
  | [.v (.string x0), .box 0 0, .box 1 0, .v (.int .i64 x5), .bs false x44], [.box [.v (.int .i64 x2_0), .v (.int .i64 x2_1), .v (.int .i64 x2_2), .v (.slice none 0 0)], .box [.v (.int .i64 x4_0), .v (.int .i64 x4_1), .v (.int .i64 x4_2), .own 2], .row 9 .str x4_3] => spec_ReadSuper.p26 k x0 x2_0 x2_1 x2_2 x4_0 x4_1 x4_2 x4_3 x5 x44
  | _, _ => none
def spec_ReadSuper.G41 (k : Nat) (avs : List AV) (H : List HE) : Option (Int × Int × Int × List ByteArray × Bool) := match avs, H with
  | [.v (.string x0), .box 0 0, .box 1 0, .v (.int .i64 x5), .v (.int .i64 x6), .v (.int .i64 x7), .v (.string x8), .v (.int .i64 x9)], [.box [.v (.int .i64 x2_0), .v (.int .i64 x2_1), .v (.int .i64 x2_2), .v (.slice none 0 0)], .box [.v (.int .i64 x4_0), .v (.int .i64 x4_1), .v (.int .i64 x4_2), .own 2], .row 9 .str x4_3] => spec_ReadSuper.p41 k x0 x2_0 x2_1 x2_2 x4_0 x4_1 x4_2 x4_3 x5 x6 x7 x8 x9
  | _, _ => none
def spec_ReadSuper.G45 (k : Nat) (avs : List AV) (H : List HE) : Option (Int × Int × Int × List ByteArray × Bool) := match avs, H with
  | [.v (.string x0), .box 0 0, .box 1 0, .v (.int .i64 x5), .v (.int .i64 x6), .v (.int .i64 x7), .v (.string x8), .v (.int .i64 x9), .bs false x78], [.box [.v (.int .i64 x2_0), .v (.int .i64 x2_1), .v (.int .i64 x2_2), .v (.slice none 0 0)], .box [.v (.int .i64 x4_0), .v (.int .i64 x4_1), .v (.int .i64 x4_2), .own 2], .row 9 .str x4_3] => spec_ReadSuper.p45 k x0 x2_0 x2_1 x2_2 x4_0 x4_1 x4_2 x4_3 x5 x6 x7 x8 x9 x78
  | _, _ => none
def spec_ReadSuper.G (k p : Nat) (avs : List AV) (H : List HE) : Option (Int × Int × Int × List ByteArray × Bool) := (pick1 22 (spec_ReadSuper.G22 k avs H) (pick1 26 (spec_ReadSuper.G26 k avs H) (pick1 41 (spec_ReadSuper.G41 k avs H) (pick1 45 (spec_ReadSuper.G45 k avs H) none p) p) p) p)
set_option maxRecDepth 100000 in
theorem spec_ReadSuper.eq (k : Nat) (a0 : ByteArray) : fromTop Tryd.prog spec_ReadSuper.E k spec_ReadSuper.a (spec_ReadSuper.G k) 1000 (bodyOf Tryd.prog 10) [.v (.string a0)] [] = spec_ReadSuper.f k a0 := by kernel_rfl
set_option maxRecDepth 100000 in
theorem spec_ReadSuper.eq22 (k : Nat) (x0 : ByteArray) (x2_0 : Int) (x2_1 : Int) (x2_2 : Int) (x4_0 : Int) (x4_1 : Int) (x4_2 : Int) (x4_3 : List ByteArray) (x5 : Int) : fromPt Tryd.prog spec_ReadSuper.E k spec_ReadSuper.a (spec_ReadSuper.G k) 1000 (bodyOf Tryd.prog 10) 22 [.v (.string x0), .box 0 0, .box 1 0, .v (.int .i64 x5)] [.box [.v (.int .i64 x2_0), .v (.int .i64 x2_1), .v (.int .i64 x2_2), .v (.slice none 0 0)], .box [.v (.int .i64 x4_0), .v (.int .i64 x4_1), .v (.int .i64 x4_2), .own 2], .row 9 .str x4_3] = spec_ReadSuper.p22 (k + 1) x0 x2_0 x2_1 x2_2 x4_0 x4_1 x4_2 x4_3 x5 := by kernel_rfl
theorem spec_ReadSuper.G22_0 {avs : List AV} {H : List HE} : spec_ReadSuper.G22 0 avs H = none := by unfold spec_ReadSuper.G22; split <;> rfl
theorem spec_ReadSuper.G22_s (k : Nat) {avs : List AV} {H : List HE} {x : Int × Int × Int × List ByteArray × Bool} (h : spec_ReadSuper.G22 (k + 1) avs H = some x) : fromPt Tryd.prog spec_ReadSuper.E k spec_ReadSuper.a (spec_ReadSuper.G k) 1000 (bodyOf Tryd.prog 10) 22 avs H = some x := by
  unfold spec_ReadSuper.G22 at h
  split at h
  · rw [← h]; exact spec_ReadSuper.eq22 _ _ _ _ _ _ _ _ _ _
  · cases h
set_option maxRecDepth 100000 in
theorem spec_ReadSuper.eq26 (k : Nat) (x0 : ByteArray) (x2_0 : Int) (x2_1 : Int) (x2_2 : Int) (x4_0 : Int) (x4_1 : Int) (x4_2 : Int) (x4_3 : List ByteArray) (x5 : Int) (x44 : Bool) : fromPt Tryd.prog spec_ReadSuper.E k spec_ReadSuper.a (spec_ReadSuper.G k) 1000 (bodyOf Tryd.prog 10) 26 [.v (.string x0), .box 0 0, .box 1 0, .v (.int .i64 x5), .bs false x44] [.box [.v (.int .i64 x2_0), .v (.int .i64 x2_1), .v (.int .i64 x2_2), .v (.slice none 0 0)], .box [.v (.int .i64 x4_0), .v (.int .i64 x4_1), .v (.int .i64 x4_2), .own 2], .row 9 .str x4_3] = spec_ReadSuper.p26 (k + 1) x0 x2_0 x2_1 x2_2 x4_0 x4_1 x4_2 x4_3 x5 x44 := by kernel_rfl
theorem spec_ReadSuper.G26_0 {avs : List AV} {H : List HE} : spec_ReadSuper.G26 0 avs H = none := by unfold spec_ReadSuper.G26; split <;> rfl
theorem spec_ReadSuper.G26_s (k : Nat) {avs : List AV} {H : List HE} {x : Int × Int × Int × List ByteArray × Bool} (h : spec_ReadSuper.G26 (k + 1) avs H = some x) : fromPt Tryd.prog spec_ReadSuper.E k spec_ReadSuper.a (spec_ReadSuper.G k) 1000 (bodyOf Tryd.prog 10) 26 avs H = some x := by
  unfold spec_ReadSuper.G26 at h
  split at h
  · rw [← h]; exact spec_ReadSuper.eq26 _ _ _ _ _ _ _ _ _ _ _
  · cases h
set_option maxRecDepth 100000 in
theorem spec_ReadSuper.eq41 (k : Nat) (x0 : ByteArray) (x2_0 : Int) (x2_1 : Int) (x2_2 : Int) (x4_0 : Int) (x4_1 : Int) (x4_2 : Int) (x4_3 : List ByteArray) (x5 : Int) (x6 : Int) (x7 : Int) (x8 : ByteArray) (x9 : Int) : fromPt Tryd.prog spec_ReadSuper.E k spec_ReadSuper.a (spec_ReadSuper.G k) 1000 (bodyOf Tryd.prog 10) 41 [.v (.string x0), .box 0 0, .box 1 0, .v (.int .i64 x5), .v (.int .i64 x6), .v (.int .i64 x7), .v (.string x8), .v (.int .i64 x9)] [.box [.v (.int .i64 x2_0), .v (.int .i64 x2_1), .v (.int .i64 x2_2), .v (.slice none 0 0)], .box [.v (.int .i64 x4_0), .v (.int .i64 x4_1), .v (.int .i64 x4_2), .own 2], .row 9 .str x4_3] = spec_ReadSuper.p41 (k + 1) x0 x2_0 x2_1 x2_2 x4_0 x4_1 x4_2 x4_3 x5 x6 x7 x8 x9 := by kernel_rfl
theorem spec_ReadSuper.G41_0 {avs : List AV} {H : List HE} : spec_ReadSuper.G41 0 avs H = none := by unfold spec_ReadSuper.G41; split <;> rfl
theorem spec_ReadSuper.G41_s (k : Nat) {avs : List AV} {H : List HE} {x : Int × Int × Int × List ByteArray × Bool} (h : spec_ReadSuper.G41 (k + 1) avs H = some x) : fromPt Tryd.prog spec_ReadSuper.E k spec_ReadSuper.a (spec_ReadSuper.G k) 1000 (bodyOf Tryd.prog 10) 41 avs H = some x := by
  unfold spec_ReadSuper.G41 at h
  split at h
  · rw [← h]; exact spec_ReadSuper.eq41 _ _ _ _ _ _ _ _ _ _ _ _ _ _
  · cases h
set_option maxRecDepth 100000 in
theorem spec_ReadSuper.eq45 (k : Nat) (x0 : ByteArray) (x2_0 : Int) (x2_1 : Int) (x2_2 : Int) (x4_0 : Int) (x4_1 : Int) (x4_2 : Int) (x4_3 : List ByteArray) (x5 : Int) (x6 : Int) (x7 : Int) (x8 : ByteArray) (x9 : Int) (x78 : Bool) : fromPt Tryd.prog spec_ReadSuper.E k spec_ReadSuper.a (spec_ReadSuper.G k) 1000 (bodyOf Tryd.prog 10) 45 [.v (.string x0), .box 0 0, .box 1 0, .v (.int .i64 x5), .v (.int .i64 x6), .v (.int .i64 x7), .v (.string x8), .v (.int .i64 x9), .bs false x78] [.box [.v (.int .i64 x2_0), .v (.int .i64 x2_1), .v (.int .i64 x2_2), .v (.slice none 0 0)], .box [.v (.int .i64 x4_0), .v (.int .i64 x4_1), .v (.int .i64 x4_2), .own 2], .row 9 .str x4_3] = spec_ReadSuper.p45 (k + 1) x0 x2_0 x2_1 x2_2 x4_0 x4_1 x4_2 x4_3 x5 x6 x7 x8 x9 x78 := by kernel_rfl
theorem spec_ReadSuper.G45_0 {avs : List AV} {H : List HE} : spec_ReadSuper.G45 0 avs H = none := by unfold spec_ReadSuper.G45; split <;> rfl
theorem spec_ReadSuper.G45_s (k : Nat) {avs : List AV} {H : List HE} {x : Int × Int × Int × List ByteArray × Bool} (h : spec_ReadSuper.G45 (k + 1) avs H = some x) : fromPt Tryd.prog spec_ReadSuper.E k spec_ReadSuper.a (spec_ReadSuper.G k) 1000 (bodyOf Tryd.prog 10) 45 avs H = some x := by
  unfold spec_ReadSuper.G45 at h
  split at h
  · rw [← h]; exact spec_ReadSuper.eq45 _ _ _ _ _ _ _ _ _ _ _ _ _ _ _
  · cases h
theorem spec_ReadSuper.E_ok : EnvOk Tryd.prog spec_ReadSuper.E := ⟨⟨spec_ReadShort.sound, callable_of (by kernel_rfl)⟩, ⟨spec_SuperLine.sound, callable_of (by kernel_rfl)⟩, trivial⟩
theorem spec_ReadSuper.sound : Sound Tryd.prog 10 spec_ReadSuper.s := by
  refine func_sound (f := spec_ReadSuper.a) (G := spec_ReadSuper.G) (fn := Tryd.f10) (body := bodyOf Tryd.prog 10) 1000 (by kernel_rfl) spec_ReadSuper.E_ok Tryd.func10 (by kernel_rfl) (by kernel_rfl) (by kernel_rfl) (ptsOk_of (by kernel_rfl)) ?_ ?_ ?_ ?_
  · intro r H x h
    unfold spec_ReadSuper.a at h
    simp only at h
    split at h
    · cases h; rfl
    · cases h
  · exact fun q avs H => pick1_none spec_ReadSuper.G22_0 (pick1_none spec_ReadSuper.G26_0 (pick1_none spec_ReadSuper.G41_0 (pick1_none spec_ReadSuper.G45_0 (rfl))))
  · intro k q pt avs H x _ h
    rcases pick1_some h with ⟨rfl, h⟩ | h
    · exact spec_ReadSuper.G22_s _ h
    rcases pick1_some h with ⟨rfl, h⟩ | h
    · exact spec_ReadSuper.G26_s _ h
    rcases pick1_some h with ⟨rfl, h⟩ | h
    · exact spec_ReadSuper.G41_s _ h
    rcases pick1_some h with ⟨rfl, h⟩ | h
    · exact spec_ReadSuper.G45_s _ h
    cases h
  · intro k avs H o h
    try dsimp only at h
    split at h
    · cases h; exact spec_ReadSuper.eq _ _
    · cases h

def spec_ConfigOf.a : FnA (Int × Int × Int × List ByteArray × Bool) := ⟨28, [.cell 2 27, .tmp 3], .tup [.agg [.val, .val, .val, .row 9 .str], .bool], [], [], fun x H => match x, H with
  | .tup [.agg [.v (.int .i64 r_0_0), .v (.int .i64 r_0_1), .v (.int .i64 r_0_2), .own 0], .bs false r_1], [.row 9 .str r_0_3] => some (r_0_0, r_0_1, r_0_2, r_0_3, r_1)
  | _, _ => none⟩
def spec_ConfigOf.s : Spec := mkS [.val] (fun k avs H => match avs, H with
  | [.v (.string a0)], [] => some (spec_ConfigOf.f k a0)
  | _, _ => none) (fun r => (.tup [.agg [.v (.int .i64 r.1), .v (.int .i64 r.2.1), .v (.int .i64 r.2.2.1), .own 0], .bs false r.2.2.2.2], [.row 9 .str r.2.2.2.1]))
def spec_ConfigOf.E : Env := [((10, []), spec_ReadSuper.s)]
def spec_ConfigOf.G (k p : Nat) (avs : List AV) (H : List HE) : Option (Int × Int × Int × List ByteArray × Bool) := none
set_option maxRecDepth 100000 in
theorem spec_ConfigOf.eq (k : Nat) (a0 : ByteArray) : fromTop Tryd.prog spec_ConfigOf.E k spec_ConfigOf.a (spec_ConfigOf.G k) 1000 (bodyOf Tryd.prog 6) [.v (.string a0)] [] = spec_ConfigOf.f k a0 := by kernel_rfl
theorem spec_ConfigOf.E_ok : EnvOk Tryd.prog spec_ConfigOf.E := ⟨⟨spec_ReadSuper.sound, callable_of (by kernel_rfl)⟩, trivial⟩
theorem spec_ConfigOf.sound : Sound Tryd.prog 6 spec_ConfigOf.s := by
  refine func_sound (f := spec_ConfigOf.a) (G := spec_ConfigOf.G) (fn := Tryd.f6) (body := bodyOf Tryd.prog 6) 1000 (by kernel_rfl) spec_ConfigOf.E_ok Tryd.func6 (by kernel_rfl) (by kernel_rfl) (by kernel_rfl) (ptsOk_of (by kernel_rfl)) ?_ ?_ ?_ ?_
  · intro r H x h
    unfold spec_ConfigOf.a at h
    simp only at h
    split at h
    · cases h; rfl
    · cases h
  · intro q avs H; rfl
  · intro k q pt avs H x _ h; cases h
  · intro k avs H o h
    try dsimp only at h
    split at h
    · cases h; exact spec_ConfigOf.eq _ _
    · cases h

def spec_l5Image.a : FnA (Bool) := ⟨15, [.tmp 4], .bool, [], [], fun x H => match x, H with
  | .bs false r, [] => some r
  | _, _ => none⟩
def spec_l5Image.s : Spec := mkS [.agg [.val, .val, .val, .con .str], .val] (fun k avs H => match avs, H with
  | [.agg [.v (.int .i64 a0_0), .v (.int .i64 a0_1), .v (.int .i64 a0_2), .con .str a0_3], .v (.string a1)], [] => some (spec_l5Image.f k a0_0 a0_1 a0_2 a0_3 a1)
  | _, _ => none) (fun r => (.bs false r, []))
def spec_l5Image.E : Env := [((35, []), spec_ConfigOk.s)]
def spec_l5Image.G (k p : Nat) (avs : List AV) (H : List HE) : Option (Bool) := none
set_option maxRecDepth 100000 in
theorem spec_l5Image.eq (k : Nat) (a0_0 : Int) (a0_1 : Int) (a0_2 : Int) (a0_3 : List ByteArray) (a1 : ByteArray) : fromTop Tryd.prog spec_l5Image.E k spec_l5Image.a (spec_l5Image.G k) 1000 (bodyOf Tryd.prog 21) [.agg [.v (.int .i64 a0_0), .v (.int .i64 a0_1), .v (.int .i64 a0_2), .con .str a0_3], .v (.string a1)] [] = spec_l5Image.f k a0_0 a0_1 a0_2 a0_3 a1 := by kernel_rfl
theorem spec_l5Image.E_ok : EnvOk Tryd.prog spec_l5Image.E := ⟨⟨spec_ConfigOk.sound, callable_of (by kernel_rfl)⟩, trivial⟩
theorem spec_l5Image.sound : Sound Tryd.prog 21 spec_l5Image.s := by
  refine func_sound (f := spec_l5Image.a) (G := spec_l5Image.G) (fn := Tryd.f21) (body := bodyOf Tryd.prog 21) 1000 (by kernel_rfl) spec_l5Image.E_ok Tryd.func21 (by kernel_rfl) (by kernel_rfl) (by kernel_rfl) (ptsOk_of (by kernel_rfl)) ?_ ?_ ?_ ?_
  · intro r H x h
    unfold spec_l5Image.a at h
    simp only at h
    split at h
    · cases h; rfl
    · cases h
  · intro q avs H; rfl
  · intro k q pt avs H x _ h; cases h
  · intro k avs H o h
    try dsimp only at h
    split at h
    · cases h; exact spec_l5Image.eq _ _ _ _ _ _
    · cases h

def spec_l5Line.a : FnA (ByteArray) := ⟨12, [.tmp 4], .val, [], [], fun x H => match x, H with
  | .v (.string r), [] => some r
  | _, _ => none⟩
def spec_l5Line.s : Spec := mkS [.val, .val] (fun k avs H => match avs, H with
  | [.v (.string a0), .v (.int .i64 a1)], [] => some (spec_l5Line.f a0 a1)
  | _, _ => none) (fun r => (.v (.string r), []))
def spec_l5Line.E : Env := []
def spec_l5Line.G (k p : Nat) (avs : List AV) (H : List HE) : Option (ByteArray) := none
set_option maxRecDepth 100000 in
theorem spec_l5Line.eq (k : Nat) (a0 : ByteArray) (a1 : Int) : fromTop Tryd.prog spec_l5Line.E k spec_l5Line.a (spec_l5Line.G k) 1000 (bodyOf Tryd.prog 13) [.v (.string a0), .v (.int .i64 a1)] [] = spec_l5Line.f a0 a1 := by kernel_rfl
theorem spec_l5Line.E_ok : EnvOk Tryd.prog spec_l5Line.E := trivial
theorem spec_l5Line.sound : Sound Tryd.prog 13 spec_l5Line.s := by
  refine func_sound (f := spec_l5Line.a) (G := spec_l5Line.G) (fn := Tryd.f13) (body := bodyOf Tryd.prog 13) 1000 (by kernel_rfl) spec_l5Line.E_ok Tryd.func13 (by kernel_rfl) (by kernel_rfl) (by kernel_rfl) (ptsOk_of (by kernel_rfl)) ?_ ?_ ?_ ?_
  · intro r H x h
    unfold spec_l5Line.a at h
    simp only at h
    split at h
    · cases h; rfl
    · cases h
  · intro q avs H; rfl
  · intro k q pt avs H x _ h; cases h
  · intro k avs H o h
    try dsimp only at h
    split at h
    · cases h; exact spec_l5Line.eq _ _ _
    · cases h

def spec_ReadWord.a : FnA (Int × Bool) := ⟨22, [.tmp 2, .tmp 3], .tup [.val, .bool], [], [⟨16, [0, 4, 5], [.val, .val, .val], []⟩], fun x H => match x, H with
  | .tup [.v (.int .i64 r_0), .bs false r_1], [] => some (r_0, r_1)
  | _, _ => none⟩
def spec_ReadWord.s : Spec := mkS [.val] (fun k avs H => match avs, H with
  | [.v (.string a0)], [] => some (spec_ReadWord.f k a0)
  | _, _ => none) (fun r => (.tup [.v (.int .i64 r.1), .bs false r.2], []))
def spec_ReadWord.E : Env := []
def spec_ReadWord.G16 (k : Nat) (avs : List AV) (H : List HE) : Option (Int × Bool) := match avs, H with
  | [.v (.string x0), .v (.int .u64 x4), .v (.int .i64 x5)], [] => spec_ReadWord.p16 k x0 x4 x5
  | _, _ => none
def spec_ReadWord.G (k p : Nat) (avs : List AV) (H : List HE) : Option (Int × Bool) := (pick1 16 (spec_ReadWord.G16 k avs H) none p)
set_option maxRecDepth 100000 in
theorem spec_ReadWord.eq (k : Nat) (a0 : ByteArray) : fromTop Tryd.prog spec_ReadWord.E k spec_ReadWord.a (spec_ReadWord.G k) 1000 (bodyOf Tryd.prog 23) [.v (.string a0)] [] = spec_ReadWord.f k a0 := by kernel_rfl
set_option maxRecDepth 100000 in
theorem spec_ReadWord.eq16 (k : Nat) (x0 : ByteArray) (x4 : Int) (x5 : Int) : fromPt Tryd.prog spec_ReadWord.E k spec_ReadWord.a (spec_ReadWord.G k) 1000 (bodyOf Tryd.prog 23) 16 [.v (.string x0), .v (.int .u64 x4), .v (.int .i64 x5)] [] = spec_ReadWord.p16 (k + 1) x0 x4 x5 := by kernel_rfl
theorem spec_ReadWord.G16_0 {avs : List AV} {H : List HE} : spec_ReadWord.G16 0 avs H = none := by unfold spec_ReadWord.G16; split <;> rfl
theorem spec_ReadWord.G16_s (k : Nat) {avs : List AV} {H : List HE} {x : Int × Bool} (h : spec_ReadWord.G16 (k + 1) avs H = some x) : fromPt Tryd.prog spec_ReadWord.E k spec_ReadWord.a (spec_ReadWord.G k) 1000 (bodyOf Tryd.prog 23) 16 avs H = some x := by
  unfold spec_ReadWord.G16 at h
  split at h
  · rw [← h]; exact spec_ReadWord.eq16 _ _ _ _
  · cases h
theorem spec_ReadWord.E_ok : EnvOk Tryd.prog spec_ReadWord.E := trivial
theorem spec_ReadWord.sound : Sound Tryd.prog 23 spec_ReadWord.s := by
  refine func_sound (f := spec_ReadWord.a) (G := spec_ReadWord.G) (fn := Tryd.f23) (body := bodyOf Tryd.prog 23) 1000 (by kernel_rfl) spec_ReadWord.E_ok Tryd.func23 (by kernel_rfl) (by kernel_rfl) (by kernel_rfl) (ptsOk_of (by kernel_rfl)) ?_ ?_ ?_ ?_
  · intro r H x h
    unfold spec_ReadWord.a at h
    simp only at h
    split at h
    · cases h; rfl
    · cases h
  · exact fun q avs H => pick1_none spec_ReadWord.G16_0 (rfl)
  · intro k q pt avs H x _ h
    rcases pick1_some h with ⟨rfl, h⟩ | h
    · exact spec_ReadWord.G16_s _ h
    cases h
  · intro k avs H o h
    try dsimp only at h
    split at h
    · cases h; exact spec_ReadWord.eq _ _
    · cases h

def spec_EpochLine.a : FnA (ByteArray) := ⟨9, [.tmp 2], .val, [], [], fun x H => match x, H with
  | .v (.string r), [] => some r
  | _, _ => none⟩
def spec_EpochLine.s : Spec := mkS [.val] (fun k avs H => match avs, H with
  | [.v (.int .i64 a0)], [] => some (spec_EpochLine.f k a0)
  | _, _ => none) (fun r => (.v (.string r), []))
def spec_EpochLine.E : Env := [((25, []), spec_l1In.s), ((40, []), spec_WordBytes.s), ((38, []), spec_Sealed.s)]
def spec_EpochLine.G (k p : Nat) (avs : List AV) (H : List HE) : Option (ByteArray) := none
set_option maxRecDepth 100000 in
theorem spec_EpochLine.eq (k : Nat) (a0 : Int) : fromTop Tryd.prog spec_EpochLine.E k spec_EpochLine.a (spec_EpochLine.G k) 1000 (bodyOf Tryd.prog 37) [.v (.int .i64 a0)] [] = spec_EpochLine.f k a0 := by kernel_rfl
theorem spec_EpochLine.E_ok : EnvOk Tryd.prog spec_EpochLine.E := ⟨⟨spec_l1In.sound, callable_of (by kernel_rfl)⟩, ⟨spec_WordBytes.sound, callable_of (by kernel_rfl)⟩, ⟨spec_Sealed.sound, callable_of (by kernel_rfl)⟩, trivial⟩
theorem spec_EpochLine.sound : Sound Tryd.prog 37 spec_EpochLine.s := by
  refine func_sound (f := spec_EpochLine.a) (G := spec_EpochLine.G) (fn := Tryd.f37) (body := bodyOf Tryd.prog 37) 1000 (by kernel_rfl) spec_EpochLine.E_ok Tryd.func37 (by kernel_rfl) (by kernel_rfl) (by kernel_rfl) (ptsOk_of (by kernel_rfl)) ?_ ?_ ?_ ?_
  · intro r H x h
    unfold spec_EpochLine.a at h
    simp only at h
    split at h
    · cases h; rfl
    · cases h
  · intro q avs H; rfl
  · intro k q pt avs H x _ h; cases h
  · intro k avs H o h
    try dsimp only at h
    split at h
    · cases h; exact spec_EpochLine.eq _ _
    · cases h

def spec_ReadEpoch.a : FnA (Int × Bool) := ⟨20, [.tmp 2, .tmp 3], .tup [.val, .bool], [], [], fun x H => match x, H with
  | .tup [.v (.int .i64 r_0), .bs false r_1], [] => some (r_0, r_1)
  | _, _ => none⟩
def spec_ReadEpoch.s : Spec := mkS [.val] (fun k avs H => match avs, H with
  | [.v (.string a0)], [] => some (spec_ReadEpoch.f k a0)
  | _, _ => none) (fun r => (.tup [.v (.int .i64 r.1), .bs false r.2], []))
def spec_ReadEpoch.E : Env := [((23, []), spec_ReadWord.s), ((37, []), spec_EpochLine.s)]
def spec_ReadEpoch.G (k p : Nat) (avs : List AV) (H : List HE) : Option (Int × Bool) := none
set_option maxRecDepth 100000 in
theorem spec_ReadEpoch.eq (k : Nat) (a0 : ByteArray) : fromTop Tryd.prog spec_ReadEpoch.E k spec_ReadEpoch.a (spec_ReadEpoch.G k) 1000 (bodyOf Tryd.prog 22) [.v (.string a0)] [] = spec_ReadEpoch.f k a0 := by kernel_rfl
theorem spec_ReadEpoch.E_ok : EnvOk Tryd.prog spec_ReadEpoch.E := ⟨⟨spec_ReadWord.sound, callable_of (by kernel_rfl)⟩, ⟨spec_EpochLine.sound, callable_of (by kernel_rfl)⟩, trivial⟩
theorem spec_ReadEpoch.sound : Sound Tryd.prog 22 spec_ReadEpoch.s := by
  refine func_sound (f := spec_ReadEpoch.a) (G := spec_ReadEpoch.G) (fn := Tryd.f22) (body := bodyOf Tryd.prog 22) 1000 (by kernel_rfl) spec_ReadEpoch.E_ok Tryd.func22 (by kernel_rfl) (by kernel_rfl) (by kernel_rfl) (ptsOk_of (by kernel_rfl)) ?_ ?_ ?_ ?_
  · intro r H x h
    unfold spec_ReadEpoch.a at h
    simp only at h
    split at h
    · cases h; rfl
    · cases h
  · intro q avs H; rfl
  · intro k q pt avs H x _ h; cases h
  · intro k avs H o h
    try dsimp only at h
    split at h
    · cases h; exact spec_ReadEpoch.eq _ _
    · cases h

def spec_EpochOf.a : FnA (Int) := ⟨20, [.tmp 4], .val, [], [], fun x H => match x, H with
  | .v (.int .i64 r), [] => some r
  | _, _ => none⟩
def spec_EpochOf.s : Spec := mkS [.agg [.val, .val, .val, .con .str], .val] (fun k avs H => match avs, H with
  | [.agg [.v (.int .i64 a0_0), .v (.int .i64 a0_1), .v (.int .i64 a0_2), .con .str a0_3], .v (.string a1)], [] => some (spec_EpochOf.f k a0_0 a0_1 a0_2 a0_3 a1)
  | _, _ => none) (fun r => (.v (.int .i64 r), []))
def spec_EpochOf.E : Env := [((21, []), spec_l5Image.s), ((13, []), spec_l5Line.s), ((22, []), spec_ReadEpoch.s)]
def spec_EpochOf.G (k p : Nat) (avs : List AV) (H : List HE) : Option (Int) := none
set_option maxRecDepth 100000 in
theorem spec_EpochOf.eq (k : Nat) (a0_0 : Int) (a0_1 : Int) (a0_2 : Int) (a0_3 : List ByteArray) (a1 : ByteArray) : fromTop Tryd.prog spec_EpochOf.E k spec_EpochOf.a (spec_EpochOf.G k) 1000 (bodyOf Tryd.prog 11) [.agg [.v (.int .i64 a0_0), .v (.int .i64 a0_1), .v (.int .i64 a0_2), .con .str a0_3], .v (.string a1)] [] = spec_EpochOf.f k a0_0 a0_1 a0_2 a0_3 a1 := by kernel_rfl
theorem spec_EpochOf.E_ok : EnvOk Tryd.prog spec_EpochOf.E := ⟨⟨spec_l5Image.sound, callable_of (by kernel_rfl)⟩, ⟨spec_l5Line.sound, callable_of (by kernel_rfl)⟩, ⟨spec_ReadEpoch.sound, callable_of (by kernel_rfl)⟩, trivial⟩
theorem spec_EpochOf.sound : Sound Tryd.prog 11 spec_EpochOf.s := by
  refine func_sound (f := spec_EpochOf.a) (G := spec_EpochOf.G) (fn := Tryd.f11) (body := bodyOf Tryd.prog 11) 1000 (by kernel_rfl) spec_EpochOf.E_ok Tryd.func11 (by kernel_rfl) (by kernel_rfl) (by kernel_rfl) (ptsOk_of (by kernel_rfl)) ?_ ?_ ?_ ?_
  · intro r H x h
    unfold spec_EpochOf.a at h
    simp only at h
    split at h
    · cases h; rfl
    · cases h
  · intro q avs H; rfl
  · intro k q pt avs H x _ h; cases h
  · intro k avs H o h
    try dsimp only at h
    split at h
    · cases h; exact spec_EpochOf.eq _ _ _ _ _ _
    · cases h

def spec_RecordLine.a : FnA (ByteArray) := ⟨43, [.tmp 2], .val, [], [⟨5, [1, 24], [.box [.val, .val, .val, .val], .bool], []⟩], fun x H => match x, H with
  | .v (.string r), [] => some r
  | _, _ => none⟩
def spec_RecordLine.s : Spec := mkS [.agg [.val, .val, .val, .val]] (fun k avs H => match avs, H with
  | [.agg [.v (.int .i64 a0_0), .v (.int .i64 a0_1), .v (.int .i64 a0_2), .v (.string a0_3)]], [] => some (spec_RecordLine.f k a0_0 a0_1 a0_2 a0_3)
  | _, _ => none) (fun r => (.v (.string r), []))
def spec_RecordLine.E : Env := [((25, []), spec_l1In.s), ((39, []), spec_ShortBytes.s), ((40, []), spec_WordBytes.s), ((38, []), spec_Sealed.s)]
def spec_RecordLine.G5 (k : Nat) (avs : List AV) (H : List HE) : Option (ByteArray) := match avs, H with
  | [.box 0 0, .bs false x24], [.box [.v (.int .i64 x1_0), .v (.int .i64 x1_1), .v (.int .i64 x1_2), .v (.string x1_3)]] => spec_RecordLine.p5 k x1_0 x1_1 x1_2 x1_3 x24
  | _, _ => none
def spec_RecordLine.G (k p : Nat) (avs : List AV) (H : List HE) : Option (ByteArray) := (pick1 5 (spec_RecordLine.G5 k avs H) none p)
set_option maxRecDepth 100000 in
theorem spec_RecordLine.eq (k : Nat) (a0_0 : Int) (a0_1 : Int) (a0_2 : Int) (a0_3 : ByteArray) : fromTop Tryd.prog spec_RecordLine.E k spec_RecordLine.a (spec_RecordLine.G k) 1000 (bodyOf Tryd.prog 24) [.agg [.v (.int .i64 a0_0), .v (.int .i64 a0_1), .v (.int .i64 a0_2), .v (.string a0_3)]] [] = spec_RecordLine.f k a0_0 a0_1 a0_2 a0_3 := by kernel_rfl
set_option maxRecDepth 100000 in
theorem spec_RecordLine.eq5 (k : Nat) (x1_0 : Int) (x1_1 : Int) (x1_2 : Int) (x1_3 : ByteArray) (x24 : Bool) : fromPt Tryd.prog spec_RecordLine.E k spec_RecordLine.a (spec_RecordLine.G k) 1000 (bodyOf Tryd.prog 24) 5 [.box 0 0, .bs false x24] [.box [.v (.int .i64 x1_0), .v (.int .i64 x1_1), .v (.int .i64 x1_2), .v (.string x1_3)]] = spec_RecordLine.p5 (k + 1) x1_0 x1_1 x1_2 x1_3 x24 := by kernel_rfl
theorem spec_RecordLine.G5_0 {avs : List AV} {H : List HE} : spec_RecordLine.G5 0 avs H = none := by unfold spec_RecordLine.G5; split <;> rfl
theorem spec_RecordLine.G5_s (k : Nat) {avs : List AV} {H : List HE} {x : ByteArray} (h : spec_RecordLine.G5 (k + 1) avs H = some x) : fromPt Tryd.prog spec_RecordLine.E k spec_RecordLine.a (spec_RecordLine.G k) 1000 (bodyOf Tryd.prog 24) 5 avs H = some x := by
  unfold spec_RecordLine.G5 at h
  split at h
  · rw [← h]; exact spec_RecordLine.eq5 _ _ _ _ _ _
  · cases h
theorem spec_RecordLine.E_ok : EnvOk Tryd.prog spec_RecordLine.E := ⟨⟨spec_l1In.sound, callable_of (by kernel_rfl)⟩, ⟨spec_ShortBytes.sound, callable_of (by kernel_rfl)⟩, ⟨spec_WordBytes.sound, callable_of (by kernel_rfl)⟩, ⟨spec_Sealed.sound, callable_of (by kernel_rfl)⟩, trivial⟩
theorem spec_RecordLine.sound : Sound Tryd.prog 24 spec_RecordLine.s := by
  refine func_sound (f := spec_RecordLine.a) (G := spec_RecordLine.G) (fn := Tryd.f24) (body := bodyOf Tryd.prog 24) 1000 (by kernel_rfl) spec_RecordLine.E_ok Tryd.func24 (by kernel_rfl) (by kernel_rfl) (by kernel_rfl) (ptsOk_of (by kernel_rfl)) ?_ ?_ ?_ ?_
  · intro r H x h
    unfold spec_RecordLine.a at h
    simp only at h
    split at h
    · cases h; rfl
    · cases h
  · exact fun q avs H => pick1_none spec_RecordLine.G5_0 (rfl)
  · intro k q pt avs H x _ h
    rcases pick1_some h with ⟨rfl, h⟩ | h
    · exact spec_RecordLine.G5_s _ h
    cases h
  · intro k avs H o h
    try dsimp only at h
    split at h
    · cases h; exact spec_RecordLine.eq _ _ _ _ _
    · cases h

def spec_ReadRecord.a : FnA (Int × Int × Int × ByteArray × Bool) := ⟨35, [.cell 2 35, .tmp 3], .tup [.agg [.val, .val, .val, .val], .bool], [], [], fun x H => match x, H with
  | .tup [.agg [.v (.int .i64 r_0_0), .v (.int .i64 r_0_1), .v (.int .i64 r_0_2), .v (.string r_0_3)], .bs false r_1], [] => some (r_0_0, r_0_1, r_0_2, r_0_3, r_1)
  | _, _ => none⟩
def spec_ReadRecord.s : Spec := mkS [.val] (fun k avs H => match avs, H with
  | [.v (.string a0)], [] => some (spec_ReadRecord.f k a0)
  | _, _ => none) (fun r => (.tup [.agg [.v (.int .i64 r.1), .v (.int .i64 r.2.1), .v (.int .i64 r.2.2.1), .v (.string r.2.2.2.1)], .bs false r.2.2.2.2], []))
def spec_ReadRecord.E : Env := [((19, []), spec_ReadShort.s), ((23, []), spec_ReadWord.s), ((24, []), spec_RecordLine.s)]
def spec_ReadRecord.G (k p : Nat) (avs : List AV) (H : List HE) : Option (Int × Int × Int × ByteArray × Bool) := none
set_option maxRecDepth 100000 in
theorem spec_ReadRecord.eq (k : Nat) (a0 : ByteArray) : fromTop Tryd.prog spec_ReadRecord.E k spec_ReadRecord.a (spec_ReadRecord.G k) 1000 (bodyOf Tryd.prog 12) [.v (.string a0)] [] = spec_ReadRecord.f k a0 := by kernel_rfl
theorem spec_ReadRecord.E_ok : EnvOk Tryd.prog spec_ReadRecord.E := ⟨⟨spec_ReadShort.sound, callable_of (by kernel_rfl)⟩, ⟨spec_ReadWord.sound, callable_of (by kernel_rfl)⟩, ⟨spec_RecordLine.sound, callable_of (by kernel_rfl)⟩, trivial⟩
theorem spec_ReadRecord.sound : Sound Tryd.prog 12 spec_ReadRecord.s := by
  refine func_sound (f := spec_ReadRecord.a) (G := spec_ReadRecord.G) (fn := Tryd.f12) (body := bodyOf Tryd.prog 12) 1000 (by kernel_rfl) spec_ReadRecord.E_ok Tryd.func12 (by kernel_rfl) (by kernel_rfl) (by kernel_rfl) (ptsOk_of (by kernel_rfl)) ?_ ?_ ?_ ?_
  · intro r H x h
    unfold spec_ReadRecord.a at h
    simp only at h
    split at h
    · cases h; rfl
    · cases h
  · intro q avs H; rfl
  · intro k q pt avs H x _ h; cases h
  · intro k avs H o h
    try dsimp only at h
    split at h
    · cases h; exact spec_ReadRecord.eq _ _
    · cases h

def spec_l5Half.a : FnA (Bool) := ⟨23, [.tmp 4], .bool, [], [], fun x H => match x, H with
  | .bs false r, [] => some r
  | _, _ => none⟩
def spec_l5Half.s : Spec := mkS [.agg [.val, .val, .val, .con .str], .val] (fun k avs H => match avs, H with
  | [.agg [.v (.int .i64 a0_0), .v (.int .i64 a0_1), .v (.int .i64 a0_2), .con .str a0_3], .v (.int .i64 a1)], [] => some (spec_l5Half.f a0_0 a0_1 a0_2 a0_3 a1)
  | _, _ => none) (fun r => (.bs false r, []))
def spec_l5Half.E : Env := [((25, []), spec_l1In.s)]
def spec_l5Half.G (k p : Nat) (avs : List AV) (H : List HE) : Option (Bool) := none
set_option maxRecDepth 100000 in
theorem spec_l5Half.eq (k : Nat) (a0_0 : Int) (a0_1 : Int) (a0_2 : Int) (a0_3 : List ByteArray) (a1 : Int) : fromTop Tryd.prog spec_l5Half.E k spec_l5Half.a (spec_l5Half.G k) 1000 (bodyOf Tryd.prog 14) [.agg [.v (.int .i64 a0_0), .v (.int .i64 a0_1), .v (.int .i64 a0_2), .con .str a0_3], .v (.int .i64 a1)] [] = spec_l5Half.f a0_0 a0_1 a0_2 a0_3 a1 := by kernel_rfl
theorem spec_l5Half.E_ok : EnvOk Tryd.prog spec_l5Half.E := ⟨⟨spec_l1In.sound, callable_of (by kernel_rfl)⟩, trivial⟩
theorem spec_l5Half.sound : Sound Tryd.prog 14 spec_l5Half.s := by
  refine func_sound (f := spec_l5Half.a) (G := spec_l5Half.G) (fn := Tryd.f14) (body := bodyOf Tryd.prog 14) 1000 (by kernel_rfl) spec_l5Half.E_ok Tryd.func14 (by kernel_rfl) (by kernel_rfl) (by kernel_rfl) (ptsOk_of (by kernel_rfl)) ?_ ?_ ?_ ?_
  · intro r H x h
    unfold spec_l5Half.a at h
    simp only at h
    split at h
    · cases h; rfl
    · cases h
  · intro q avs H; rfl
  · intro k q pt avs H x _ h; cases h
  · intro k avs H o h
    try dsimp only at h
    split at h
    · cases h; exact spec_l5Half.eq _ _ _ _ _ _
    · cases h

def spec_l5Place.a : FnA (Int) := ⟨20, [.tmp 4], .val, [], [⟨6, [0, 1, 5], [.con (.pair (.int .i64) (.pair (.int .i64) (.pair (.int .i64) .str))), .val, .val], []⟩], fun x H => match x, H with
  | .v (.int .i64 r), [] => some r
  | _, _ => none⟩
def spec_l5Place.s : Spec := mkS [.con (.pair (.int .i64) (.pair (.int .i64) (.pair (.int .i64) .str))), .val] (fun k avs H => match avs, H with
  | [.con (.pair (.int .i64) (.pair (.int .i64) (.pair (.int .i64) .str))) a0, .v (.int .i64 a1)], [] => some (spec_l5Place.f k a0 a1)
  | _, _ => none) (fun r => (.v (.int .i64 r), []))
def spec_l5Place.E : Env := []
def spec_l5Place.G6 (k : Nat) (avs : List AV) (H : List HE) : Option (Int) := match avs, H with
  | [.con (.pair (.int .i64) (.pair (.int .i64) (.pair (.int .i64) .str))) x0, .v (.int .i64 x1), .v (.int .i64 x5)], [] => spec_l5Place.p6 k x0 x1 x5
  | _, _ => none
def spec_l5Place.G (k p : Nat) (avs : List AV) (H : List HE) : Option (Int) := (pick1 6 (spec_l5Place.G6 k avs H) none p)
set_option maxRecDepth 100000 in
theorem spec_l5Place.eq (k : Nat) (a0 : List (Int × Int × Int × ByteArray)) (a1 : Int) : fromTop Tryd.prog spec_l5Place.E k spec_l5Place.a (spec_l5Place.G k) 1000 (bodyOf Tryd.prog 15) [.con (.pair (.int .i64) (.pair (.int .i64) (.pair (.int .i64) .str))) a0, .v (.int .i64 a1)] [] = spec_l5Place.f k a0 a1 := by kernel_rfl
set_option maxRecDepth 100000 in
theorem spec_l5Place.eq6 (k : Nat) (x0 : List (Int × Int × Int × ByteArray)) (x1 : Int) (x5 : Int) : fromPt Tryd.prog spec_l5Place.E k spec_l5Place.a (spec_l5Place.G k) 1000 (bodyOf Tryd.prog 15) 6 [.con (.pair (.int .i64) (.pair (.int .i64) (.pair (.int .i64) .str))) x0, .v (.int .i64 x1), .v (.int .i64 x5)] [] = spec_l5Place.p6 (k + 1) x0 x1 x5 := by kernel_rfl
theorem spec_l5Place.G6_0 {avs : List AV} {H : List HE} : spec_l5Place.G6 0 avs H = none := by unfold spec_l5Place.G6; split <;> rfl
theorem spec_l5Place.G6_s (k : Nat) {avs : List AV} {H : List HE} {x : Int} (h : spec_l5Place.G6 (k + 1) avs H = some x) : fromPt Tryd.prog spec_l5Place.E k spec_l5Place.a (spec_l5Place.G k) 1000 (bodyOf Tryd.prog 15) 6 avs H = some x := by
  unfold spec_l5Place.G6 at h
  split at h
  · rw [← h]; exact spec_l5Place.eq6 _ _ _ _
  · cases h
theorem spec_l5Place.E_ok : EnvOk Tryd.prog spec_l5Place.E := trivial
theorem spec_l5Place.sound : Sound Tryd.prog 15 spec_l5Place.s := by
  refine func_sound (f := spec_l5Place.a) (G := spec_l5Place.G) (fn := Tryd.f15) (body := bodyOf Tryd.prog 15) 1000 (by kernel_rfl) spec_l5Place.E_ok Tryd.func15 (by kernel_rfl) (by kernel_rfl) (by kernel_rfl) (ptsOk_of (by kernel_rfl)) ?_ ?_ ?_ ?_
  · intro r H x h
    unfold spec_l5Place.a at h
    simp only at h
    split at h
    · cases h; rfl
    · cases h
  · exact fun q avs H => pick1_none spec_l5Place.G6_0 (rfl)
  · intro k q pt avs H x _ h
    rcases pick1_some h with ⟨rfl, h⟩ | h
    · exact spec_l5Place.G6_s _ h
    cases h
  · intro k avs H o h
    try dsimp only at h
    split at h
    · cases h; exact spec_l5Place.eq _ _ _
    · cases h

def spec_LogOf.a : FnA (List (Int × Int × Int × ByteArray) × Bool) := ⟨75, [.tmp 4, .tmp 5], .tup [.row 35 (.pair (.int .i64) (.pair (.int .i64) (.pair (.int .i64) .str))), .bool], [], [⟨18, [1, 2, 6, 7, 8], [.val, .box [.val, .val, .val, .con .str], .val, .row 35 (.pair (.int .i64) (.pair (.int .i64) (.pair (.int .i64) .str))), .val], []⟩, ⟨32, [1, 2, 6, 7, 8, 9, 10, 37], [.val, .box [.val, .val, .val, .con .str], .val, .row 35 (.pair (.int .i64) (.pair (.int .i64) (.pair (.int .i64) .str))), .val, .box [.val, .val, .val, .val], .bool, .bool], []⟩, ⟨40, [1, 2, 6, 7, 8, 9, 45], [.val, .box [.val, .val, .val, .con .str], .val, .row 35 (.pair (.int .i64) (.pair (.int .i64) (.pair (.int .i64) .str))), .val, .box [.val, .val, .val, .val], .bool], []⟩, ⟨46, [1, 2, 6, 7, 8, 9, 69], [.val, .box [.val, .val, .val, .con .str], .val, .row 35 (.pair (.int .i64) (.pair (.int .i64) (.pair (.int .i64) .str))), .val, .box [.val, .val, .val, .val], .bool], []⟩], fun x H => match x, H with
  | .tup [.own 0, .bs false r_1], [.row 35 (.pair (.int .i64) (.pair (.int .i64) (.pair (.int .i64) .str))) r_0] => some (r_0, r_1)
  | _, _ => none⟩
def spec_LogOf.s : Spec := mkS [.agg [.val, .val, .val, .con .str], .val] (fun k avs H => match avs, H with
  | [.agg [.v (.int .i64 a0_0), .v (.int .i64 a0_1), .v (.int .i64 a0_2), .con .str a0_3], .v (.string a1)], [] => some (spec_LogOf.f k a0_0 a0_1 a0_2 a0_3 a1)
  | _, _ => none) (fun r => (.tup [.own 0, .bs false r.2], [.row 35 (.pair (.int .i64) (.pair (.int .i64) (.pair (.int .i64) .str))) r.1]))
def spec_LogOf.E : Env := [((11, []), spec_EpochOf.s), ((13, []), spec_l5Line.s), ((12, []), spec_ReadRecord.s), ((14, []), spec_l5Half.s), ((15, []), spec_l5Place.s)]
def spec_LogOf.G18 (k : Nat) (avs : List AV) (H : List HE) : Option (List (Int × Int × Int × ByteArray) × Bool) := match avs, H with
  | [.v (.string x1), .box 0 0, .v (.int .i64 x6), .own 1, .v (.int .i64 x8)], [.box [.v (.int .i64 x2_0), .v (.int .i64 x2_1), .v (.int .i64 x2_2), .con .str x2_3], .row 35 (.pair (.int .i64) (.pair (.int .i64) (.pair (.int .i64) .str))) x7] => spec_LogOf.p18 k x1 x2_0 x2_1 x2_2 x2_3 x6 x7 x8
  | _, _ => none
def spec_LogOf.G32 (k : Nat) (avs : List AV) (H : List HE) : Option (List (Int × Int × Int × ByteArray) × Bool) := match avs, H with
  | [.v (.string x1), .box 0 0, .v (.int .i64 x6), .own 1, .v (.int .i64 x8), .box 2 0, .bs false x10, .bs false x37], [.box [.v (.int .i64 x2_0), .v (.int .i64 x2_1), .v (.int .i64 x2_2), .con .str x2_3], .row 35 (.pair (.int .i64) (.pair (.int .i64) (.pair (.int .i64) .str))) x7, .box [.v (.int .i64 x9_0), .v (.int .i64 x9_1), .v (.int .i64 x9_2), .v (.string x9_3)]] => spec_LogOf.p32 k x1 x2_0 x2_1 x2_2 x2_3 x6 x7 x8 x9_0 x9_1 x9_2 x9_3 x10 x37
  | _, _ => none
def spec_LogOf.G40 (k : Nat) (avs : List AV) (H : List HE) : Option (List (Int × Int × Int × ByteArray) × Bool) := match avs, H with
  | [.v (.string x1), .box 0 0, .v (.int .i64 x6), .own 1, .v (.int .i64 x8), .box 2 0, .bs false x45], [.box [.v (.int .i64 x2_0), .v (.int .i64 x2_1), .v (.int .i64 x2_2), .con .str x2_3], .row 35 (.pair (.int .i64) (.pair (.int .i64) (.pair (.int .i64) .str))) x7, .box [.v (.int .i64 x9_0), .v (.int .i64 x9_1), .v (.int .i64 x9_2), .v (.string x9_3)]] => spec_LogOf.p40 k x1 x2_0 x2_1 x2_2 x2_3 x6 x7 x8 x9_0 x9_1 x9_2 x9_3 x45
  | _, _ => none
def spec_LogOf.G46 (k : Nat) (avs : List AV) (H : List HE) : Option (List (Int × Int × Int × ByteArray) × Bool) := match avs, H with
  | [.v (.string x1), .box 0 0, .v (.int .i64 x6), .own 1, .v (.int .i64 x8), .box 2 0, .bs false x69], [.box [.v (.int .i64 x2_0), .v (.int .i64 x2_1), .v (.int .i64 x2_2), .con .str x2_3], .row 35 (.pair (.int .i64) (.pair (.int .i64) (.pair (.int .i64) .str))) x7, .box [.v (.int .i64 x9_0), .v (.int .i64 x9_1), .v (.int .i64 x9_2), .v (.string x9_3)]] => spec_LogOf.p46 k x1 x2_0 x2_1 x2_2 x2_3 x6 x7 x8 x9_0 x9_1 x9_2 x9_3 x69
  | _, _ => none
def spec_LogOf.G (k p : Nat) (avs : List AV) (H : List HE) : Option (List (Int × Int × Int × ByteArray) × Bool) := (pick1 18 (spec_LogOf.G18 k avs H) (pick1 32 (spec_LogOf.G32 k avs H) (pick1 40 (spec_LogOf.G40 k avs H) (pick1 46 (spec_LogOf.G46 k avs H) none p) p) p) p)
set_option maxRecDepth 100000 in
theorem spec_LogOf.eq (k : Nat) (a0_0 : Int) (a0_1 : Int) (a0_2 : Int) (a0_3 : List ByteArray) (a1 : ByteArray) : fromTop Tryd.prog spec_LogOf.E k spec_LogOf.a (spec_LogOf.G k) 1000 (bodyOf Tryd.prog 7) [.agg [.v (.int .i64 a0_0), .v (.int .i64 a0_1), .v (.int .i64 a0_2), .con .str a0_3], .v (.string a1)] [] = spec_LogOf.f k a0_0 a0_1 a0_2 a0_3 a1 := by kernel_rfl
set_option maxRecDepth 100000 in
theorem spec_LogOf.eq18 (k : Nat) (x1 : ByteArray) (x2_0 : Int) (x2_1 : Int) (x2_2 : Int) (x2_3 : List ByteArray) (x6 : Int) (x7 : List (Int × Int × Int × ByteArray)) (x8 : Int) : fromPt Tryd.prog spec_LogOf.E k spec_LogOf.a (spec_LogOf.G k) 1000 (bodyOf Tryd.prog 7) 18 [.v (.string x1), .box 0 0, .v (.int .i64 x6), .own 1, .v (.int .i64 x8)] [.box [.v (.int .i64 x2_0), .v (.int .i64 x2_1), .v (.int .i64 x2_2), .con .str x2_3], .row 35 (.pair (.int .i64) (.pair (.int .i64) (.pair (.int .i64) .str))) x7] = spec_LogOf.p18 (k + 1) x1 x2_0 x2_1 x2_2 x2_3 x6 x7 x8 := by kernel_rfl
theorem spec_LogOf.G18_0 {avs : List AV} {H : List HE} : spec_LogOf.G18 0 avs H = none := by unfold spec_LogOf.G18; split <;> rfl
theorem spec_LogOf.G18_s (k : Nat) {avs : List AV} {H : List HE} {x : List (Int × Int × Int × ByteArray) × Bool} (h : spec_LogOf.G18 (k + 1) avs H = some x) : fromPt Tryd.prog spec_LogOf.E k spec_LogOf.a (spec_LogOf.G k) 1000 (bodyOf Tryd.prog 7) 18 avs H = some x := by
  unfold spec_LogOf.G18 at h
  split at h
  · rw [← h]; exact spec_LogOf.eq18 _ _ _ _ _ _ _ _ _
  · cases h
set_option maxRecDepth 100000 in
theorem spec_LogOf.eq32 (k : Nat) (x1 : ByteArray) (x2_0 : Int) (x2_1 : Int) (x2_2 : Int) (x2_3 : List ByteArray) (x6 : Int) (x7 : List (Int × Int × Int × ByteArray)) (x8 : Int) (x9_0 : Int) (x9_1 : Int) (x9_2 : Int) (x9_3 : ByteArray) (x10 : Bool) (x37 : Bool) : fromPt Tryd.prog spec_LogOf.E k spec_LogOf.a (spec_LogOf.G k) 1000 (bodyOf Tryd.prog 7) 32 [.v (.string x1), .box 0 0, .v (.int .i64 x6), .own 1, .v (.int .i64 x8), .box 2 0, .bs false x10, .bs false x37] [.box [.v (.int .i64 x2_0), .v (.int .i64 x2_1), .v (.int .i64 x2_2), .con .str x2_3], .row 35 (.pair (.int .i64) (.pair (.int .i64) (.pair (.int .i64) .str))) x7, .box [.v (.int .i64 x9_0), .v (.int .i64 x9_1), .v (.int .i64 x9_2), .v (.string x9_3)]] = spec_LogOf.p32 (k + 1) x1 x2_0 x2_1 x2_2 x2_3 x6 x7 x8 x9_0 x9_1 x9_2 x9_3 x10 x37 := by kernel_rfl
theorem spec_LogOf.G32_0 {avs : List AV} {H : List HE} : spec_LogOf.G32 0 avs H = none := by unfold spec_LogOf.G32; split <;> rfl
theorem spec_LogOf.G32_s (k : Nat) {avs : List AV} {H : List HE} {x : List (Int × Int × Int × ByteArray) × Bool} (h : spec_LogOf.G32 (k + 1) avs H = some x) : fromPt Tryd.prog spec_LogOf.E k spec_LogOf.a (spec_LogOf.G k) 1000 (bodyOf Tryd.prog 7) 32 avs H = some x := by
  unfold spec_LogOf.G32 at h
  split at h
  · rw [← h]; exact spec_LogOf.eq32 _ _ _ _ _ _ _ _ _ _ _ _ _ _ _
  · cases h
set_option maxRecDepth 100000 in
theorem spec_LogOf.eq40 (k : Nat) (x1 : ByteArray) (x2_0 : Int) (x2_1 : Int) (x2_2 : Int) (x2_3 : List ByteArray) (x6 : Int) (x7 : List (Int × Int × Int × ByteArray)) (x8 : Int) (x9_0 : Int) (x9_1 : Int) (x9_2 : Int) (x9_3 : ByteArray) (x45 : Bool) : fromPt Tryd.prog spec_LogOf.E k spec_LogOf.a (spec_LogOf.G k) 1000 (bodyOf Tryd.prog 7) 40 [.v (.string x1), .box 0 0, .v (.int .i64 x6), .own 1, .v (.int .i64 x8), .box 2 0, .bs false x45] [.box [.v (.int .i64 x2_0), .v (.int .i64 x2_1), .v (.int .i64 x2_2), .con .str x2_3], .row 35 (.pair (.int .i64) (.pair (.int .i64) (.pair (.int .i64) .str))) x7, .box [.v (.int .i64 x9_0), .v (.int .i64 x9_1), .v (.int .i64 x9_2), .v (.string x9_3)]] = spec_LogOf.p40 (k + 1) x1 x2_0 x2_1 x2_2 x2_3 x6 x7 x8 x9_0 x9_1 x9_2 x9_3 x45 := by kernel_rfl
theorem spec_LogOf.G40_0 {avs : List AV} {H : List HE} : spec_LogOf.G40 0 avs H = none := by unfold spec_LogOf.G40; split <;> rfl
theorem spec_LogOf.G40_s (k : Nat) {avs : List AV} {H : List HE} {x : List (Int × Int × Int × ByteArray) × Bool} (h : spec_LogOf.G40 (k + 1) avs H = some x) : fromPt Tryd.prog spec_LogOf.E k spec_LogOf.a (spec_LogOf.G k) 1000 (bodyOf Tryd.prog 7) 40 avs H = some x := by
  unfold spec_LogOf.G40 at h
  split at h
  · rw [← h]; exact spec_LogOf.eq40 _ _ _ _ _ _ _ _ _ _ _ _ _ _
  · cases h
set_option maxRecDepth 100000 in
theorem spec_LogOf.eq46 (k : Nat) (x1 : ByteArray) (x2_0 : Int) (x2_1 : Int) (x2_2 : Int) (x2_3 : List ByteArray) (x6 : Int) (x7 : List (Int × Int × Int × ByteArray)) (x8 : Int) (x9_0 : Int) (x9_1 : Int) (x9_2 : Int) (x9_3 : ByteArray) (x69 : Bool) : fromPt Tryd.prog spec_LogOf.E k spec_LogOf.a (spec_LogOf.G k) 1000 (bodyOf Tryd.prog 7) 46 [.v (.string x1), .box 0 0, .v (.int .i64 x6), .own 1, .v (.int .i64 x8), .box 2 0, .bs false x69] [.box [.v (.int .i64 x2_0), .v (.int .i64 x2_1), .v (.int .i64 x2_2), .con .str x2_3], .row 35 (.pair (.int .i64) (.pair (.int .i64) (.pair (.int .i64) .str))) x7, .box [.v (.int .i64 x9_0), .v (.int .i64 x9_1), .v (.int .i64 x9_2), .v (.string x9_3)]] = spec_LogOf.p46 (k + 1) x1 x2_0 x2_1 x2_2 x2_3 x6 x7 x8 x9_0 x9_1 x9_2 x9_3 x69 := by kernel_rfl
theorem spec_LogOf.G46_0 {avs : List AV} {H : List HE} : spec_LogOf.G46 0 avs H = none := by unfold spec_LogOf.G46; split <;> rfl
theorem spec_LogOf.G46_s (k : Nat) {avs : List AV} {H : List HE} {x : List (Int × Int × Int × ByteArray) × Bool} (h : spec_LogOf.G46 (k + 1) avs H = some x) : fromPt Tryd.prog spec_LogOf.E k spec_LogOf.a (spec_LogOf.G k) 1000 (bodyOf Tryd.prog 7) 46 avs H = some x := by
  unfold spec_LogOf.G46 at h
  split at h
  · rw [← h]; exact spec_LogOf.eq46 _ _ _ _ _ _ _ _ _ _ _ _ _ _
  · cases h
theorem spec_LogOf.E_ok : EnvOk Tryd.prog spec_LogOf.E := ⟨⟨spec_EpochOf.sound, callable_of (by kernel_rfl)⟩, ⟨spec_l5Line.sound, callable_of (by kernel_rfl)⟩, ⟨spec_ReadRecord.sound, callable_of (by kernel_rfl)⟩, ⟨spec_l5Half.sound, callable_of (by kernel_rfl)⟩, ⟨spec_l5Place.sound, callable_of (by kernel_rfl)⟩, trivial⟩
theorem spec_LogOf.sound : Sound Tryd.prog 7 spec_LogOf.s := by
  refine func_sound (f := spec_LogOf.a) (G := spec_LogOf.G) (fn := Tryd.f7) (body := bodyOf Tryd.prog 7) 1000 (by kernel_rfl) spec_LogOf.E_ok Tryd.func7 (by kernel_rfl) (by kernel_rfl) (by kernel_rfl) (ptsOk_of (by kernel_rfl)) ?_ ?_ ?_ ?_
  · intro r H x h
    unfold spec_LogOf.a at h
    simp only at h
    split at h
    · cases h; rfl
    · cases h
  · exact fun q avs H => pick1_none spec_LogOf.G18_0 (pick1_none spec_LogOf.G32_0 (pick1_none spec_LogOf.G40_0 (pick1_none spec_LogOf.G46_0 (rfl))))
  · intro k q pt avs H x _ h
    rcases pick1_some h with ⟨rfl, h⟩ | h
    · exact spec_LogOf.G18_s _ h
    rcases pick1_some h with ⟨rfl, h⟩ | h
    · exact spec_LogOf.G32_s _ h
    rcases pick1_some h with ⟨rfl, h⟩ | h
    · exact spec_LogOf.G40_s _ h
    rcases pick1_some h with ⟨rfl, h⟩ | h
    · exact spec_LogOf.G46_s _ h
    cases h
  · intro k avs H o h
    try dsimp only at h
    split at h
    · cases h; exact spec_LogOf.eq _ _ _ _ _ _
    · cases h

def spec_l2With.a : FnA (ByteArray) := ⟨19, [.tmp 6], .val, [], [], fun x H => match x, H with
  | .v (.string r), [] => some r
  | _, _ => none⟩
def spec_l2With.s : Spec := mkS [.val, .val, .val] (fun k avs H => match avs, H with
  | [.v (.string a0), .v (.int .i64 a1), .v (.string a2)], [] => some (spec_l2With.f a0 a1 a2)
  | _, _ => none) (fun r => (.v (.string r), []))
def spec_l2With.E : Env := []
def spec_l2With.G (k p : Nat) (avs : List AV) (H : List HE) : Option (ByteArray) := none
set_option maxRecDepth 100000 in
theorem spec_l2With.eq (k : Nat) (a0 : ByteArray) (a1 : Int) (a2 : ByteArray) : fromTop Tryd.prog spec_l2With.E k spec_l2With.a (spec_l2With.G k) 1000 (bodyOf Tryd.prog 8) [.v (.string a0), .v (.int .i64 a1), .v (.string a2)] [] = spec_l2With.f a0 a1 a2 := by kernel_rfl
theorem spec_l2With.E_ok : EnvOk Tryd.prog spec_l2With.E := trivial
theorem spec_l2With.sound : Sound Tryd.prog 8 spec_l2With.s := by
  refine func_sound (f := spec_l2With.a) (G := spec_l2With.G) (fn := Tryd.f8) (body := bodyOf Tryd.prog 8) 1000 (by kernel_rfl) spec_l2With.E_ok Tryd.func8 (by kernel_rfl) (by kernel_rfl) (by kernel_rfl) (ptsOk_of (by kernel_rfl)) ?_ ?_ ?_ ?_
  · intro r H x h
    unfold spec_l2With.a at h
    simp only at h
    split at h
    · cases h; rfl
    · cases h
  · intro q avs H; rfl
  · intro k q pt avs H x _ h; cases h
  · intro k avs H o h
    try dsimp only at h
    split at h
    · cases h; exact spec_l2With.eq _ _ _ _
    · cases h

def spec_Undone.a : FnA (ByteArray × Bool) := ⟨45, [.tmp 2, .tmp 3], .tup [.val, .bool], [], [⟨26, [0, 6, 8], [.val, .row 35 (.pair (.int .i64) (.pair (.int .i64) (.pair (.int .i64) .str))), .val], []⟩], fun x H => match x, H with
  | .tup [.v (.string r_0), .bs false r_1], [] => some (r_0, r_1)
  | _, _ => none⟩
def spec_Undone.s : Spec := mkS [.val] (fun k avs H => match avs, H with
  | [.v (.string a0)], [] => some (spec_Undone.f k a0)
  | _, _ => none) (fun r => (.tup [.v (.string r.1), .bs false r.2], []))
def spec_Undone.E : Env := [((6, []), spec_ConfigOf.s), ((7, []), spec_LogOf.s), ((8, []), spec_l2With.s)]
def spec_Undone.G26 (k : Nat) (avs : List AV) (H : List HE) : Option (ByteArray × Bool) := match avs, H with
  | [.v (.string x0), .own 0, .v (.int .i64 x8)], [.row 35 (.pair (.int .i64) (.pair (.int .i64) (.pair (.int .i64) .str))) x6] => spec_Undone.p26 k x0 x6 x8
  | _, _ => none
def spec_Undone.G (k p : Nat) (avs : List AV) (H : List HE) : Option (ByteArray × Bool) := (pick1 26 (spec_Undone.G26 k avs H) none p)
set_option maxRecDepth 100000 in
theorem spec_Undone.eq (k : Nat) (a0 : ByteArray) : fromTop Tryd.prog spec_Undone.E k spec_Undone.a (spec_Undone.G k) 1000 (bodyOf Tryd.prog 4) [.v (.string a0)] [] = spec_Undone.f k a0 := by kernel_rfl
set_option maxRecDepth 100000 in
theorem spec_Undone.eq26 (k : Nat) (x0 : ByteArray) (x6 : List (Int × Int × Int × ByteArray)) (x8 : Int) : fromPt Tryd.prog spec_Undone.E k spec_Undone.a (spec_Undone.G k) 1000 (bodyOf Tryd.prog 4) 26 [.v (.string x0), .own 0, .v (.int .i64 x8)] [.row 35 (.pair (.int .i64) (.pair (.int .i64) (.pair (.int .i64) .str))) x6] = spec_Undone.p26 (k + 1) x0 x6 x8 := by kernel_rfl
theorem spec_Undone.G26_0 {avs : List AV} {H : List HE} : spec_Undone.G26 0 avs H = none := by unfold spec_Undone.G26; split <;> rfl
theorem spec_Undone.G26_s (k : Nat) {avs : List AV} {H : List HE} {x : ByteArray × Bool} (h : spec_Undone.G26 (k + 1) avs H = some x) : fromPt Tryd.prog spec_Undone.E k spec_Undone.a (spec_Undone.G k) 1000 (bodyOf Tryd.prog 4) 26 avs H = some x := by
  unfold spec_Undone.G26 at h
  split at h
  · rw [← h]; exact spec_Undone.eq26 _ _ _ _
  · cases h
theorem spec_Undone.E_ok : EnvOk Tryd.prog spec_Undone.E := ⟨⟨spec_ConfigOf.sound, callable_of (by kernel_rfl)⟩, ⟨spec_LogOf.sound, callable_of (by kernel_rfl)⟩, ⟨spec_l2With.sound, callable_of (by kernel_rfl)⟩, trivial⟩
theorem spec_Undone.sound : Sound Tryd.prog 4 spec_Undone.s := by
  refine func_sound (f := spec_Undone.a) (G := spec_Undone.G) (fn := Tryd.f4) (body := bodyOf Tryd.prog 4) 1000 (by kernel_rfl) spec_Undone.E_ok Tryd.func4 (by kernel_rfl) (by kernel_rfl) (by kernel_rfl) (ptsOk_of (by kernel_rfl)) ?_ ?_ ?_ ?_
  · intro r H x h
    unfold spec_Undone.a at h
    simp only at h
    split at h
    · cases h; rfl
    · cases h
  · exact fun q avs H => pick1_none spec_Undone.G26_0 (rfl)
  · intro k q pt avs H x _ h
    rcases pick1_some h with ⟨rfl, h⟩ | h
    · exact spec_Undone.G26_s _ h
    cases h
  · intro k avs H o h
    try dsimp only at h
    split at h
    · cases h; exact spec_Undone.eq _ _
    · cases h

def impl_bigBytes.a : FnA (ByteArray) := ⟨27, [.tmp 4], .val, [], [⟨8, [0, 1, 5, 10, 11], [.val, .val, .row 5 (.int .u8), .val, .val], []⟩], fun x H => match x, H with
  | .v (.string r), [] => some r
  | _, _ => none⟩
def impl_bigBytes.s : Spec := mkS [.val, .val] (fun k avs H => match avs, H with
  | [.v (.int .u64 a0), .v (.int .i64 a1)], [] => some (impl_bigBytes.f k a0 a1)
  | _, _ => none) (fun r => (.v (.string r), []))
def impl_bigBytes.E : Env := []
def impl_bigBytes.G8 (k : Nat) (avs : List AV) (H : List HE) : Option (ByteArray) := match avs, H with
  | [.v (.int .u64 x0), .v (.int .i64 x1), .own 0, .v (.int .i64 x10), .v (.int .i64 x11)], [.row 5 (.int .u8) x5] => impl_bigBytes.p8 k x0 x1 x5 x10 x11
  | _, _ => none
def impl_bigBytes.G (k p : Nat) (avs : List AV) (H : List HE) : Option (ByteArray) := (pick1 8 (impl_bigBytes.G8 k avs H) none p)
set_option maxRecDepth 100000 in
theorem impl_bigBytes.eq (k : Nat) (a0 : Int) (a1 : Int) : fromTop Tryd.prog impl_bigBytes.E k impl_bigBytes.a (impl_bigBytes.G k) 1000 (bodyOf Tryd.prog 60) [.v (.int .u64 a0), .v (.int .i64 a1)] [] = impl_bigBytes.f k a0 a1 := by kernel_rfl
set_option maxRecDepth 100000 in
theorem impl_bigBytes.eq8 (k : Nat) (x0 : Int) (x1 : Int) (x5 : List Int) (x10 : Int) (x11 : Int) : fromPt Tryd.prog impl_bigBytes.E k impl_bigBytes.a (impl_bigBytes.G k) 1000 (bodyOf Tryd.prog 60) 8 [.v (.int .u64 x0), .v (.int .i64 x1), .own 0, .v (.int .i64 x10), .v (.int .i64 x11)] [.row 5 (.int .u8) x5] = impl_bigBytes.p8 (k + 1) x0 x1 x5 x10 x11 := by kernel_rfl
theorem impl_bigBytes.G8_0 {avs : List AV} {H : List HE} : impl_bigBytes.G8 0 avs H = none := by unfold impl_bigBytes.G8; split <;> rfl
theorem impl_bigBytes.G8_s (k : Nat) {avs : List AV} {H : List HE} {x : ByteArray} (h : impl_bigBytes.G8 (k + 1) avs H = some x) : fromPt Tryd.prog impl_bigBytes.E k impl_bigBytes.a (impl_bigBytes.G k) 1000 (bodyOf Tryd.prog 60) 8 avs H = some x := by
  unfold impl_bigBytes.G8 at h
  split at h
  · rw [← h]; exact impl_bigBytes.eq8 _ _ _ _ _ _
  · cases h
theorem impl_bigBytes.E_ok : EnvOk Tryd.prog impl_bigBytes.E := trivial
theorem impl_bigBytes.sound : Sound Tryd.prog 60 impl_bigBytes.s := by
  refine func_sound (f := impl_bigBytes.a) (G := impl_bigBytes.G) (fn := Tryd.f60) (body := bodyOf Tryd.prog 60) 1000 (by kernel_rfl) impl_bigBytes.E_ok Tryd.func60 (by kernel_rfl) (by kernel_rfl) (by kernel_rfl) (ptsOk_of (by kernel_rfl)) ?_ ?_ ?_ ?_
  · intro r H x h
    unfold impl_bigBytes.a at h
    simp only at h
    split at h
    · cases h; rfl
    · cases h
  · exact fun q avs H => pick1_none impl_bigBytes.G8_0 (rfl)
  · intro k q pt avs H x _ h
    rcases pick1_some h with ⟨rfl, h⟩ | h
    · exact impl_bigBytes.G8_s _ h
    cases h
  · intro k avs H o h
    try dsimp only at h
    split at h
    · cases h; exact impl_bigBytes.eq _ _ _
    · cases h

def impl_Crc.a : FnA (ByteArray) := ⟨36, [.tmp 2], .val, [], [⟨16, [0, 3, 10, 11], [.val, .val, .val, .val], []⟩, ⟨32, [0, 3, 10, 11, 20], [.val, .val, .val, .val, .val], []⟩], fun x H => match x, H with
  | .v (.string r), [] => some r
  | _, _ => none⟩
def impl_Crc.s : Spec := mkS [.val] (fun k avs H => match avs, H with
  | [.v (.string a0)], [] => some (impl_Crc.f k a0)
  | _, _ => none) (fun r => (.v (.string r), []))
def impl_Crc.E : Env := [((60, []), impl_bigBytes.s)]
def impl_Crc.G16 (k : Nat) (avs : List AV) (H : List HE) : Option (ByteArray) := match avs, H with
  | [.v (.string x0), .v (.int .u32 x3), .v (.int .i64 x10), .v (.int .i64 x11)], [] => impl_Crc.p16 k x0 x3 x10 x11
  | _, _ => none
def impl_Crc.G32 (k : Nat) (avs : List AV) (H : List HE) : Option (ByteArray) := match avs, H with
  | [.v (.string x0), .v (.int .u32 x3), .v (.int .i64 x10), .v (.int .i64 x11), .v (.int .i64 x20)], [] => impl_Crc.p32 k x0 x3 x10 x11 x20
  | _, _ => none
def impl_Crc.G (k p : Nat) (avs : List AV) (H : List HE) : Option (ByteArray) := (pick1 16 (impl_Crc.G16 k avs H) (pick1 32 (impl_Crc.G32 k avs H) none p) p)
set_option maxRecDepth 100000 in
theorem impl_Crc.eq (k : Nat) (a0 : ByteArray) : fromTop Tryd.prog impl_Crc.E k impl_Crc.a (impl_Crc.G k) 1000 (bodyOf Tryd.prog 53) [.v (.string a0)] [] = impl_Crc.f k a0 := by kernel_rfl
set_option maxRecDepth 100000 in
theorem impl_Crc.eq16 (k : Nat) (x0 : ByteArray) (x3 : Int) (x10 : Int) (x11 : Int) : fromPt Tryd.prog impl_Crc.E k impl_Crc.a (impl_Crc.G k) 1000 (bodyOf Tryd.prog 53) 16 [.v (.string x0), .v (.int .u32 x3), .v (.int .i64 x10), .v (.int .i64 x11)] [] = impl_Crc.p16 (k + 1) x0 x3 x10 x11 := by kernel_rfl
theorem impl_Crc.G16_0 {avs : List AV} {H : List HE} : impl_Crc.G16 0 avs H = none := by unfold impl_Crc.G16; split <;> rfl
theorem impl_Crc.G16_s (k : Nat) {avs : List AV} {H : List HE} {x : ByteArray} (h : impl_Crc.G16 (k + 1) avs H = some x) : fromPt Tryd.prog impl_Crc.E k impl_Crc.a (impl_Crc.G k) 1000 (bodyOf Tryd.prog 53) 16 avs H = some x := by
  unfold impl_Crc.G16 at h
  split at h
  · rw [← h]; exact impl_Crc.eq16 _ _ _ _ _
  · cases h
set_option maxRecDepth 100000 in
theorem impl_Crc.eq32 (k : Nat) (x0 : ByteArray) (x3 : Int) (x10 : Int) (x11 : Int) (x20 : Int) : fromPt Tryd.prog impl_Crc.E k impl_Crc.a (impl_Crc.G k) 1000 (bodyOf Tryd.prog 53) 32 [.v (.string x0), .v (.int .u32 x3), .v (.int .i64 x10), .v (.int .i64 x11), .v (.int .i64 x20)] [] = impl_Crc.p32 (k + 1) x0 x3 x10 x11 x20 := by kernel_rfl
theorem impl_Crc.G32_0 {avs : List AV} {H : List HE} : impl_Crc.G32 0 avs H = none := by unfold impl_Crc.G32; split <;> rfl
theorem impl_Crc.G32_s (k : Nat) {avs : List AV} {H : List HE} {x : ByteArray} (h : impl_Crc.G32 (k + 1) avs H = some x) : fromPt Tryd.prog impl_Crc.E k impl_Crc.a (impl_Crc.G k) 1000 (bodyOf Tryd.prog 53) 32 avs H = some x := by
  unfold impl_Crc.G32 at h
  split at h
  · rw [← h]; exact impl_Crc.eq32 _ _ _ _ _ _
  · cases h
theorem impl_Crc.E_ok : EnvOk Tryd.prog impl_Crc.E := ⟨⟨impl_bigBytes.sound, callable_of (by kernel_rfl)⟩, trivial⟩
theorem impl_Crc.sound : Sound Tryd.prog 53 impl_Crc.s := by
  refine func_sound (f := impl_Crc.a) (G := impl_Crc.G) (fn := Tryd.f53) (body := bodyOf Tryd.prog 53) 1000 (by kernel_rfl) impl_Crc.E_ok Tryd.func53 (by kernel_rfl) (by kernel_rfl) (by kernel_rfl) (ptsOk_of (by kernel_rfl)) ?_ ?_ ?_ ?_
  · intro r H x h
    unfold impl_Crc.a at h
    simp only at h
    split at h
    · cases h; rfl
    · cases h
  · exact fun q avs H => pick1_none impl_Crc.G16_0 (pick1_none impl_Crc.G32_0 (rfl))
  · intro k q pt avs H x _ h
    rcases pick1_some h with ⟨rfl, h⟩ | h
    · exact impl_Crc.G16_s _ h
    rcases pick1_some h with ⟨rfl, h⟩ | h
    · exact impl_Crc.G32_s _ h
    cases h
  · intro k avs H o h
    try dsimp only at h
    split at h
    · cases h; exact impl_Crc.eq _ _
    · cases h

def impl_Unsealed.a : FnA (ByteArray × Bool) := ⟨17, [.tmp 2, .tmp 3], .tup [.val, .bool], [], [], fun x H => match x, H with
  | .tup [.v (.string r_0), .bs false r_1], [] => some (r_0, r_1)
  | _, _ => none⟩
def impl_Unsealed.s : Spec := mkS [.val] (fun k avs H => match avs, H with
  | [.v (.string a0)], [] => some (impl_Unsealed.f k a0)
  | _, _ => none) (fun r => (.tup [.v (.string r.1), .bs false r.2], []))
def impl_Unsealed.E : Env := [((53, []), impl_Crc.s)]
def impl_Unsealed.G (k p : Nat) (avs : List AV) (H : List HE) : Option (ByteArray × Bool) := none
set_option maxRecDepth 100000 in
theorem impl_Unsealed.eq (k : Nat) (a0 : ByteArray) : fromTop Tryd.prog impl_Unsealed.E k impl_Unsealed.a (impl_Unsealed.G k) 1000 (bodyOf Tryd.prog 41) [.v (.string a0)] [] = impl_Unsealed.f k a0 := by kernel_rfl
theorem impl_Unsealed.E_ok : EnvOk Tryd.prog impl_Unsealed.E := ⟨⟨impl_Crc.sound, callable_of (by kernel_rfl)⟩, trivial⟩
theorem impl_Unsealed.sound : Sound Tryd.prog 41 impl_Unsealed.s := by
  refine func_sound (f := impl_Unsealed.a) (G := impl_Unsealed.G) (fn := Tryd.f41) (body := bodyOf Tryd.prog 41) 1000 (by kernel_rfl) impl_Unsealed.E_ok Tryd.func41 (by kernel_rfl) (by kernel_rfl) (by kernel_rfl) (ptsOk_of (by kernel_rfl)) ?_ ?_ ?_ ?_
  · intro r H x h
    unfold impl_Unsealed.a at h
    simp only at h
    split at h
    · cases h; rfl
    · cases h
  · intro q avs H; rfl
  · intro k q pt avs H x _ h; cases h
  · intro k avs H o h
    try dsimp only at h
    split at h
    · cases h; exact impl_Unsealed.eq _ _
    · cases h

def impl_ReadShort.a : FnA (Int × Bool) := ⟨15, [.tmp 2, .tmp 3], .tup [.val, .bool], [], [], fun x H => match x, H with
  | .tup [.v (.int .i64 r_0), .bs false r_1], [] => some (r_0, r_1)
  | _, _ => none⟩
def impl_ReadShort.s : Spec := mkS [.val] (fun k avs H => match avs, H with
  | [.v (.string a0)], [] => some (impl_ReadShort.f a0)
  | _, _ => none) (fun r => (.tup [.v (.int .i64 r.1), .bs false r.2], []))
def impl_ReadShort.E : Env := []
def impl_ReadShort.G (k p : Nat) (avs : List AV) (H : List HE) : Option (Int × Bool) := none
set_option maxRecDepth 100000 in
theorem impl_ReadShort.eq (k : Nat) (a0 : ByteArray) : fromTop Tryd.prog impl_ReadShort.E k impl_ReadShort.a (impl_ReadShort.G k) 1000 (bodyOf Tryd.prog 42) [.v (.string a0)] [] = impl_ReadShort.f a0 := by kernel_rfl
theorem impl_ReadShort.E_ok : EnvOk Tryd.prog impl_ReadShort.E := trivial
theorem impl_ReadShort.sound : Sound Tryd.prog 42 impl_ReadShort.s := by
  refine func_sound (f := impl_ReadShort.a) (G := impl_ReadShort.G) (fn := Tryd.f42) (body := bodyOf Tryd.prog 42) 1000 (by kernel_rfl) impl_ReadShort.E_ok Tryd.func42 (by kernel_rfl) (by kernel_rfl) (by kernel_rfl) (ptsOk_of (by kernel_rfl)) ?_ ?_ ?_ ?_
  · intro r H x h
    unfold impl_ReadShort.a at h
    simp only at h
    split at h
    · cases h; rfl
    · cases h
  · intro q avs H; rfl
  · intro k q pt avs H x _ h; cases h
  · intro k avs H o h
    try dsimp only at h
    split at h
    · cases h; exact impl_ReadShort.eq _ _
    · cases h

def impl_within.a : FnA (Bool) := ⟨15, [.tmp 6], .bool, [], [], fun x H => match x, H with
  | .bs false r, [] => some r
  | _, _ => none⟩
def impl_within.s : Spec := mkS [.val, .val, .val] (fun k avs H => match avs, H with
  | [.v (.int .i64 a0), .v (.int .i64 a1), .v (.int .i64 a2)], [] => some (impl_within.f a0 a1 a2)
  | _, _ => none) (fun r => (.bs false r, []))
def impl_within.E : Env := []
def impl_within.G (k p : Nat) (avs : List AV) (H : List HE) : Option (Bool) := none
set_option maxRecDepth 100000 in
theorem impl_within.eq (k : Nat) (a0 : Int) (a1 : Int) (a2 : Int) : fromTop Tryd.prog impl_within.E k impl_within.a (impl_within.G k) 1000 (bodyOf Tryd.prog 49) [.v (.int .i64 a0), .v (.int .i64 a1), .v (.int .i64 a2)] [] = impl_within.f a0 a1 a2 := by kernel_rfl
theorem impl_within.E_ok : EnvOk Tryd.prog impl_within.E := trivial
theorem impl_within.sound : Sound Tryd.prog 49 impl_within.s := by
  refine func_sound (f := impl_within.a) (G := impl_within.G) (fn := Tryd.f49) (body := bodyOf Tryd.prog 49) 1000 (by kernel_rfl) impl_within.E_ok Tryd.func49 (by kernel_rfl) (by kernel_rfl) (by kernel_rfl) (ptsOk_of (by kernel_rfl)) ?_ ?_ ?_ ?_
  · intro r H x h
    unfold impl_within.a at h
    simp only at h
    split at h
    · cases h; rfl
    · cases h
  · intro q avs H; rfl
  · intro k q pt avs H x _ h; cases h
  · intro k avs H o h
    try dsimp only at h
    split at h
    · cases h; exact impl_within.eq _ _ _ _
    · cases h

def impl_size_string.a : FnA (Int) := ⟨5, [.tmp 2], .val, [], [], fun x H => match x, H with
  | .v (.int .i64 r), [] => some r
  | _, _ => none⟩
def impl_size_string.s : Spec := mkS [.con .str] (fun k avs H => match avs, H with
  | [.con .str a0], [] => some (impl_size_string.f a0)
  | _, _ => none) (fun r => (.v (.int .i64 r), []))
def impl_size_string.E : Env := []
def impl_size_string.G (k p : Nat) (avs : List AV) (H : List HE) : Option (Int) := none
set_option maxRecDepth 100000 in
theorem impl_size_string.eq (k : Nat) (a0 : List ByteArray) : fromTop Tryd.prog impl_size_string.E k impl_size_string.a (impl_size_string.G k) 1000 (bodyOf Tryd.prog 61) [.con .str a0] [] = impl_size_string.f a0 := by kernel_rfl
theorem impl_size_string.E_ok : EnvOk Tryd.prog impl_size_string.E := trivial
theorem impl_size_string.sound : Sound Tryd.prog 61 impl_size_string.s := by
  refine func_sound (f := impl_size_string.a) (G := impl_size_string.G) (fn := Tryd.f61) (body := bodyOf Tryd.prog 61) 1000 (by kernel_rfl) impl_size_string.E_ok Tryd.func61 (by kernel_rfl) (by kernel_rfl) (by kernel_rfl) (ptsOk_of (by kernel_rfl)) ?_ ?_ ?_ ?_
  · intro r H x h
    unfold impl_size_string.a at h
    simp only at h
    split at h
    · cases h; rfl
    · cases h
  · intro q avs H; rfl
  · intro k q pt avs H x _ h; cases h
  · intro k avs H o h
    try dsimp only at h
    split at h
    · cases h; exact impl_size_string.eq _ _
    · cases h

def strings_Trim.s : Spec := mkS [.val, .val] (fun _ avs H => match avs, H with
  | [.v (.string a0), .v (.string a1)], [] => some (strings_Trim.f a0 a1)
  | _, _ => none) (fun r => (.v (.string r), []))
theorem strings_Trim.sound : Sound Tryd.prog 67 strings_Trim.s := by
  refine sound_plain (emb := fun r => .v (.string r)) ?_
  intro k avs H o x h hx
  split at h
  case h_2 => cases h
  rename_i a0 a1
  cases h
  refine ⟨rfl, fun M w ρ hp vals hr => ?_⟩
  obtain ⟨v0, q0, rfl, rfl, v1, q1, rfl, rfl, rfl⟩ := hr
  unfold strings_Trim.f at hx
  split at hx
  case isFalse => cases hx
  rename_i h0
  split at hx
  case isFalse => cases hx
  rename_i h1
  split at hx
  case isFalse => cases hx
  rename_i h2
  cases hx
  refine (Go.Proofs.Any.strings_Trim_laid Go.Proofs.Tryd.lays160 (by kernel_rfl) a0 a1 w h0 (by omega) (Go.Proofs.ascii_of_all h2)).mono ?_
  rintro e w' ⟨rfl, hb⟩
  exact ⟨_, rfl, hb, fun _ _ _ _ => rfl⟩

def impl_isType.a : FnA (Bool) := ⟨11, [.tmp 2], .bool, [], [], fun x H => match x, H with
  | .bs false r, [] => some r
  | _, _ => none⟩
def impl_isType.s : Spec := mkS [.val] (fun k avs H => match avs, H with
  | [.v (.string a0)], [] => some (impl_isType.f a0)
  | _, _ => none) (fun r => (.bs false r, []))
def impl_isType.E : Env := [((49, []), impl_within.s), ((67, []), strings_Trim.s)]
def impl_isType.G (k p : Nat) (avs : List AV) (H : List HE) : Option (Bool) := none
set_option maxRecDepth 100000 in
theorem impl_isType.eq (k : Nat) (a0 : ByteArray) : fromTop Tryd.prog impl_isType.E k impl_isType.a (impl_isType.G k) 1000 (bodyOf Tryd.prog 64) [.v (.string a0)] [] = impl_isType.f a0 := by kernel_rfl
theorem impl_isType.E_ok : EnvOk Tryd.prog impl_isType.E := ⟨⟨impl_within.sound, callable_of (by kernel_rfl)⟩, ⟨strings_Trim.sound, callable_of (by kernel_rfl)⟩, trivial⟩
theorem impl_isType.sound : Sound Tryd.prog 64 impl_isType.s := by
  refine func_sound (f := impl_isType.a) (G := impl_isType.G) (fn := Tryd.f64) (body := bodyOf Tryd.prog 64) 1000 (by kernel_rfl) impl_isType.E_ok Tryd.func64 (by kernel_rfl) (by kernel_rfl) (by kernel_rfl) (ptsOk_of (by kernel_rfl)) ?_ ?_ ?_ ?_
  · intro r H x h
    unfold impl_isType.a at h
    simp only at h
    split at h
    · cases h; rfl
    · cases h
  · intro q avs H; rfl
  · intro k q pt avs H x _ h; cases h
  · intro k avs H o h
    try dsimp only at h
    split at h
    · cases h; exact impl_isType.eq _ _
    · cases h

def impl_TypesOk_1.a : FnA (Bool) := ⟨6, [.tmp 2], .bool, [], [], fun x H => match x, H with
  | .bs false r, [] => some r
  | _, _ => none⟩
def impl_TypesOk_1.s : Spec := mkS [.val] (fun k avs H => match avs, H with
  | [.v (.string a0)], [] => some (impl_TypesOk_1.f a0)
  | _, _ => none) (fun r => (.bs false r, []))
def impl_TypesOk_1.E : Env := [((64, []), impl_isType.s)]
def impl_TypesOk_1.G (k p : Nat) (avs : List AV) (H : List HE) : Option (Bool) := none
set_option maxRecDepth 100000 in
theorem impl_TypesOk_1.eq (k : Nat) (a0 : ByteArray) : fromTop Tryd.prog impl_TypesOk_1.E k impl_TypesOk_1.a (impl_TypesOk_1.G k) 1000 (bodyOf Tryd.prog 63) [.v (.string a0)] [] = impl_TypesOk_1.f a0 := by kernel_rfl
theorem impl_TypesOk_1.E_ok : EnvOk Tryd.prog impl_TypesOk_1.E := ⟨⟨impl_isType.sound, callable_of (by kernel_rfl)⟩, trivial⟩
theorem impl_TypesOk_1.sound : Sound Tryd.prog 63 impl_TypesOk_1.s := by
  refine func_sound (f := impl_TypesOk_1.a) (G := impl_TypesOk_1.G) (fn := Tryd.f63) (body := bodyOf Tryd.prog 63) 1000 (by kernel_rfl) impl_TypesOk_1.E_ok Tryd.func63 (by kernel_rfl) (by kernel_rfl) (by kernel_rfl) (ptsOk_of (by kernel_rfl)) ?_ ?_ ?_ ?_
  · intro r H x h
    unfold impl_TypesOk_1.a at h
    simp only at h
    split at h
    · cases h; rfl
    · cases h
  · intro q avs H; rfl
  · intro k q pt avs H x _ h; cases h
  · intro k avs H o h
    try dsimp only at h
    split at h
    · cases h; exact impl_TypesOk_1.eq _ _
    · cases h

def slices_IndexFunc_string_at_impl_TypesOk_1.a : FnA (Int) := ⟨19, [.tmp 4], .val, [], [⟨6, [0, 1, 7, 8], [.con .str, .fn 63 0 [], .val, .val], []⟩], fun x H => match x, H with
  | .v (.int .i64 r), [] => some r
  | _, _ => none⟩
def slices_IndexFunc_string_at_impl_TypesOk_1.s : Spec := mkS [.con .str, .fn 63 0 []] (fun k avs H => match avs, H with
  | [.con .str a0, .fn 63 0 []], [] => some (slices_IndexFunc_string_at_impl_TypesOk_1.f k a0)
  | _, _ => none) (fun r => (.v (.int .i64 r), []))
def slices_IndexFunc_string_at_impl_TypesOk_1.E : Env := [((63, []), impl_TypesOk_1.s)]
def slices_IndexFunc_string_at_impl_TypesOk_1.G6 (k : Nat) (avs : List AV) (H : List HE) : Option (Int) := match avs, H with
  | [.con .str x0, .fn 63 0 [], .v (.int .i64 x7), .v (.int .i64 x8)], [] => slices_IndexFunc_string_at_impl_TypesOk_1.p6 k x0 x7 x8
  | _, _ => none
def slices_IndexFunc_string_at_impl_TypesOk_1.G (k p : Nat) (avs : List AV) (H : List HE) : Option (Int) := (pick1 6 (slices_IndexFunc_string_at_impl_TypesOk_1.G6 k avs H) none p)
set_option maxRecDepth 100000 in
theorem slices_IndexFunc_string_at_impl_TypesOk_1.eq (k : Nat) (a0 : List ByteArray) : fromTop Tryd.prog slices_IndexFunc_string_at_impl_TypesOk_1.E k slices_IndexFunc_string_at_impl_TypesOk_1.a (slices_IndexFunc_string_at_impl_TypesOk_1.G k) 1000 (bodyOf Tryd.prog 66) [.con .str a0, .fn 63 0 []] [] = slices_IndexFunc_string_at_impl_TypesOk_1.f k a0 := by kernel_rfl
set_option maxRecDepth 100000 in
theorem slices_IndexFunc_string_at_impl_TypesOk_1.eq6 (k : Nat) (x0 : List ByteArray) (x7 : Int) (x8 : Int) : fromPt Tryd.prog slices_IndexFunc_string_at_impl_TypesOk_1.E k slices_IndexFunc_string_at_impl_TypesOk_1.a (slices_IndexFunc_string_at_impl_TypesOk_1.G k) 1000 (bodyOf Tryd.prog 66) 6 [.con .str x0, .fn 63 0 [], .v (.int .i64 x7), .v (.int .i64 x8)] [] = slices_IndexFunc_string_at_impl_TypesOk_1.p6 (k + 1) x0 x7 x8 := by kernel_rfl
theorem slices_IndexFunc_string_at_impl_TypesOk_1.G6_0 {avs : List AV} {H : List HE} : slices_IndexFunc_string_at_impl_TypesOk_1.G6 0 avs H = none := by unfold slices_IndexFunc_string_at_impl_TypesOk_1.G6; split <;> rfl
theorem slices_IndexFunc_string_at_impl_TypesOk_1.G6_s (k : Nat) {avs : List AV} {H : List HE} {x : Int} (h : slices_IndexFunc_string_at_impl_TypesOk_1.G6 (k + 1) avs H = some x) : fromPt Tryd.prog slices_IndexFunc_string_at_impl_TypesOk_1.E k slices_IndexFunc_string_at_impl_TypesOk_1.a (slices_IndexFunc_string_at_impl_TypesOk_1.G k) 1000 (bodyOf Tryd.prog 66) 6 avs H = some x := by
  unfold slices_IndexFunc_string_at_impl_TypesOk_1.G6 at h
  split at h
  · rw [← h]; exact slices_IndexFunc_string_at_impl_TypesOk_1.eq6 _ _ _ _
  · cases h
theorem slices_IndexFunc_string_at_impl_TypesOk_1.E_ok : EnvOk Tryd.prog slices_IndexFunc_string_at_impl_TypesOk_1.E := ⟨⟨impl_TypesOk_1.sound, callable_of (by kernel_rfl)⟩, trivial⟩
theorem slices_IndexFunc_string_at_impl_TypesOk_1.sound : Sound Tryd.prog 66 slices_IndexFunc_string_at_impl_TypesOk_1.s := by
  refine func_sound (f := slices_IndexFunc_string_at_impl_TypesOk_1.a) (G := slices_IndexFunc_string_at_impl_TypesOk_1.G) (fn := Tryd.f66) (body := bodyOf Tryd.prog 66) 1000 (by kernel_rfl) slices_IndexFunc_string_at_impl_TypesOk_1.E_ok Tryd.func66 (by kernel_rfl) (by kernel_rfl) (by kernel_rfl) (ptsOk_of (by kernel_rfl)) ?_ ?_ ?_ ?_
  · intro r H x h
    unfold slices_IndexFunc_string_at_impl_TypesOk_1.a at h
    simp only at h
    split at h
    · cases h; rfl
    · cases h
  · exact fun q avs H => pick1_none slices_IndexFunc_string_at_impl_TypesOk_1.G6_0 (rfl)
  · intro k q pt avs H x _ h
    rcases pick1_some h with ⟨rfl, h⟩ | h
    · exact slices_IndexFunc_string_at_impl_TypesOk_1.G6_s _ h
    cases h
  · intro k avs H o h
    try dsimp only at h
    split at h
    · cases h; exact slices_IndexFunc_string_at_impl_TypesOk_1.eq _ _
    · cases h

def slices_ContainsFunc_string_at_impl_TypesOk_1.a : FnA (Bool) := ⟨9, [.tmp 4], .bool, [], [], fun x H => match x, H with
  | .bs false r, [] => some r
  | _, _ => none⟩
def slices_ContainsFunc_string_at_impl_TypesOk_1.s : Spec := mkS [.con .str, .fn 63 0 []] (fun k avs H => match avs, H with
  | [.con .str a0, .fn 63 0 []], [] => some (slices_ContainsFunc_string_at_impl_TypesOk_1.f k a0)
  | _, _ => none) (fun r => (.bs false r, []))
def slices_ContainsFunc_string_at_impl_TypesOk_1.E : Env := [((66, [63]), slices_IndexFunc_string_at_impl_TypesOk_1.s)]
def slices_ContainsFunc_string_at_impl_TypesOk_1.G (k p : Nat) (avs : List AV) (H : List HE) : Option (Bool) := none
set_option maxRecDepth 100000 in
theorem slices_ContainsFunc_string_at_impl_TypesOk_1.eq (k : Nat) (a0 : List ByteArray) : fromTop Tryd.prog slices_ContainsFunc_string_at_impl_TypesOk_1.E k slices_ContainsFunc_string_at_impl_TypesOk_1.a (slices_ContainsFunc_string_at_impl_TypesOk_1.G k) 1000 (bodyOf Tryd.prog 62) [.con .str a0, .fn 63 0 []] [] = slices_ContainsFunc_string_at_impl_TypesOk_1.f k a0 := by kernel_rfl
theorem slices_ContainsFunc_string_at_impl_TypesOk_1.E_ok : EnvOk Tryd.prog slices_ContainsFunc_string_at_impl_TypesOk_1.E := ⟨⟨slices_IndexFunc_string_at_impl_TypesOk_1.sound, callable_of (by kernel_rfl)⟩, trivial⟩
theorem slices_ContainsFunc_string_at_impl_TypesOk_1.sound : Sound Tryd.prog 62 slices_ContainsFunc_string_at_impl_TypesOk_1.s := by
  refine func_sound (f := slices_ContainsFunc_string_at_impl_TypesOk_1.a) (G := slices_ContainsFunc_string_at_impl_TypesOk_1.G) (fn := Tryd.f62) (body := bodyOf Tryd.prog 62) 1000 (by kernel_rfl) slices_ContainsFunc_string_at_impl_TypesOk_1.E_ok Tryd.func62 (by kernel_rfl) (by kernel_rfl) (by kernel_rfl) (ptsOk_of (by kernel_rfl)) ?_ ?_ ?_ ?_
  · intro r H x h
    unfold slices_ContainsFunc_string_at_impl_TypesOk_1.a at h
    simp only at h
    split at h
    · cases h; rfl
    · cases h
  · intro q avs H; rfl
  · intro k q pt avs H x _ h; cases h
  · intro k avs H o h
    try dsimp only at h
    split at h
    · cases h; exact slices_ContainsFunc_string_at_impl_TypesOk_1.eq _ _
    · cases h

def impl_TypesOk.a : FnA (Bool) := ⟨11, [.tmp 2], .bool, [], [], fun x H => match x, H with
  | .bs false r, [] => some r
  | _, _ => none⟩
def impl_TypesOk.s : Spec := mkS [.con .str] (fun k avs H => match avs, H with
  | [.con .str a0], [] => some (impl_TypesOk.f k a0)
  | _, _ => none) (fun r => (.bs false r, []))
def impl_TypesOk.E : Env := [((61, []), impl_size_string.s), ((49, []), impl_within.s), ((62, [63]), slices_ContainsFunc_string_at_impl_TypesOk_1.s)]
def impl_TypesOk.G (k p : Nat) (avs : List AV) (H : List HE) : Option (Bool) := none
set_option maxRecDepth 100000 in
theorem impl_TypesOk.eq (k : Nat) (a0 : List ByteArray) : fromTop Tryd.prog impl_TypesOk.E k impl_TypesOk.a (impl_TypesOk.G k) 1000 (bodyOf Tryd.prog 54) [.con .str a0] [] = impl_TypesOk.f k a0 := by kernel_rfl
theorem impl_TypesOk.E_ok : EnvOk Tryd.prog impl_TypesOk.E := ⟨⟨impl_size_string.sound, callable_of (by kernel_rfl)⟩, ⟨impl_within.sound, callable_of (by kernel_rfl)⟩, ⟨slices_ContainsFunc_string_at_impl_TypesOk_1.sound, callable_of (by kernel_rfl)⟩, trivial⟩
theorem impl_TypesOk.sound : Sound Tryd.prog 54 impl_TypesOk.s := by
  refine func_sound (f := impl_TypesOk.a) (G := impl_TypesOk.G) (fn := Tryd.f54) (body := bodyOf Tryd.prog 54) 1000 (by kernel_rfl) impl_TypesOk.E_ok Tryd.func54 (by kernel_rfl) (by kernel_rfl) (by kernel_rfl) (ptsOk_of (by kernel_rfl)) ?_ ?_ ?_ ?_
  · intro r H x h
    unfold impl_TypesOk.a at h
    simp only at h
    split at h
    · cases h; rfl
    · cases h
  · intro q avs H; rfl
  · intro k q pt avs H x _ h; cases h
  · intro k avs H o h
    try dsimp only at h
    split at h
    · cases h; exact impl_TypesOk.eq _ _
    · cases h

def impl_ConfigOk.a : FnA (Bool) := ⟨25, [.tmp 2], .bool, [], [], fun x H => match x, H with
  | .bs false r, [] => some r
  | _, _ => none⟩
def impl_ConfigOk.s : Spec := mkS [.agg [.val, .val, .val, .con .str]] (fun k avs H => match avs, H with
  | [.agg [.v (.int .i64 a0_0), .v (.int .i64 a0_1), .v (.int .i64 a0_2), .con .str a0_3]], [] => some (impl_ConfigOk.f k a0_0 a0_1 a0_2 a0_3)
  | _, _ => none) (fun r => (.bs false r, []))
def impl_ConfigOk.E : Env := [((49, []), impl_within.s), ((54, []), impl_TypesOk.s)]
def impl_ConfigOk.G (k p : Nat) (avs : List AV) (H : List HE) : Option (Bool) := none
set_option maxRecDepth 100000 in
theorem impl_ConfigOk.eq (k : Nat) (a0_0 : Int) (a0_1 : Int) (a0_2 : Int) (a0_3 : List ByteArray) : fromTop Tryd.prog impl_ConfigOk.E k impl_ConfigOk.a (impl_ConfigOk.G k) 1000 (bodyOf Tryd.prog 43) [.agg [.v (.int .i64 a0_0), .v (.int .i64 a0_1), .v (.int .i64 a0_2), .con .str a0_3]] [] = impl_ConfigOk.f k a0_0 a0_1 a0_2 a0_3 := by kernel_rfl
theorem impl_ConfigOk.E_ok : EnvOk Tryd.prog impl_ConfigOk.E := ⟨⟨impl_within.sound, callable_of (by kernel_rfl)⟩, ⟨impl_TypesOk.sound, callable_of (by kernel_rfl)⟩, trivial⟩
theorem impl_ConfigOk.sound : Sound Tryd.prog 43 impl_ConfigOk.s := by
  refine func_sound (f := impl_ConfigOk.a) (G := impl_ConfigOk.G) (fn := Tryd.f43) (body := bodyOf Tryd.prog 43) 1000 (by kernel_rfl) impl_ConfigOk.E_ok Tryd.func43 (by kernel_rfl) (by kernel_rfl) (by kernel_rfl) (ptsOk_of (by kernel_rfl)) ?_ ?_ ?_ ?_
  · intro r H x h
    unfold impl_ConfigOk.a at h
    simp only at h
    split at h
    · cases h; rfl
    · cases h
  · intro q avs H; rfl
  · intro k q pt avs H x _ h; cases h
  · intro k avs H o h
    try dsimp only at h
    split at h
    · cases h; exact impl_ConfigOk.eq _ _ _ _ _
    · cases h

def impl_ShortBytes.a : FnA (ByteArray) := ⟨13, [.tmp 2], .val, [], [], fun x H => match x, H with
  | .v (.string r), [] => some r
  | _, _ => none⟩
def impl_ShortBytes.s : Spec := mkS [.val] (fun k avs H => match avs, H with
  | [.v (.int .i64 a0)], [] => some (impl_ShortBytes.f a0)
  | _, _ => none) (fun r => (.v (.string r), []))
def impl_ShortBytes.E : Env := [((49, []), impl_within.s)]
def impl_ShortBytes.G (k p : Nat) (avs : List AV) (H : List HE) : Option (ByteArray) := none
set_option maxRecDepth 100000 in
theorem impl_ShortBytes.eq (k : Nat) (a0 : Int) : fromTop Tryd.prog impl_ShortBytes.E k impl_ShortBytes.a (impl_ShortBytes.G k) 1000 (bodyOf Tryd.prog 55) [.v (.int .i64 a0)] [] = impl_ShortBytes.f a0 := by kernel_rfl
theorem impl_ShortBytes.E_ok : EnvOk Tryd.prog impl_ShortBytes.E := ⟨⟨impl_within.sound, callable_of (by kernel_rfl)⟩, trivial⟩
theorem impl_ShortBytes.sound : Sound Tryd.prog 55 impl_ShortBytes.s := by
  refine func_sound (f := impl_ShortBytes.a) (G := impl_ShortBytes.G) (fn := Tryd.f55) (body := bodyOf Tryd.prog 55) 1000 (by kernel_rfl) impl_ShortBytes.E_ok Tryd.func55 (by kernel_rfl) (by kernel_rfl) (by kernel_rfl) (ptsOk_of (by kernel_rfl)) ?_ ?_ ?_ ?_
  · intro r H x h
    unfold impl_ShortBytes.a at h
    simp only at h
    split at h
    · cases h; rfl
    · cases h
  · intro q avs H; rfl
  · intro k q pt avs H x _ h; cases h
  · intro k avs H o h
    try dsimp only at h
    split at h
    · cases h; exact impl_ShortBytes.eq _ _
    · cases h

def strings_Repeat.s : Spec := mkS [.val, .val] (fun _ avs H => match avs, H with
  | [.v (.string a0), .v (.int .i64 a1)], [] => some (strings_Repeat.f a0 a1)
  | _, _ => none) (fun r => (.v (.string r), []))
theorem strings_Repeat.sound : Sound Tryd.prog 68 strings_Repeat.s := by
  refine sound_plain (emb := fun r => .v (.string r)) ?_
  intro k avs H o x h hx
  split at h
  case h_2 => cases h
  rename_i a0 a1
  cases h
  refine ⟨rfl, fun M w ρ hp vals hr => ?_⟩
  obtain ⟨v0, q0, rfl, rfl, v1, q1, rfl, rfl, rfl⟩ := hr
  unfold strings_Repeat.f at hx
  split at hx
  case isFalse => cases hx
  rename_i h0
  split at hx
  case isFalse => cases hx
  rename_i h1
  split at hx
  case isFalse => cases hx
  rename_i h2
  cases hx
  obtain ⟨c, rfl⟩ := Int.eq_ofNat_of_zero_le h0
  rw [Int.toNat_natCast]
  have hb : a0.size * c ≤ 1048576 * 1048576 := Nat.mul_le_mul h2 (by omega)
  refine (Go.Proofs.Tryd.strings_Repeat a0 c w (by omega) (by omega)).mono ?_
  rintro e w' ⟨rfl, hb⟩
  exact ⟨_, rfl, hb, fun _ _ _ _ => rfl⟩

def impl_zeros.a : FnA (ByteArray) := ⟨5, [.tmp 2], .val, [], [], fun x H => match x, H with
  | .v (.string r), [] => some r
  | _, _ => none⟩
def impl_zeros.s : Spec := mkS [.val] (fun k avs H => match avs, H with
  | [.v (.int .i64 a0)], [] => some (impl_zeros.f a0)
  | _, _ => none) (fun r => (.v (.string r), []))
def impl_zeros.E : Env := [((68, []), strings_Repeat.s)]
def impl_zeros.G (k p : Nat) (avs : List AV) (H : List HE) : Option (ByteArray) := none
set_option maxRecDepth 100000 in
theorem impl_zeros.eq (k : Nat) (a0 : Int) : fromTop Tryd.prog impl_zeros.E k impl_zeros.a (impl_zeros.G k) 1000 (bodyOf Tryd.prog 65) [.v (.int .i64 a0)] [] = impl_zeros.f a0 := by kernel_rfl
theorem impl_zeros.E_ok : EnvOk Tryd.prog impl_zeros.E := ⟨⟨strings_Repeat.sound, callable_of (by kernel_rfl)⟩, trivial⟩
theorem impl_zeros.sound : Sound Tryd.prog 65 impl_zeros.s := by
  refine func_sound (f := impl_zeros.a) (G := impl_zeros.G) (fn := Tryd.f65) (body := bodyOf Tryd.prog 65) 1000 (by kernel_rfl) impl_zeros.E_ok Tryd.func65 (by kernel_rfl) (by kernel_rfl) (by kernel_rfl) (ptsOk_of (by kernel_rfl)) ?_ ?_ ?_ ?_
  · intro r H x h
    unfold impl_zeros.a at h
    simp only at h
    split at h
    · cases h; rfl
    · cases h
  · intro q avs H; rfl
  · intro k q pt avs H x _ h; cases h
  · intro k avs H o h
    try dsimp only at h
    split at h
    · cases h; exact impl_zeros.eq _ _
    · cases h

def impl_Sealed.a : FnA (ByteArray) := ⟨16, [.tmp 2], .val, [], [], fun x H => match x, H with
  | .v (.string r), [] => some r
  | _, _ => none⟩
def impl_Sealed.s : Spec := mkS [.val] (fun k avs H => match avs, H with
  | [.v (.string a0)], [] => some (impl_Sealed.f k a0)
  | _, _ => none) (fun r => (.v (.string r), []))
def impl_Sealed.E : Env := [((65, []), impl_zeros.s), ((53, []), impl_Crc.s)]
def impl_Sealed.G (k p : Nat) (avs : List AV) (H : List HE) : Option (ByteArray) := none
set_option maxRecDepth 100000 in
theorem impl_Sealed.eq (k : Nat) (a0 : ByteArray) : fromTop Tryd.prog impl_Sealed.E k impl_Sealed.a (impl_Sealed.G k) 1000 (bodyOf Tryd.prog 56) [.v (.string a0)] [] = impl_Sealed.f k a0 := by kernel_rfl
theorem impl_Sealed.E_ok : EnvOk Tryd.prog impl_Sealed.E := ⟨⟨impl_zeros.sound, callable_of (by kernel_rfl)⟩, ⟨impl_Crc.sound, callable_of (by kernel_rfl)⟩, trivial⟩
theorem impl_Sealed.sound : Sound Tryd.prog 56 impl_Sealed.s := by
  refine func_sound (f := impl_Sealed.a) (G := impl_Sealed.G) (fn := Tryd.f56) (body := bodyOf Tryd.prog 56) 1000 (by kernel_rfl) impl_Sealed.E_ok Tryd.func56 (by kernel_rfl) (by kernel_rfl) (by kernel_rfl) (ptsOk_of (by kernel_rfl)) ?_ ?_ ?_ ?_
  · intro r H x h
    unfold impl_Sealed.a at h
    simp only at h
    split at h
    · cases h; rfl
    · cases h
  · intro q avs H; rfl
  · intro k q pt avs H x _ h; cases h
  · intro k avs H o h
    try dsimp only at h
    split at h
    · cases h; exact impl_Sealed.eq _ _
    · cases h

def impl_SuperLine.a : FnA (ByteArray) := ⟨69, [.tmp 2], .val, [], [⟨16, [3, 31, 32, 33], [.val, .con .str, .val, .val], []⟩, ⟨33, [3, 5, 6, 31, 32, 33, 38, 39], [.val, .val, .val, .con .str, .val, .val, .val, .val], []⟩], fun x H => match x, H with
  | .v (.string r), [] => some r
  | _, _ => none⟩
def impl_SuperLine.s : Spec := mkS [.agg [.val, .val, .val, .con .str]] (fun k avs H => match avs, H with
  | [.agg [.v (.int .i64 a0_0), .v (.int .i64 a0_1), .v (.int .i64 a0_2), .con .str a0_3]], [] => some (impl_SuperLine.f k a0_0 a0_1 a0_2 a0_3)
  | _, _ => none) (fun r => (.v (.string r), []))
def impl_SuperLine.E : Env := [((43, []), impl_ConfigOk.s), ((55, []), impl_ShortBytes.s), ((56, []), impl_Sealed.s)]
def impl_SuperLine.G16 (k : Nat) (avs : List AV) (H : List HE) : Option (ByteArray) := match avs, H with
  | [.v (.string x3), .con .str x31, .v (.int .i64 x32), .v (.int .i64 x33)], [] => impl_SuperLine.p16 k x3 x31 x32 x33
  | _, _ => none
def impl_SuperLine.G33 (k : Nat) (avs : List AV) (H : List HE) : Option (ByteArray) := match avs, H with
  | [.v (.string x3), .v (.string x5), .v (.int .i64 x6), .con .str x31, .v (.int .i64 x32), .v (.int .i64 x33), .v (.int .i64 x38), .v (.int .i64 x39)], [] => impl_SuperLine.p33 k x3 x5 x6 x31 x32 x33 x38 x39
  | _, _ => none
def impl_SuperLine.G (k p : Nat) (avs : List AV) (H : List HE) : Option (ByteArray) := (pick1 16 (impl_SuperLine.G16 k avs H) (pick1 33 (impl_SuperLine.G33 k avs H) none p) p)
set_option maxRecDepth 100000 in
theorem impl_SuperLine.eq (k : Nat) (a0_0 : Int) (a0_1 : Int) (a0_2 : Int) (a0_3 : List ByteArray) : fromTop Tryd.prog impl_SuperLine.E k impl_SuperLine.a (impl_SuperLine.G k) 1000 (bodyOf Tryd.prog 44) [.agg [.v (.int .i64 a0_0), .v (.int .i64 a0_1), .v (.int .i64 a0_2), .con .str a0_3]] [] = impl_SuperLine.f k a0_0 a0_1 a0_2 a0_3 := by kernel_rfl
set_option maxRecDepth 100000 in
theorem impl_SuperLine.eq16 (k : Nat) (x3 : ByteArray) (x31 : List ByteArray) (x32 : Int) (x33 : Int) : fromPt Tryd.prog impl_SuperLine.E k impl_SuperLine.a (impl_SuperLine.G k) 1000 (bodyOf Tryd.prog 44) 16 [.v (.string x3), .con .str x31, .v (.int .i64 x32), .v (.int .i64 x33)] [] = impl_SuperLine.p16 (k + 1) x3 x31 x32 x33 := by kernel_rfl
theorem impl_SuperLine.G16_0 {avs : List AV} {H : List HE} : impl_SuperLine.G16 0 avs H = none := by unfold impl_SuperLine.G16; split <;> rfl
theorem impl_SuperLine.G16_s (k : Nat) {avs : List AV} {H : List HE} {x : ByteArray} (h : impl_SuperLine.G16 (k + 1) avs H = some x) : fromPt Tryd.prog impl_SuperLine.E k impl_SuperLine.a (impl_SuperLine.G k) 1000 (bodyOf Tryd.prog 44) 16 avs H = some x := by
  unfold impl_SuperLine.G16 at h
  split at h
  · rw [← h]; exact impl_SuperLine.eq16 _ _ _ _ _
  · cases h
set_option maxRecDepth 100000 in
theorem impl_SuperLine.eq33 (k : Nat) (x3 : ByteArray) (x5 : ByteArray) (x6 : Int) (x31 : List ByteArray) (x32 : Int) (x33 : Int) (x38 : Int) (x39 : Int) : fromPt Tryd.prog impl_SuperLine.E k impl_SuperLine.a (impl_SuperLine.G k) 1000 (bodyOf Tryd.prog 44) 33 [.v (.string x3), .v (.string x5), .v (.int .i64 x6), .con .str x31, .v (.int .i64 x32), .v (.int .i64 x33), .v (.int .i64 x38), .v (.int .i64 x39)] [] = impl_SuperLine.p33 (k + 1) x3 x5 x6 x31 x32 x33 x38 x39 := by kernel_rfl
theorem impl_SuperLine.G33_0 {avs : List AV} {H : List HE} : impl_SuperLine.G33 0 avs H = none := by unfold impl_SuperLine.G33; split <;> rfl
theorem impl_SuperLine.G33_s (k : Nat) {avs : List AV} {H : List HE} {x : ByteArray} (h : impl_SuperLine.G33 (k + 1) avs H = some x) : fromPt Tryd.prog impl_SuperLine.E k impl_SuperLine.a (impl_SuperLine.G k) 1000 (bodyOf Tryd.prog 44) 33 avs H = some x := by
  unfold impl_SuperLine.G33 at h
  split at h
  · rw [← h]; exact impl_SuperLine.eq33 _ _ _ _ _ _ _ _ _
  · cases h
theorem impl_SuperLine.E_ok : EnvOk Tryd.prog impl_SuperLine.E := ⟨⟨impl_ConfigOk.sound, callable_of (by kernel_rfl)⟩, ⟨impl_ShortBytes.sound, callable_of (by kernel_rfl)⟩, ⟨impl_Sealed.sound, callable_of (by kernel_rfl)⟩, trivial⟩
theorem impl_SuperLine.sound : Sound Tryd.prog 44 impl_SuperLine.s := by
  refine func_sound (f := impl_SuperLine.a) (G := impl_SuperLine.G) (fn := Tryd.f44) (body := bodyOf Tryd.prog 44) 1000 (by kernel_rfl) impl_SuperLine.E_ok Tryd.func44 (by kernel_rfl) (by kernel_rfl) (by kernel_rfl) (ptsOk_of (by kernel_rfl)) ?_ ?_ ?_ ?_
  · intro r H x h
    unfold impl_SuperLine.a at h
    simp only at h
    split at h
    · cases h; rfl
    · cases h
  · exact fun q avs H => pick1_none impl_SuperLine.G16_0 (pick1_none impl_SuperLine.G33_0 (rfl))
  · intro k q pt avs H x _ h
    rcases pick1_some h with ⟨rfl, h⟩ | h
    · exact impl_SuperLine.G16_s _ h
    rcases pick1_some h with ⟨rfl, h⟩ | h
    · exact impl_SuperLine.G33_s _ h
    cases h
  · intro k avs H o h
    try dsimp only at h
    split at h
    · cases h; exact impl_SuperLine.eq _ _ _ _ _
    · cases h

def impl_ReadSuper.a : FnA (Int × Int × Int × List ByteArray × Bool) := ⟨112, [.cell 2 27, .tmp 3], .tup [.agg [.val, .val, .val, .row 9 .str], .bool], [], [⟨7, [0, 2, 4, 23], [.val, .box [.val, .val, .val, .val], .val, .bool], []⟩, ⟨24, [0, 2, 4, 6, 49, 50], [.val, .box [.val, .val, .val, .val], .val, .box [.val, .val, .val, .row 9 .str], .val, .val], []⟩, ⟨45, [0, 2, 4, 6, 9, 10, 49, 50, 77, 78], [.val, .box [.val, .val, .val, .val], .val, .box [.val, .val, .val, .row 9 .str], .val, .row 5 (.int .u8), .val, .val, .val, .val], []⟩], fun x H => match x, H with
  | .tup [.agg [.v (.int .i64 r_0_0), .v (.int .i64 r_0_1), .v (.int .i64 r_0_2), .own 0], .bs false r_1], [.row 9 .str r_0_3] => some (r_0_0, r_0_1, r_0_2, r_0_3, r_1)
  | _, _ => none⟩
def impl_ReadSuper.s : Spec := mkS [.val] (fun k avs H => match avs, H with
  | [.v (.string a0)], [] => some (impl_ReadSuper.f k a0)
  | _, _ => none) (fun r => (.tup [.agg [.v (.int .i64 r.1), .v (.int .i64 r.2.1), .v (.int .i64 r.2.2.1), .own 0], .bs false r.2.2.2.2], [.row 9 .str r.2.2.2.1]))
def impl_ReadSuper.E : Env := [((41, []), impl_Unsealed.s), ((43, []), impl_ConfigOk.s), ((44, []), impl_SuperLine.s), ((42, []), impl_ReadShort.s)]
def impl_ReadSuper.G7 (k : Nat) (avs : List AV) (H : List HE) : Option (Int × Int × Int × List ByteArray × Bool) := match avs, H with
  | [.v (.string x0), .box 0 0, .v (.string x4), .bs false x23], [.box [.v (.int .i64 x2_0), .v (.int .i64 x2_1), .v (.int .i64 x2_2), .v (.slice none 0 0)]] => impl_ReadSuper.p7 k x0 x2_0 x2_1 x2_2 x4 x23
  | _, _ => none
def impl_ReadSuper.G24 (k : Nat) (avs : List AV) (H : List HE) : Option (Int × Int × Int × List ByteArray × Bool) := match avs, H with
  | [.v (.string x0), .box 0 0, .v (.string x4), .box 1 0, .v (.int .i64 x49), .v (.int .i64 x50)], [.box [.v (.int .i64 x2_0), .v (.int .i64 x2_1), .v (.int .i64 x2_2), .v (.slice none 0 0)], .box [.v (.int .i64 x6_0), .v (.int .i64 x6_1), .v (.int .i64 x6_2), .own 2], .row 9 .str x6_3] => impl_ReadSuper.p24 k x0 x2_0 x2_1 x2_2 x4 x6_0 x6_1 x6_2 x6_3 x49 x50
  | _, _ => none
def impl_ReadSuper.G45 (k : Nat) (avs : List AV) (H : List HE) : Option (Int × Int × Int × List ByteArray × Bool) := match avs, H with
  | [.v (.string x0), .box 0 0, .v (.string x4), .box 1 0, .v (.int .i64 x9), .own 3, .v (.int .i64 x49), .v (.int .i64 x50), .v (.int .i64 x77), .v (.int .i64 x78)], [.box [.v (.int .i64 x2_0), .v (.int .i64 x2_1), .v (.int .i64 x2_2), .v (.slice none 0 0)], .box [.v (.int .i64 x6_0), .v (.int .i64 x6_1), .v (.int .i64 x6_2), .own 2], .row 9 .str x6_3, .row 5 (.int .u8) x10] => impl_ReadSuper.p45 k x0 x2_0 x2_1 x2_2 x4 x6_0 x6_1 x6_2 x6_3 x9 x10 x49 x50 x77 x78
  | _, _ => none
def impl_ReadSuper.G (k p : Nat) (avs : List AV) (H : List HE) : Option (Int × Int × Int × List ByteArray × Bool) := (pick1 7 (impl_ReadSuper.G7 k avs H) (pick1 24 (impl_ReadSuper.G24 k avs H) (pick1 45 (impl_ReadSuper.G45 k avs H) none p) p) p)
set_option maxRecDepth 100000 in
theorem impl_ReadSuper.eq (k : Nat) (a0 : ByteArray) : fromTop Tryd.prog impl_ReadSuper.E k impl_ReadSuper.a (impl_ReadSuper.G k) 1000 (bodyOf Tryd.prog 26) [.v (.string a0)] [] = impl_ReadSuper.f k a0 := by kernel_rfl
set_option maxRecDepth 100000 in
theorem impl_ReadSuper.eq7 (k : Nat) (x0 : ByteArray) (x2_0 : Int) (x2_1 : Int) (x2_2 : Int) (x4 : ByteArray) (x23 : Bool) : fromPt Tryd.prog impl_ReadSuper.E k impl_ReadSuper.a (impl_ReadSuper.G k) 1000 (bodyOf Tryd.prog 26) 7 [.v (.string x0), .box 0 0, .v (.string x4), .bs false x23] [.box [.v (.int .i64 x2_0), .v (.int .i64 x2_1), .v (.int .i64 x2_2), .v (.slice none 0 0)]] = impl_ReadSuper.p7 (k + 1) x0 x2_0 x2_1 x2_2 x4 x23 := by kernel_rfl
theorem impl_ReadSuper.G7_0 {avs : List AV} {H : List HE} : impl_ReadSuper.G7 0 avs H = none := by unfold impl_ReadSuper.G7; split <;> rfl
theorem impl_ReadSuper.G7_s (k : Nat) {avs : List AV} {H : List HE} {x : Int × Int × Int × List ByteArray × Bool} (h : impl_ReadSuper.G7 (k + 1) avs H = some x) : fromPt Tryd.prog impl_ReadSuper.E k impl_ReadSuper.a (impl_ReadSuper.G k) 1000 (bodyOf Tryd.prog 26) 7 avs H = some x := by
  unfold impl_ReadSuper.G7 at h
  split at h
  · rw [← h]; exact impl_ReadSuper.eq7 _ _ _ _ _ _ _
  · cases h
set_option maxRecDepth 100000 in
theorem impl_ReadSuper.eq24 (k : Nat) (x0 : ByteArray) (x2_0 : Int) (x2_1 : Int) (x2_2 : Int) (x4 : ByteArray) (x6_0 : Int) (x6_1 : Int) (x6_2 : Int) (x6_3 : List ByteArray) (x49 : Int) (x50 : Int) : fromPt Tryd.prog impl_ReadSuper.E k impl_ReadSuper.a (impl_ReadSuper.G k) 1000 (bodyOf Tryd.prog 26) 24 [.v (.string x0), .box 0 0, .v (.string x4), .box 1 0, .v (.int .i64 x49), .v (.int .i64 x50)] [.box [.v (.int .i64 x2_0), .v (.int .i64 x2_1), .v (.int .i64 x2_2), .v (.slice none 0 0)], .box [.v (.int .i64 x6_0), .v (.int .i64 x6_1), .v (.int .i64 x6_2), .own 2], .row 9 .str x6_3] = impl_ReadSuper.p24 (k + 1) x0 x2_0 x2_1 x2_2 x4 x6_0 x6_1 x6_2 x6_3 x49 x50 := by kernel_rfl
theorem impl_ReadSuper.G24_0 {avs : List AV} {H : List HE} : impl_ReadSuper.G24 0 avs H = none := by unfold impl_ReadSuper.G24; split <;> rfl
theorem impl_ReadSuper.G24_s (k : Nat) {avs : List AV} {H : List HE} {x : Int × Int × Int × List ByteArray × Bool} (h : impl_ReadSuper.G24 (k + 1) avs H = some x) : fromPt Tryd.prog impl_ReadSuper.E k impl_ReadSuper.a (impl_ReadSuper.G k) 1000 (bodyOf Tryd.prog 26) 24 avs H = some x := by
  unfold impl_ReadSuper.G24 at h
  split at h
  · rw [← h]; exact impl_ReadSuper.eq24 _ _ _ _ _ _ _ _ _ _ _ _
  · cases h
set_option maxRecDepth 100000 in
theorem impl_ReadSuper.eq45 (k : Nat) (x0 : ByteArray) (x2_0 : Int) (x2_1 : Int) (x2_2 : Int) (x4 : ByteArray) (x6_0 : Int) (x6_1 : Int) (x6_2 : Int) (x6_3 : List ByteArray) (x9 : Int) (x10 : List Int) (x49 : Int) (x50 : Int) (x77 : Int) (x78 : Int) : fromPt Tryd.prog impl_ReadSuper.E k impl_ReadSuper.a (impl_ReadSuper.G k) 1000 (bodyOf Tryd.prog 26) 45 [.v (.string x0), .box 0 0, .v (.string x4), .box 1 0, .v (.int .i64 x9), .own 3, .v (.int .i64 x49), .v (.int .i64 x50), .v (.int .i64 x77), .v (.int .i64 x78)] [.box [.v (.int .i64 x2_0), .v (.int .i64 x2_1), .v (.int .i64 x2_2), .v (.slice none 0 0)], .box [.v (.int .i64 x6_0), .v (.int .i64 x6_1), .v (.int .i64 x6_2), .own 2], .row 9 .str x6_3, .row 5 (.int .u8) x10] = impl_ReadSuper.p45 (k + 1) x0 x2_0 x2_1 x2_2 x4 x6_0 x6_1 x6_2 x6_3 x9 x10 x49 x50 x77 x78 := by kernel_rfl
theorem impl_ReadSuper.G45_0 {avs : List AV} {H : List HE} : impl_ReadSuper.G45 0 avs H = none := by unfold impl_ReadSuper.G45; split <;> rfl
theorem impl_ReadSuper.G45_s (k : Nat) {avs : List AV} {H : List HE} {x : Int × Int × Int × List ByteArray × Bool} (h : impl_ReadSuper.G45 (k + 1) avs H = some x) : fromPt Tryd.prog impl_ReadSuper.E k impl_ReadSuper.a (impl_ReadSuper.G k) 1000 (bodyOf Tryd.prog 26) 45 avs H = some x := by
  unfold impl_ReadSuper.G45 at h
  split at h
  · rw [← h]; exact impl_ReadSuper.eq45 _ _ _ _ _ _ _ _ _ _ _ _ _ _ _ _
  · cases h
theorem impl_ReadSuper.E_ok : EnvOk Tryd.prog impl_ReadSuper.E := ⟨⟨impl_Unsealed.sound, callable_of (by kernel_rfl)⟩, ⟨impl_ConfigOk.sound, callable_of (by kernel_rfl)⟩, ⟨impl_SuperLine.sound, callable_of (by kernel_rfl)⟩, ⟨impl_ReadShort.sound, callable_of (by kernel_rfl)⟩, trivial⟩
theorem impl_ReadSuper.sound : Sound Tryd.prog 26 impl_ReadSuper.s := by
  refine func_sound (f := impl_ReadSuper.a) (G := impl_ReadSuper.G) (fn := Tryd.f26) (body := bodyOf Tryd.prog 26) 1000 (by kernel_rfl) impl_ReadSuper.E_ok Tryd.func26 (by kernel_rfl) (by kernel_rfl) (by kernel_rfl) (ptsOk_of (by kernel_rfl)) ?_ ?_ ?_ ?_
  · intro r H x h
    unfold impl_ReadSuper.a at h
    simp only at h
    split at h
    · cases h; rfl
    · cases h
  · exact fun q avs H => pick1_none impl_ReadSuper.G7_0 (pick1_none impl_ReadSuper.G24_0 (pick1_none impl_ReadSuper.G45_0 (rfl)))
  · intro k q pt avs H x _ h
    rcases pick1_some h with ⟨rfl, h⟩ | h
    · exact impl_ReadSuper.G7_s _ h
    rcases pick1_some h with ⟨rfl, h⟩ | h
    · exact impl_ReadSuper.G24_s _ h
    rcases pick1_some h with ⟨rfl, h⟩ | h
    · exact impl_ReadSuper.G45_s _ h
    cases h
  · intro k avs H o h
    try dsimp only at h
    split at h
    · cases h; exact impl_ReadSuper.eq _ _
    · cases h

def impl_isImage.a : FnA (Bool) := ⟨15, [.tmp 4], .bool, [], [], fun x H => match x, H with
  | .bs false r, [] => some r
  | _, _ => none⟩
def impl_isImage.s : Spec := mkS [.agg [.val, .val, .val, .con .str], .val] (fun k avs H => match avs, H with
  | [.agg [.v (.int .i64 a0_0), .v (.int .i64 a0_1), .v (.int .i64 a0_2), .con .str a0_3], .v (.string a1)], [] => some (impl_isImage.f k a0_0 a0_1 a0_2 a0_3 a1)
  | _, _ => none) (fun r => (.bs false r, []))
def impl_isImage.E : Env := [((43, []), impl_ConfigOk.s)]
def impl_isImage.G (k p : Nat) (avs : List AV) (H : List HE) : Option (Bool) := none
set_option maxRecDepth 100000 in
theorem impl_isImage.eq (k : Nat) (a0_0 : Int) (a0_1 : Int) (a0_2 : Int) (a0_3 : List ByteArray) (a1 : ByteArray) : fromTop Tryd.prog impl_isImage.E k impl_isImage.a (impl_isImage.G k) 1000 (bodyOf Tryd.prog 27) [.agg [.v (.int .i64 a0_0), .v (.int .i64 a0_1), .v (.int .i64 a0_2), .con .str a0_3], .v (.string a1)] [] = impl_isImage.f k a0_0 a0_1 a0_2 a0_3 a1 := by kernel_rfl
theorem impl_isImage.E_ok : EnvOk Tryd.prog impl_isImage.E := ⟨⟨impl_ConfigOk.sound, callable_of (by kernel_rfl)⟩, trivial⟩
theorem impl_isImage.sound : Sound Tryd.prog 27 impl_isImage.s := by
  refine func_sound (f := impl_isImage.a) (G := impl_isImage.G) (fn := Tryd.f27) (body := bodyOf Tryd.prog 27) 1000 (by kernel_rfl) impl_isImage.E_ok Tryd.func27 (by kernel_rfl) (by kernel_rfl) (by kernel_rfl) (ptsOk_of (by kernel_rfl)) ?_ ?_ ?_ ?_
  · intro r H x h
    unfold impl_isImage.a at h
    simp only at h
    split at h
    · cases h; rfl
    · cases h
  · intro q avs H; rfl
  · intro k q pt avs H x _ h; cases h
  · intro k avs H o h
    try dsimp only at h
    split at h
    · cases h; exact impl_isImage.eq _ _ _ _ _ _
    · cases h

def impl_ConfigOf.a : FnA (Int × Int × Int × List ByteArray × Bool) := ⟨26, [.cell 2 27, .tmp 3], .tup [.agg [.val, .val, .val, .row 9 .str], .bool], [], [], fun x H => match x, H with
  | .tup [.agg [.v (.int .i64 r_0_0), .v (.int .i64 r_0_1), .v (.int .i64 r_0_2), .own 0], .bs false r_1], [.row 9 .str r_0_3] => some (r_0_0, r_0_1, r_0_2, r_0_3, r_1)
  | _, _ => none⟩
def impl_ConfigOf.s : Spec := mkS [.val] (fun k avs H => match avs, H with
  | [.v (.string a0)], [] => some (impl_ConfigOf.f k a0)
  | _, _ => none) (fun r => (.tup [.agg [.v (.int .i64 r.1), .v (.int .i64 r.2.1), .v (.int .i64 r.2.2.1), .own 0], .bs false r.2.2.2.2], [.row 9 .str r.2.2.2.1]))
def impl_ConfigOf.E : Env := [((26, []), impl_ReadSuper.s), ((27, []), impl_isImage.s)]
def impl_ConfigOf.G (k p : Nat) (avs : List AV) (H : List HE) : Option (Int × Int × Int × List ByteArray × Bool) := none
set_option maxRecDepth 100000 in
theorem impl_ConfigOf.eq (k : Nat) (a0 : ByteArray) : fromTop Tryd.prog impl_ConfigOf.E k impl_ConfigOf.a (impl_ConfigOf.G k) 1000 (bodyOf Tryd.prog 16) [.v (.string a0)] [] = impl_ConfigOf.f k a0 := by kernel_rfl
theorem impl_ConfigOf.E_ok : EnvOk Tryd.prog impl_ConfigOf.E := ⟨⟨impl_ReadSuper.sound, callable_of (by kernel_rfl)⟩, ⟨impl_isImage.sound, callable_of (by kernel_rfl)⟩, trivial⟩
theorem impl_ConfigOf.sound : Sound Tryd.prog 16 impl_ConfigOf.s := by
  refine func_sound (f := impl_ConfigOf.a) (G := impl_ConfigOf.G) (fn := Tryd.f16) (body := bodyOf Tryd.prog 16) 1000 (by kernel_rfl) impl_ConfigOf.E_ok Tryd.func16 (by kernel_rfl) (by kernel_rfl) (by kernel_rfl) (ptsOk_of (by kernel_rfl)) ?_ ?_ ?_ ?_
  · intro r H x h
    unfold impl_ConfigOf.a at h
    simp only at h
    split at h
    · cases h; rfl
    · cases h
  · intro q avs H; rfl
  · intro k q pt avs H x _ h; cases h
  · intro k avs H o h
    try dsimp only at h
    split at h
    · cases h; exact impl_ConfigOf.eq _ _
    · cases h

def impl_lineOf.a : FnA (ByteArray) := ⟨12, [.tmp 4], .val, [], [], fun x H => match x, H with
  | .v (.string r), [] => some r
  | _, _ => none⟩
def impl_lineOf.s : Spec := mkS [.val, .val] (fun k avs H => match avs, H with
  | [.v (.string a0), .v (.int .i64 a1)], [] => some (impl_lineOf.f a0 a1)
  | _, _ => none) (fun r => (.v (.string r), []))
def impl_lineOf.E : Env := []
def impl_lineOf.G (k p : Nat) (avs : List AV) (H : List HE) : Option (ByteArray) := none
set_option maxRecDepth 100000 in
theorem impl_lineOf.eq (k : Nat) (a0 : ByteArray) (a1 : Int) : fromTop Tryd.prog impl_lineOf.E k impl_lineOf.a (impl_lineOf.G k) 1000 (bodyOf Tryd.prog 30) [.v (.string a0), .v (.int .i64 a1)] [] = impl_lineOf.f a0 a1 := by kernel_rfl
theorem impl_lineOf.E_ok : EnvOk Tryd.prog impl_lineOf.E := trivial
theorem impl_lineOf.sound : Sound Tryd.prog 30 impl_lineOf.s := by
  refine func_sound (f := impl_lineOf.a) (G := impl_lineOf.G) (fn := Tryd.f30) (body := bodyOf Tryd.prog 30) 1000 (by kernel_rfl) impl_lineOf.E_ok Tryd.func30 (by kernel_rfl) (by kernel_rfl) (by kernel_rfl) (ptsOk_of (by kernel_rfl)) ?_ ?_ ?_ ?_
  · intro r H x h
    unfold impl_lineOf.a at h
    simp only at h
    split at h
    · cases h; rfl
    · cases h
  · intro q avs H; rfl
  · intro k q pt avs H x _ h; cases h
  · intro k avs H o h
    try dsimp only at h
    split at h
    · cases h; exact impl_lineOf.eq _ _ _
    · cases h

def impl_wordAt.a : FnA (Int) := ⟨21, [.tmp 4], .val, [], [⟨8, [0, 1, 5, 7], [.val, .val, .val, .val], []⟩], fun x H => match x, H with
  | .v (.int .i64 r), [] => some r
  | _, _ => none⟩
def impl_wordAt.s : Spec := mkS [.val, .val] (fun k avs H => match avs, H with
  | [.v (.string a0), .v (.int .i64 a1)], [] => some (impl_wordAt.f k a0 a1)
  | _, _ => none) (fun r => (.v (.int .i64 r), []))
def impl_wordAt.E : Env := []
def impl_wordAt.G8 (k : Nat) (avs : List AV) (H : List HE) : Option (Int) := match avs, H with
  | [.v (.string x0), .v (.int .i64 x1), .v (.int .i64 x5), .v (.int .i64 x7)], [] => impl_wordAt.p8 k x0 x1 x5 x7
  | _, _ => none
def impl_wordAt.G (k p : Nat) (avs : List AV) (H : List HE) : Option (Int) := (pick1 8 (impl_wordAt.G8 k avs H) none p)
set_option maxRecDepth 100000 in
theorem impl_wordAt.eq (k : Nat) (a0 : ByteArray) (a1 : Int) : fromTop Tryd.prog impl_wordAt.E k impl_wordAt.a (impl_wordAt.G k) 1000 (bodyOf Tryd.prog 46) [.v (.string a0), .v (.int .i64 a1)] [] = impl_wordAt.f k a0 a1 := by kernel_rfl
set_option maxRecDepth 100000 in
theorem impl_wordAt.eq8 (k : Nat) (x0 : ByteArray) (x1 : Int) (x5 : Int) (x7 : Int) : fromPt Tryd.prog impl_wordAt.E k impl_wordAt.a (impl_wordAt.G k) 1000 (bodyOf Tryd.prog 46) 8 [.v (.string x0), .v (.int .i64 x1), .v (.int .i64 x5), .v (.int .i64 x7)] [] = impl_wordAt.p8 (k + 1) x0 x1 x5 x7 := by kernel_rfl
theorem impl_wordAt.G8_0 {avs : List AV} {H : List HE} : impl_wordAt.G8 0 avs H = none := by unfold impl_wordAt.G8; split <;> rfl
theorem impl_wordAt.G8_s (k : Nat) {avs : List AV} {H : List HE} {x : Int} (h : impl_wordAt.G8 (k + 1) avs H = some x) : fromPt Tryd.prog impl_wordAt.E k impl_wordAt.a (impl_wordAt.G k) 1000 (bodyOf Tryd.prog 46) 8 avs H = some x := by
  unfold impl_wordAt.G8 at h
  split at h
  · rw [← h]; exact impl_wordAt.eq8 _ _ _ _ _
  · cases h
theorem impl_wordAt.E_ok : EnvOk Tryd.prog impl_wordAt.E := trivial
theorem impl_wordAt.sound : Sound Tryd.prog 46 impl_wordAt.s := by
  refine func_sound (f := impl_wordAt.a) (G := impl_wordAt.G) (fn := Tryd.f46) (body := bodyOf Tryd.prog 46) 1000 (by kernel_rfl) impl_wordAt.E_ok Tryd.func46 (by kernel_rfl) (by kernel_rfl) (by kernel_rfl) (ptsOk_of (by kernel_rfl)) ?_ ?_ ?_ ?_
  · intro r H x h
    unfold impl_wordAt.a at h
    simp only at h
    split at h
    · cases h; rfl
    · cases h
  · exact fun q avs H => pick1_none impl_wordAt.G8_0 (rfl)
  · intro k q pt avs H x _ h
    rcases pick1_some h with ⟨rfl, h⟩ | h
    · exact impl_wordAt.G8_s _ h
    cases h
  · intro k avs H o h
    try dsimp only at h
    split at h
    · cases h; exact impl_wordAt.eq _ _ _
    · cases h

def impl_WordBytes.a : FnA (ByteArray) := ⟨6, [.tmp 2], .val, [], [], fun x H => match x, H with
  | .v (.string r), [] => some r
  | _, _ => none⟩
def impl_WordBytes.s : Spec := mkS [.val] (fun k avs H => match avs, H with
  | [.v (.int .i64 a0)], [] => some (impl_WordBytes.f k a0)
  | _, _ => none) (fun r => (.v (.string r), []))
def impl_WordBytes.E : Env := [((60, []), impl_bigBytes.s)]
def impl_WordBytes.G (k p : Nat) (avs : List AV) (H : List HE) : Option (ByteArray) := none
set_option maxRecDepth 100000 in
theorem impl_WordBytes.eq (k : Nat) (a0 : Int) : fromTop Tryd.prog impl_WordBytes.E k impl_WordBytes.a (impl_WordBytes.G k) 1000 (bodyOf Tryd.prog 58) [.v (.int .i64 a0)] [] = impl_WordBytes.f k a0 := by kernel_rfl
theorem impl_WordBytes.E_ok : EnvOk Tryd.prog impl_WordBytes.E := ⟨⟨impl_bigBytes.sound, callable_of (by kernel_rfl)⟩, trivial⟩
theorem impl_WordBytes.sound : Sound Tryd.prog 58 impl_WordBytes.s := by
  refine func_sound (f := impl_WordBytes.a) (G := impl_WordBytes.G) (fn := Tryd.f58) (body := bodyOf Tryd.prog 58) 1000 (by kernel_rfl) impl_WordBytes.E_ok Tryd.func58 (by kernel_rfl) (by kernel_rfl) (by kernel_rfl) (ptsOk_of (by kernel_rfl)) ?_ ?_ ?_ ?_
  · intro r H x h
    unfold impl_WordBytes.a at h
    simp only at h
    split at h
    · cases h; rfl
    · cases h
  · intro q avs H; rfl
  · intro k q pt avs H x _ h; cases h
  · intro k avs H o h
    try dsimp only at h
    split at h
    · cases h; exact impl_WordBytes.eq _ _
    · cases h

def impl_EpochLine.a : FnA (ByteArray) := ⟨9, [.tmp 2], .val, [], [], fun x H => match x, H with
  | .v (.string r), [] => some r
  | _, _ => none⟩
def impl_EpochLine.s : Spec := mkS [.val] (fun k avs H => match avs, H with
  | [.v (.int .i64 a0)], [] => some (impl_EpochLine.f k a0)
  | _, _ => none) (fun r => (.v (.string r), []))
def impl_EpochLine.E : Env := [((49, []), impl_within.s), ((58, []), impl_WordBytes.s), ((56, []), impl_Sealed.s)]
def impl_EpochLine.G (k p : Nat) (avs : List AV) (H : List HE) : Option (ByteArray) := none
set_option maxRecDepth 100000 in
theorem impl_EpochLine.eq (k : Nat) (a0 : Int) : fromTop Tryd.prog impl_EpochLine.E k impl_EpochLine.a (impl_EpochLine.G k) 1000 (bodyOf Tryd.prog 57) [.v (.int .i64 a0)] [] = impl_EpochLine.f k a0 := by kernel_rfl
theorem impl_EpochLine.E_ok : EnvOk Tryd.prog impl_EpochLine.E := ⟨⟨impl_within.sound, callable_of (by kernel_rfl)⟩, ⟨impl_WordBytes.sound, callable_of (by kernel_rfl)⟩, ⟨impl_Sealed.sound, callable_of (by kernel_rfl)⟩, trivial⟩
theorem impl_EpochLine.sound : Sound Tryd.prog 57 impl_EpochLine.s := by
  refine func_sound (f := impl_EpochLine.a) (G := impl_EpochLine.G) (fn := Tryd.f57) (body := bodyOf Tryd.prog 57) 1000 (by kernel_rfl) impl_EpochLine.E_ok Tryd.func57 (by kernel_rfl) (by kernel_rfl) (by kernel_rfl) (ptsOk_of (by kernel_rfl)) ?_ ?_ ?_ ?_
  · intro r H x h
    unfold impl_EpochLine.a at h
    simp only at h
    split at h
    · cases h; rfl
    · cases h
  · intro q avs H; rfl
  · intro k q pt avs H x _ h; cases h
  · intro k avs H o h
    try dsimp only at h
    split at h
    · cases h; exact impl_EpochLine.eq _ _
    · cases h

def impl_ReadEpoch.a : FnA (Int × Bool) := ⟨26, [.tmp 2, .tmp 3], .tup [.val, .bool], [], [], fun x H => match x, H with
  | .tup [.v (.int .i64 r_0), .bs false r_1], [] => some (r_0, r_1)
  | _, _ => none⟩
def impl_ReadEpoch.s : Spec := mkS [.val] (fun k avs H => match avs, H with
  | [.v (.string a0)], [] => some (impl_ReadEpoch.f k a0)
  | _, _ => none) (fun r => (.tup [.v (.int .i64 r.1), .bs false r.2], []))
def impl_ReadEpoch.E : Env := [((41, []), impl_Unsealed.s), ((46, []), impl_wordAt.s), ((49, []), impl_within.s), ((57, []), impl_EpochLine.s)]
def impl_ReadEpoch.G (k p : Nat) (avs : List AV) (H : List HE) : Option (Int × Bool) := none
set_option maxRecDepth 100000 in
theorem impl_ReadEpoch.eq (k : Nat) (a0 : ByteArray) : fromTop Tryd.prog impl_ReadEpoch.E k impl_ReadEpoch.a (impl_ReadEpoch.G k) 1000 (bodyOf Tryd.prog 45) [.v (.string a0)] [] = impl_ReadEpoch.f k a0 := by kernel_rfl
theorem impl_ReadEpoch.E_ok : EnvOk Tryd.prog impl_ReadEpoch.E := ⟨⟨impl_Unsealed.sound, callable_of (by kernel_rfl)⟩, ⟨impl_wordAt.sound, callable_of (by kernel_rfl)⟩, ⟨impl_within.sound, callable_of (by kernel_rfl)⟩, ⟨impl_EpochLine.sound, callable_of (by kernel_rfl)⟩, trivial⟩
theorem impl_ReadEpoch.sound : Sound Tryd.prog 45 impl_ReadEpoch.s := by
  refine func_sound (f := impl_ReadEpoch.a) (G := impl_ReadEpoch.G) (fn := Tryd.f45) (body := bodyOf Tryd.prog 45) 1000 (by kernel_rfl) impl_ReadEpoch.E_ok Tryd.func45 (by kernel_rfl) (by kernel_rfl) (by kernel_rfl) (ptsOk_of (by kernel_rfl)) ?_ ?_ ?_ ?_
  · intro r H x h
    unfold impl_ReadEpoch.a at h
    simp only at h
    split at h
    · cases h; rfl
    · cases h
  · intro q avs H; rfl
  · intro k q pt avs H x _ h; cases h
  · intro k avs H o h
    try dsimp only at h
    split at h
    · cases h; exact impl_ReadEpoch.eq _ _
    · cases h

def impl_EpochOf.a : FnA (Int) := ⟨20, [.tmp 4], .val, [], [], fun x H => match x, H with
  | .v (.int .i64 r), [] => some r
  | _, _ => none⟩
def impl_EpochOf.s : Spec := mkS [.agg [.val, .val, .val, .con .str], .val] (fun k avs H => match avs, H with
  | [.agg [.v (.int .i64 a0_0), .v (.int .i64 a0_1), .v (.int .i64 a0_2), .con .str a0_3], .v (.string a1)], [] => some (impl_EpochOf.f k a0_0 a0_1 a0_2 a0_3 a1)
  | _, _ => none) (fun r => (.v (.int .i64 r), []))
def impl_EpochOf.E : Env := [((27, []), impl_isImage.s), ((30, []), impl_lineOf.s), ((45, []), impl_ReadEpoch.s)]
def impl_EpochOf.G (k p : Nat) (avs : List AV) (H : List HE) : Option (Int) := none
set_option maxRecDepth 100000 in
theorem impl_EpochOf.eq (k : Nat) (a0_0 : Int) (a0_1 : Int) (a0_2 : Int) (a0_3 : List ByteArray) (a1 : ByteArray) : fromTop Tryd.prog impl_EpochOf.E k impl_EpochOf.a (impl_EpochOf.G k) 1000 (bodyOf Tryd.prog 28) [.agg [.v (.int .i64 a0_0), .v (.int .i64 a0_1), .v (.int .i64 a0_2), .con .str a0_3], .v (.string a1)] [] = impl_EpochOf.f k a0_0 a0_1 a0_2 a0_3 a1 := by kernel_rfl
theorem impl_EpochOf.E_ok : EnvOk Tryd.prog impl_EpochOf.E := ⟨⟨impl_isImage.sound, callable_of (by kernel_rfl)⟩, ⟨impl_lineOf.sound, callable_of (by kernel_rfl)⟩, ⟨impl_ReadEpoch.sound, callable_of (by kernel_rfl)⟩, trivial⟩
theorem impl_EpochOf.sound : Sound Tryd.prog 28 impl_EpochOf.s := by
  refine func_sound (f := impl_EpochOf.a) (G := impl_EpochOf.G) (fn := Tryd.f28) (body := bodyOf Tryd.prog 28) 1000 (by kernel_rfl) impl_EpochOf.E_ok Tryd.func28 (by kernel_rfl) (by kernel_rfl) (by kernel_rfl) (ptsOk_of (by kernel_rfl)) ?_ ?_ ?_ ?_
  · intro r H x h
    unfold impl_EpochOf.a at h
    simp only at h
    split at h
    · cases h; rfl
    · cases h
  · intro q avs H; rfl
  · intro k q pt avs H x _ h; cases h
  · intro k avs H o h
    try dsimp only at h
    split at h
    · cases h; exact impl_EpochOf.eq _ _ _ _ _ _
    · cases h

def impl_RecordLine.a : FnA (ByteArray) := ⟨43, [.tmp 2], .val, [], [⟨5, [1, 24], [.box [.val, .val, .val, .val], .bool], []⟩], fun x H => match x, H with
  | .v (.string r), [] => some r
  | _, _ => none⟩
def impl_RecordLine.s : Spec := mkS [.agg [.val, .val, .val, .val]] (fun k avs H => match avs, H with
  | [.agg [.v (.int .i64 a0_0), .v (.int .i64 a0_1), .v (.int .i64 a0_2), .v (.string a0_3)]], [] => some (impl_RecordLine.f k a0_0 a0_1 a0_2 a0_3)
  | _, _ => none) (fun r => (.v (.string r), []))
def impl_RecordLine.E : Env := [((49, []), impl_within.s), ((55, []), impl_ShortBytes.s), ((58, []), impl_WordBytes.s), ((56, []), impl_Sealed.s)]
def impl_RecordLine.G5 (k : Nat) (avs : List AV) (H : List HE) : Option (ByteArray) := match avs, H with
  | [.box 0 0, .bs false x24], [.box [.v (.int .i64 x1_0), .v (.int .i64 x1_1), .v (.int .i64 x1_2), .v (.string x1_3)]] => impl_RecordLine.p5 k x1_0 x1_1 x1_2 x1_3 x24
  | _, _ => none
def impl_RecordLine.G (k p : Nat) (avs : List AV) (H : List HE) : Option (ByteArray) := (pick1 5 (impl_RecordLine.G5 k avs H) none p)
set_option maxRecDepth 100000 in
theorem impl_RecordLine.eq (k : Nat) (a0_0 : Int) (a0_1 : Int) (a0_2 : Int) (a0_3 : ByteArray) : fromTop Tryd.prog impl_RecordLine.E k impl_RecordLine.a (impl_RecordLine.G k) 1000 (bodyOf Tryd.prog 47) [.agg [.v (.int .i64 a0_0), .v (.int .i64 a0_1), .v (.int .i64 a0_2), .v (.string a0_3)]] [] = impl_RecordLine.f k a0_0 a0_1 a0_2 a0_3 := by kernel_rfl
set_option maxRecDepth 100000 in
theorem impl_RecordLine.eq5 (k : Nat) (x1_0 : Int) (x1_1 : Int) (x1_2 : Int) (x1_3 : ByteArray) (x24 : Bool) : fromPt Tryd.prog impl_RecordLine.E k impl_RecordLine.a (impl_RecordLine.G k) 1000 (bodyOf Tryd.prog 47) 5 [.box 0 0, .bs false x24] [.box [.v (.int .i64 x1_0), .v (.int .i64 x1_1), .v (.int .i64 x1_2), .v (.string x1_3)]] = impl_RecordLine.p5 (k + 1) x1_0 x1_1 x1_2 x1_3 x24 := by kernel_rfl
theorem impl_RecordLine.G5_0 {avs : List AV} {H : List HE} : impl_RecordLine.G5 0 avs H = none := by unfold impl_RecordLine.G5; split <;> rfl
theorem impl_RecordLine.G5_s (k : Nat) {avs : List AV} {H : List HE} {x : ByteArray} (h : impl_RecordLine.G5 (k + 1) avs H = some x) : fromPt Tryd.prog impl_RecordLine.E k impl_RecordLine.a (impl_RecordLine.G k) 1000 (bodyOf Tryd.prog 47) 5 avs H = some x := by
  unfold impl_RecordLine.G5 at h
  split at h
  · rw [← h]; exact impl_RecordLine.eq5 _ _ _ _ _ _
  · cases h
theorem impl_RecordLine.E_ok : EnvOk Tryd.prog impl_RecordLine.E := ⟨⟨impl_within.sound, callable_of (by kernel_rfl)⟩, ⟨impl_ShortBytes.sound, callable_of (by kernel_rfl)⟩, ⟨impl_WordBytes.sound, callable_of (by kernel_rfl)⟩, ⟨impl_Sealed.sound, callable_of (by kernel_rfl)⟩, trivial⟩
theorem impl_RecordLine.sound : Sound Tryd.prog 47 impl_RecordLine.s := by
  refine func_sound (f := impl_RecordLine.a) (G := impl_RecordLine.G) (fn := Tryd.f47) (body := bodyOf Tryd.prog 47) 1000 (by kernel_rfl) impl_RecordLine.E_ok Tryd.func47 (by kernel_rfl) (by kernel_rfl) (by kernel_rfl) (ptsOk_of (by kernel_rfl)) ?_ ?_ ?_ ?_
  · intro r H x h
    unfold impl_RecordLine.a at h
    simp only at h
    split at h
    · cases h; rfl
    · cases h
  · exact fun q avs H => pick1_none impl_RecordLine.G5_0 (rfl)
  · intro k q pt avs H x _ h
    rcases pick1_some h with ⟨rfl, h⟩ | h
    · exact impl_RecordLine.G5_s _ h
    cases h
  · intro k avs H o h
    try dsimp only at h
    split at h
    · cases h; exact impl_RecordLine.eq _ _ _ _ _
    · cases h

def impl_ReadRecord.a : FnA (Int × Int × Int × ByteArray × Bool) := ⟨36, [.cell 2 35, .tmp 3], .tup [.agg [.val, .val, .val, .val], .bool], [], [], fun x H => match x, H with
  | .tup [.agg [.v (.int .i64 r_0_0), .v (.int .i64 r_0_1), .v (.int .i64 r_0_2), .v (.string r_0_3)], .bs false r_1], [] => some (r_0_0, r_0_1, r_0_2, r_0_3, r_1)
  | _, _ => none⟩
def impl_ReadRecord.s : Spec := mkS [.val] (fun k avs H => match avs, H with
  | [.v (.string a0)], [] => some (impl_ReadRecord.f k a0)
  | _, _ => none) (fun r => (.tup [.agg [.v (.int .i64 r.1), .v (.int .i64 r.2.1), .v (.int .i64 r.2.2.1), .v (.string r.2.2.2.1)], .bs false r.2.2.2.2], []))
def impl_ReadRecord.E : Env := [((41, []), impl_Unsealed.s), ((46, []), impl_wordAt.s), ((42, []), impl_ReadShort.s), ((47, []), impl_RecordLine.s)]
def impl_ReadRecord.G (k p : Nat) (avs : List AV) (H : List HE) : Option (Int × Int × Int × ByteArray × Bool) := none
set_option maxRecDepth 100000 in
theorem impl_ReadRecord.eq (k : Nat) (a0 : ByteArray) : fromTop Tryd.prog impl_ReadRecord.E k impl_ReadRecord.a (impl_ReadRecord.G k) 1000 (bodyOf Tryd.prog 29) [.v (.string a0)] [] = impl_ReadRecord.f k a0 := by kernel_rfl
theorem impl_ReadRecord.E_ok : EnvOk Tryd.prog impl_ReadRecord.E := ⟨⟨impl_Unsealed.sound, callable_of (by kernel_rfl)⟩, ⟨impl_wordAt.sound, callable_of (by kernel_rfl)⟩, ⟨impl_ReadShort.sound, callable_of (by kernel_rfl)⟩, ⟨impl_RecordLine.sound, callable_of (by kernel_rfl)⟩, trivial⟩
theorem impl_ReadRecord.sound : Sound Tryd.prog 29 impl_ReadRecord.s := by
  refine func_sound (f := impl_ReadRecord.a) (G := impl_ReadRecord.G) (fn := Tryd.f29) (body := bodyOf Tryd.prog 29) 1000 (by kernel_rfl) impl_ReadRecord.E_ok Tryd.func29 (by kernel_rfl) (by kernel_rfl) (by kernel_rfl) (ptsOk_of (by kernel_rfl)) ?_ ?_ ?_ ?_
  · intro r H x h
    unfold impl_ReadRecord.a at h
    simp only at h
    split at h
    · cases h; rfl
    · cases h
  · intro q avs H; rfl
  · intro k q pt avs H x _ h; cases h
  · intro k avs H o h
    try dsimp only at h
    split at h
    · cases h; exact impl_ReadRecord.eq _ _
    · cases h

def impl_LogOf_1.a : FnA (Bool) := ⟨9, [.tmp 3], .bool, [], [], fun x H => match x, H with
  | .bs false r, [] => some r
  | _, _ => none⟩
def impl_LogOf_1.s : Spec := mkS [.agg [.val, .val, .val, .val], .elt (.pair (.int .i64) (.pair (.int .i64) (.pair (.int .i64) .str)))] (fun k avs H => match avs, H with
  | [.agg [.v (.int .i64 a0_0), .v (.int .i64 a0_1), .v (.int .i64 a0_2), .v (.string a0_3)], .elt (.pair (.int .i64) (.pair (.int .i64) (.pair (.int .i64) .str))) a1 0], [] => some (impl_LogOf_1.f a0_0 a0_1 a0_2 a0_3 a1)
  | _, _ => none) (fun r => (.bs false r, []))
def impl_LogOf_1.E : Env := []
def impl_LogOf_1.G (k p : Nat) (avs : List AV) (H : List HE) : Option (Bool) := none
set_option maxRecDepth 100000 in
theorem impl_LogOf_1.eq (k : Nat) (a0_0 : Int) (a0_1 : Int) (a0_2 : Int) (a0_3 : ByteArray) (a1 : Int × Int × Int × ByteArray) : fromTop Tryd.prog impl_LogOf_1.E k impl_LogOf_1.a (impl_LogOf_1.G k) 1000 (bodyOf Tryd.prog 32) [.agg [.v (.int .i64 a0_0), .v (.int .i64 a0_1), .v (.int .i64 a0_2), .v (.string a0_3)], .elt (.pair (.int .i64) (.pair (.int .i64) (.pair (.int .i64) .str))) a1 0] [] = impl_LogOf_1.f a0_0 a0_1 a0_2 a0_3 a1 := by kernel_rfl
theorem impl_LogOf_1.E_ok : EnvOk Tryd.prog impl_LogOf_1.E := trivial
theorem impl_LogOf_1.sound : Sound Tryd.prog 32 impl_LogOf_1.s := by
  refine func_sound (f := impl_LogOf_1.a) (G := impl_LogOf_1.G) (fn := Tryd.f32) (body := bodyOf Tryd.prog 32) 1000 (by kernel_rfl) impl_LogOf_1.E_ok Tryd.func32 (by kernel_rfl) (by kernel_rfl) (by kernel_rfl) (ptsOk_of (by kernel_rfl)) ?_ ?_ ?_ ?_
  · intro r H x h
    unfold impl_LogOf_1.a at h
    simp only at h
    split at h
    · cases h; rfl
    · cases h
  · intro q avs H; rfl
  · intro k q pt avs H x _ h; cases h
  · intro k avs H o h
    try dsimp only at h
    split at h
    · cases h; exact impl_LogOf_1.eq _ _ _ _ _ _
    · cases h

def slices_IndexFunc_implRecord_at_impl_LogOf_1.a : FnA (Int) := ⟨19, [.tmp 4], .val, [], [⟨6, [0, 1, 7, 8], [.con (.pair (.int .i64) (.pair (.int .i64) (.pair (.int .i64) .str))), .fn 32 0 [.elt (.pair (.int .i64) (.pair (.int .i64) (.pair (.int .i64) .str)))], .val, .val], []⟩], fun x H => match x, H with
  | .v (.int .i64 r), [] => some r
  | _, _ => none⟩
def slices_IndexFunc_implRecord_at_impl_LogOf_1.s : Spec := mkS [.con (.pair (.int .i64) (.pair (.int .i64) (.pair (.int .i64) .str))), .fn 32 0 [.elt (.pair (.int .i64) (.pair (.int .i64) (.pair (.int .i64) .str)))]] (fun k avs H => match avs, H with
  | [.con (.pair (.int .i64) (.pair (.int .i64) (.pair (.int .i64) .str))) a0, .fn 32 0 [.elt (.pair (.int .i64) (.pair (.int .i64) (.pair (.int .i64) .str))) a1_0 0]], [] => some (slices_IndexFunc_implRecord_at_impl_LogOf_1.f k a0 a1_0)
  | _, _ => none) (fun r => (.v (.int .i64 r), []))
def slices_IndexFunc_implRecord_at_impl_LogOf_1.E : Env := [((32, []), impl_LogOf_1.s)]
def slices_IndexFunc_implRecord_at_impl_LogOf_1.G6 (k : Nat) (avs : List AV) (H : List HE) : Option (Int) := match avs, H with
  | [.con (.pair (.int .i64) (.pair (.int .i64) (.pair (.int .i64) .str))) x0, .fn 32 0 [.elt (.pair (.int .i64) (.pair (.int .i64) (.pair (.int .i64) .str))) x1_0 0], .v (.int .i64 x7), .v (.int .i64 x8)], [] => slices_IndexFunc_implRecord_at_impl_LogOf_1.p6 k x0 x1_0 x7 x8
  | _, _ => none
def slices_IndexFunc_implRecord_at_impl_LogOf_1.G (k p : Nat) (avs : List AV) (H : List HE) : Option (Int) := (pick1 6 (slices_IndexFunc_implRecord_at_impl_LogOf_1.G6 k avs H) none p)
set_option maxRecDepth 100000 in
theorem slices_IndexFunc_implRecord_at_impl_LogOf_1.eq (k : Nat) (a0 : List (Int × Int × Int × ByteArray)) (a1_0 : Int × Int × Int × ByteArray) : fromTop Tryd.prog slices_IndexFunc_implRecord_at_impl_LogOf_1.E k slices_IndexFunc_implRecord_at_impl_LogOf_1.a (slices_IndexFunc_implRecord_at_impl_LogOf_1.G k) 1000 (bodyOf Tryd.prog 48) [.con (.pair (.int .i64) (.pair (.int .i64) (.pair (.int .i64) .str))) a0, .fn 32 0 [.elt (.pair (.int .i64) (.pair (.int .i64) (.pair (.int .i64) .str))) a1_0 0]] [] = slices_IndexFunc_implRecord_at_impl_LogOf_1.f k a0 a1_0 := by kernel_rfl
set_option maxRecDepth 100000 in
theorem slices_IndexFunc_implRecord_at_impl_LogOf_1.eq6 (k : Nat) (x0 : List (Int × Int × Int × ByteArray)) (x1_0 : Int × Int × Int × ByteArray) (x7 : Int) (x8 : Int) : fromPt Tryd.prog slices_IndexFunc_implRecord_at_impl_LogOf_1.E k slices_IndexFunc_implRecord_at_impl_LogOf_1.a (slices_IndexFunc_implRecord_at_impl_LogOf_1.G k) 1000 (bodyOf Tryd.prog 48) 6 [.con (.pair (.int .i64) (.pair (.int .i64) (.pair (.int .i64) .str))) x0, .fn 32 0 [.elt (.pair (.int .i64) (.pair (.int .i64) (.pair (.int .i64) .str))) x1_0 0], .v (.int .i64 x7), .v (.int .i64 x8)] [] = slices_IndexFunc_implRecord_at_impl_LogOf_1.p6 (k + 1) x0 x1_0 x7 x8 := by kernel_rfl
theorem slices_IndexFunc_implRecord_at_impl_LogOf_1.G6_0 {avs : List AV} {H : List HE} : slices_IndexFunc_implRecord_at_impl_LogOf_1.G6 0 avs H = none := by unfold slices_IndexFunc_implRecord_at_impl_LogOf_1.G6; split <;> rfl
theorem slices_IndexFunc_implRecord_at_impl_LogOf_1.G6_s (k : Nat) {avs : List AV} {H : List HE} {x : Int} (h : slices_IndexFunc_implRecord_at_impl_LogOf_1.G6 (k + 1) avs H = some x) : fromPt Tryd.prog slices_IndexFunc_implRecord_at_impl_LogOf_1.E k slices_IndexFunc_implRecord_at_impl_LogOf_1.a (slices_IndexFunc_implRecord_at_impl_LogOf_1.G k) 1000 (bodyOf Tryd.prog 48) 6 avs H = some x := by
  unfold slices_IndexFunc_implRecord_at_impl_LogOf_1.G6 at h
  split at h
  · rw [← h]; exact slices_IndexFunc_implRecord_at_impl_LogOf_1.eq6 _ _ _ _ _
  · cases h
theorem slices_IndexFunc_implRecord_at_impl_LogOf_1.E_ok : EnvOk Tryd.prog slices_IndexFunc_implRecord_at_impl_LogOf_1.E := ⟨⟨impl_LogOf_1.sound, callable_of (by kernel_rfl)⟩, trivial⟩
theorem slices_IndexFunc_implRecord_at_impl_LogOf_1.sound : Sound Tryd.prog 48 slices_IndexFunc_implRecord_at_impl_LogOf_1.s := by
  refine func_sound (f := slices_IndexFunc_implRecord_at_impl_LogOf_1.a) (G := slices_IndexFunc_implRecord_at_impl_LogOf_1.G) (fn := Tryd.f48) (body := bodyOf Tryd.prog 48) 1000 (by kernel_rfl) slices_IndexFunc_implRecord_at_impl_LogOf_1.E_ok Tryd.func48 (by kernel_rfl) (by kernel_rfl) (by kernel_rfl) (ptsOk_of (by kernel_rfl)) ?_ ?_ ?_ ?_
  · intro r H x h
    unfold slices_IndexFunc_implRecord_at_impl_LogOf_1.a at h
    simp only at h
    split at h
    · cases h; rfl
    · cases h
  · exact fun q avs H => pick1_none slices_IndexFunc_implRecord_at_impl_LogOf_1.G6_0 (rfl)
  · intro k q pt avs H x _ h
    rcases pick1_some h with ⟨rfl, h⟩ | h
    · exact slices_IndexFunc_implRecord_at_impl_LogOf_1.G6_s _ h
    cases h
  · intro k avs H o h
    try dsimp only at h
    split at h
    · cases h; exact slices_IndexFunc_implRecord_at_impl_LogOf_1.eq _ _ _
    · cases h

def slices_ContainsFunc_implRecord_at_impl_LogOf_1.a : FnA (Bool) := ⟨9, [.tmp 4], .bool, [], [], fun x H => match x, H with
  | .bs false r, [] => some r
  | _, _ => none⟩
def slices_ContainsFunc_implRecord_at_impl_LogOf_1.s : Spec := mkS [.con (.pair (.int .i64) (.pair (.int .i64) (.pair (.int .i64) .str))), .fn 32 0 [.elt (.pair (.int .i64) (.pair (.int .i64) (.pair (.int .i64) .str)))]] (fun k avs H => match avs, H with
  | [.con (.pair (.int .i64) (.pair (.int .i64) (.pair (.int .i64) .str))) a0, .fn 32 0 [.elt (.pair (.int .i64) (.pair (.int .i64) (.pair (.int .i64) .str))) a1_0 0]], [] => some (slices_ContainsFunc_implRecord_at_impl_LogOf_1.f k a0 a1_0)
  | _, _ => none) (fun r => (.bs false r, []))
def slices_ContainsFunc_implRecord_at_impl_LogOf_1.E : Env := [((48, [32]), slices_IndexFunc_implRecord_at_impl_LogOf_1.s)]
def slices_ContainsFunc_implRecord_at_impl_LogOf_1.G (k p : Nat) (avs : List AV) (H : List HE) : Option (Bool) := none
set_option maxRecDepth 100000 in
theorem slices_ContainsFunc_implRecord_at_impl_LogOf_1.eq (k : Nat) (a0 : List (Int × Int × Int × ByteArray)) (a1_0 : Int × Int × Int × ByteArray) : fromTop Tryd.prog slices_ContainsFunc_implRecord_at_impl_LogOf_1.E k slices_ContainsFunc_implRecord_at_impl_LogOf_1.a (slices_ContainsFunc_implRecord_at_impl_LogOf_1.G k) 1000 (bodyOf Tryd.prog 31) [.con (.pair (.int .i64) (.pair (.int .i64) (.pair (.int .i64) .str))) a0, .fn 32 0 [.elt (.pair (.int .i64) (.pair (.int .i64) (.pair (.int .i64) .str))) a1_0 0]] [] = slices_ContainsFunc_implRecord_at_impl_LogOf_1.f k a0 a1_0 := by kernel_rfl
theorem slices_ContainsFunc_implRecord_at_impl_LogOf_1.E_ok : EnvOk Tryd.prog slices_ContainsFunc_implRecord_at_impl_LogOf_1.E := ⟨⟨slices_IndexFunc_implRecord_at_impl_LogOf_1.sound, callable_of (by kernel_rfl)⟩, trivial⟩
theorem slices_ContainsFunc_implRecord_at_impl_LogOf_1.sound : Sound Tryd.prog 31 slices_ContainsFunc_implRecord_at_impl_LogOf_1.s := by
  refine func_sound (f := slices_ContainsFunc_implRecord_at_impl_LogOf_1.a) (G := slices_ContainsFunc_implRecord_at_impl_LogOf_1.G) (fn := Tryd.f31) (body := bodyOf Tryd.prog 31) 1000 (by kernel_rfl) slices_ContainsFunc_implRecord_at_impl_LogOf_1.E_ok Tryd.func31 (by kernel_rfl) (by kernel_rfl) (by kernel_rfl) (ptsOk_of (by kernel_rfl)) ?_ ?_ ?_ ?_
  · intro r H x h
    unfold slices_ContainsFunc_implRecord_at_impl_LogOf_1.a at h
    simp only at h
    split at h
    · cases h; rfl
    · cases h
  · intro q avs H; rfl
  · intro k q pt avs H x _ h; cases h
  · intro k avs H o h
    try dsimp only at h
    split at h
    · cases h; exact slices_ContainsFunc_implRecord_at_impl_LogOf_1.eq _ _ _
    · cases h

def impl_size_implRecord.a : FnA (Int) := ⟨5, [.tmp 2], .val, [], [], fun x H => match x, H with
  | .v (.int .i64 r), [] => some r
  | _, _ => none⟩
def impl_size_implRecord.s : Spec := mkS [.con (.pair (.int .i64) (.pair (.int .i64) (.pair (.int .i64) .str)))] (fun k avs H => match avs, H with
  | [.con (.pair (.int .i64) (.pair (.int .i64) (.pair (.int .i64) .str))) a0], [] => some (impl_size_implRecord.f a0)
  | _, _ => none) (fun r => (.v (.int .i64 r), []))
def impl_size_implRecord.E : Env := []
def impl_size_implRecord.G (k p : Nat) (avs : List AV) (H : List HE) : Option (Int) := none
set_option maxRecDepth 100000 in
theorem impl_size_implRecord.eq (k : Nat) (a0 : List (Int × Int × Int × ByteArray)) : fromTop Tryd.prog impl_size_implRecord.E k impl_size_implRecord.a (impl_size_implRecord.G k) 1000 (bodyOf Tryd.prog 33) [.con (.pair (.int .i64) (.pair (.int .i64) (.pair (.int .i64) .str))) a0] [] = impl_size_implRecord.f a0 := by kernel_rfl
theorem impl_size_implRecord.E_ok : EnvOk Tryd.prog impl_size_implRecord.E := trivial
theorem impl_size_implRecord.sound : Sound Tryd.prog 33 impl_size_implRecord.s := by
  refine func_sound (f := impl_size_implRecord.a) (G := impl_size_implRecord.G) (fn := Tryd.f33) (body := bodyOf Tryd.prog 33) 1000 (by kernel_rfl) impl_size_implRecord.E_ok Tryd.func33 (by kernel_rfl) (by kernel_rfl) (by kernel_rfl) (ptsOk_of (by kernel_rfl)) ?_ ?_ ?_ ?_
  · intro r H x h
    unfold impl_size_implRecord.a at h
    simp only at h
    split at h
    · cases h; rfl
    · cases h
  · intro q avs H; rfl
  · intro k q pt avs H x _ h; cases h
  · intro k avs H o h
    try dsimp only at h
    split at h
    · cases h; exact impl_size_implRecord.eq _ _
    · cases h

def impl_canLog.a : FnA (Bool) := ⟨19, [.tmp 4], .bool, [], [], fun x H => match x, H with
  | .bs false r, [] => some r
  | _, _ => none⟩
def impl_canLog.s : Spec := mkS [.agg [.val, .val, .val, .con .str], .val] (fun k avs H => match avs, H with
  | [.agg [.v (.int .i64 a0_0), .v (.int .i64 a0_1), .v (.int .i64 a0_2), .con .str a0_3], .v (.int .i64 a1)], [] => some (impl_canLog.f a0_0 a0_1 a0_2 a0_3 a1)
  | _, _ => none) (fun r => (.bs false r, []))
def impl_canLog.E : Env := [((49, []), impl_within.s)]
def impl_canLog.G (k p : Nat) (avs : List AV) (H : List HE) : Option (Bool) := none
set_option maxRecDepth 100000 in
theorem impl_canLog.eq (k : Nat) (a0_0 : Int) (a0_1 : Int) (a0_2 : Int) (a0_3 : List ByteArray) (a1 : Int) : fromTop Tryd.prog impl_canLog.E k impl_canLog.a (impl_canLog.G k) 1000 (bodyOf Tryd.prog 34) [.agg [.v (.int .i64 a0_0), .v (.int .i64 a0_1), .v (.int .i64 a0_2), .con .str a0_3], .v (.int .i64 a1)] [] = impl_canLog.f a0_0 a0_1 a0_2 a0_3 a1 := by kernel_rfl
theorem impl_canLog.E_ok : EnvOk Tryd.prog impl_canLog.E := ⟨⟨impl_within.sound, callable_of (by kernel_rfl)⟩, trivial⟩
theorem impl_canLog.sound : Sound Tryd.prog 34 impl_canLog.s := by
  refine func_sound (f := impl_canLog.a) (G := impl_canLog.G) (fn := Tryd.f34) (body := bodyOf Tryd.prog 34) 1000 (by kernel_rfl) impl_canLog.E_ok Tryd.func34 (by kernel_rfl) (by kernel_rfl) (by kernel_rfl) (ptsOk_of (by kernel_rfl)) ?_ ?_ ?_ ?_
  · intro r H x h
    unfold impl_canLog.a at h
    simp only at h
    split at h
    · cases h; rfl
    · cases h
  · intro q avs H; rfl
  · intro k q pt avs H x _ h; cases h
  · intro k avs H o h
    try dsimp only at h
    split at h
    · cases h; exact impl_canLog.eq _ _ _ _ _ _
    · cases h

def impl_LogOf.a : FnA (List (Int × Int × Int × ByteArray) × Bool) := ⟨74, [.tmp 4, .tmp 5], .tup [.row 35 (.pair (.int .i64) (.pair (.int .i64) (.pair (.int .i64) .str))), .bool], [], [⟨18, [1, 2, 6, 7, 19, 20], [.val, .box [.val, .val, .val, .con .str], .val, .row 35 (.pair (.int .i64) (.pair (.int .i64) (.pair (.int .i64) .str))), .val, .val], []⟩, ⟨34, [1, 2, 6, 7, 8, 9, 19, 20, 38], [.val, .box [.val, .val, .val, .con .str], .val, .row 35 (.pair (.int .i64) (.pair (.int .i64) (.pair (.int .i64) .str))), .val, .box [.val, .val, .val, .val], .val, .val, .bool], []⟩, ⟨42, [1, 2, 6, 7, 9, 19, 20, 67], [.val, .box [.val, .val, .val, .con .str], .val, .row 35 (.pair (.int .i64) (.pair (.int .i64) (.pair (.int .i64) .str))), .box [.val, .val, .val, .val], .val, .val, .bool], []⟩], fun x H => match x, H with
  | .tup [.own 0, .bs false r_1], [.row 35 (.pair (.int .i64) (.pair (.int .i64) (.pair (.int .i64) .str))) r_0] => some (r_0, r_1)
  | _, _ => none⟩
def impl_LogOf.s : Spec := mkS [.agg [.val, .val, .val, .con .str], .val] (fun k avs H => match avs, H with
  | [.agg [.v (.int .i64 a0_0), .v (.int .i64 a0_1), .v (.int .i64 a0_2), .con .str a0_3], .v (.string a1)], [] => some (impl_LogOf.f k a0_0 a0_1 a0_2 a0_3 a1)
  | _, _ => none) (fun r => (.tup [.own 0, .bs false r.2], [.row 35 (.pair (.int .i64) (.pair (.int .i64) (.pair (.int .i64) .str))) r.1]))
def impl_LogOf.E : Env := [((28, []), impl_EpochOf.s), ((30, []), impl_lineOf.s), ((29, []), impl_ReadRecord.s), ((31, [32]), slices_ContainsFunc_implRecord_at_impl_LogOf_1.s), ((33, []), impl_size_implRecord.s), ((34, []), impl_canLog.s)]
def impl_LogOf.G18 (k : Nat) (avs : List AV) (H : List HE) : Option (List (Int × Int × Int × ByteArray) × Bool) := match avs, H with
  | [.v (.string x1), .box 0 0, .v (.int .i64 x6), .own 1, .v (.int .i64 x19), .v (.int .i64 x20)], [.box [.v (.int .i64 x2_0), .v (.int .i64 x2_1), .v (.int .i64 x2_2), .con .str x2_3], .row 35 (.pair (.int .i64) (.pair (.int .i64) (.pair (.int .i64) .str))) x7] => impl_LogOf.p18 k x1 x2_0 x2_1 x2_2 x2_3 x6 x7 x19 x20
  | _, _ => none
def impl_LogOf.G34 (k : Nat) (avs : List AV) (H : List HE) : Option (List (Int × Int × Int × ByteArray) × Bool) := match avs, H with
  | [.v (.string x1), .box 0 0, .v (.int .i64 x6), .own 1, .v (.int .i64 x8), .box 2 0, .v (.int .i64 x19), .v (.int .i64 x20), .bs false x38], [.box [.v (.int .i64 x2_0), .v (.int .i64 x2_1), .v (.int .i64 x2_2), .con .str x2_3], .row 35 (.pair (.int .i64) (.pair (.int .i64) (.pair (.int .i64) .str))) x7, .box [.v (.int .i64 x9_0), .v (.int .i64 x9_1), .v (.int .i64 x9_2), .v (.string x9_3)]] => impl_LogOf.p34 k x1 x2_0 x2_1 x2_2 x2_3 x6 x7 x8 x9_0 x9_1 x9_2 x9_3 x19 x20 x38
  | _, _ => none
def impl_LogOf.G42 (k : Nat) (avs : List AV) (H : List HE) : Option (List (Int × Int × Int × ByteArray) × Bool) := match avs, H with
  | [.v (.string x1), .box 0 0, .v (.int .i64 x6), .own 1, .box 2 0, .v (.int .i64 x19), .v (.int .i64 x20), .bs false x67], [.box [.v (.int .i64 x2_0), .v (.int .i64 x2_1), .v (.int .i64 x2_2), .con .str x2_3], .row 35 (.pair (.int .i64) (.pair (.int .i64) (.pair (.int .i64) .str))) x7, .box [.v (.int .i64 x9_0), .v (.int .i64 x9_1), .v (.int .i64 x9_2), .v (.string x9_3)]] => impl_LogOf.p42 k x1 x2_0 x2_1 x2_2 x2_3 x6 x7 x9_0 x9_1 x9_2 x9_3 x19 x20 x67
  | _, _ => none
def impl_LogOf.G (k p : Nat) (avs : List AV) (H : List HE) : Option (List (Int × Int × Int × ByteArray) × Bool) := (pick1 18 (impl_LogOf.G18 k avs H) (pick1 34 (impl_LogOf.G34 k avs H) (pick1 42 (impl_LogOf.G42 k avs H) none p) p) p)
set_option maxRecDepth 100000 in
theorem impl_LogOf.eq (k : Nat) (a0_0 : Int) (a0_1 : Int) (a0_2 : Int) (a0_3 : List ByteArray) (a1 : ByteArray) : fromTop Tryd.prog impl_LogOf.E k impl_LogOf.a (impl_LogOf.G k) 1000 (bodyOf Tryd.prog 17) [.agg [.v (.int .i64 a0_0), .v (.int .i64 a0_1), .v (.int .i64 a0_2), .con .str a0_3], .v (.string a1)] [] = impl_LogOf.f k a0_0 a0_1 a0_2 a0_3 a1 := by kernel_rfl
set_option maxRecDepth 100000 in
theorem impl_LogOf.eq18 (k : Nat) (x1 : ByteArray) (x2_0 : Int) (x2_1 : Int) (x2_2 : Int) (x2_3 : List ByteArray) (x6 : Int) (x7 : List (Int × Int × Int × ByteArray)) (x19 : Int) (x20 : Int) : fromPt Tryd.prog impl_LogOf.E k impl_LogOf.a (impl_LogOf.G k) 1000 (bodyOf Tryd.prog 17) 18 [.v (.string x1), .box 0 0, .v (.int .i64 x6), .own 1, .v (.int .i64 x19), .v (.int .i64 x20)] [.box [.v (.int .i64 x2_0), .v (.int .i64 x2_1), .v (.int .i64 x2_2), .con .str x2_3], .row 35 (.pair (.int .i64) (.pair (.int .i64) (.pair (.int .i64) .str))) x7] = impl_LogOf.p18 (k + 1) x1 x2_0 x2_1 x2_2 x2_3 x6 x7 x19 x20 := by kernel_rfl
theorem impl_LogOf.G18_0 {avs : List AV} {H : List HE} : impl_LogOf.G18 0 avs H = none := by unfold impl_LogOf.G18; split <;> rfl
theorem impl_LogOf.G18_s (k : Nat) {avs : List AV} {H : List HE} {x : List (Int × Int × Int × ByteArray) × Bool} (h : impl_LogOf.G18 (k + 1) avs H = some x) : fromPt Tryd.prog impl_LogOf.E k impl_LogOf.a (impl_LogOf.G k) 1000 (bodyOf Tryd.prog 17) 18 avs H = some x := by
  unfold impl_LogOf.G18 at h
  split at h
  · rw [← h]; exact impl_LogOf.eq18 _ _ _ _ _ _ _ _ _ _
  · cases h
set_option maxRecDepth 100000 in
theorem impl_LogOf.eq34 (k : Nat) (x1 : ByteArray) (x2_0 : Int) (x2_1 : Int) (x2_2 : Int) (x2_3 : List ByteArray) (x6 : Int) (x7 : List (Int × Int × Int × ByteArray)) (x8 : Int) (x9_0 : Int) (x9_1 : Int) (x9_2 : Int) (x9_3 : ByteArray) (x19 : Int) (x20 : Int) (x38 : Bool) : fromPt Tryd.prog impl_LogOf.E k impl_LogOf.a (impl_LogOf.G k) 1000 (bodyOf Tryd.prog 17) 34 [.v (.string x1), .box 0 0, .v (.int .i64 x6), .own 1, .v (.int .i64 x8), .box 2 0, .v (.int .i64 x19), .v (.int .i64 x20), .bs false x38] [.box [.v (.int .i64 x2_0), .v (.int .i64 x2_1), .v (.int .i64 x2_2), .con .str x2_3], .row 35 (.pair (.int .i64) (.pair (.int .i64) (.pair (.int .i64) .str))) x7, .box [.v (.int .i64 x9_0), .v (.int .i64 x9_1), .v (.int .i64 x9_2), .v (.string x9_3)]] = impl_LogOf.p34 (k + 1) x1 x2_0 x2_1 x2_2 x2_3 x6 x7 x8 x9_0 x9_1 x9_2 x9_3 x19 x20 x38 := by kernel_rfl
theorem impl_LogOf.G34_0 {avs : List AV} {H : List HE} : impl_LogOf.G34 0 avs H = none := by unfold impl_LogOf.G34; split <;> rfl
theorem impl_LogOf.G34_s (k : Nat) {avs : List AV} {H : List HE} {x : List (Int × Int × Int × ByteArray) × Bool} (h : impl_LogOf.G34 (k + 1) avs H = some x) : fromPt Tryd.prog impl_LogOf.E k impl_LogOf.a (impl_LogOf.G k) 1000 (bodyOf Tryd.prog 17) 34 avs H = some x := by
  unfold impl_LogOf.G34 at h
  split at h
  · rw [← h]; exact impl_LogOf.eq34 _ _ _ _ _ _ _ _ _ _ _ _ _ _ _ _
  · cases h
set_option maxRecDepth 100000 in
theorem impl_LogOf.eq42 (k : Nat) (x1 : ByteArray) (x2_0 : Int) (x2_1 : Int) (x2_2 : Int) (x2_3 : List ByteArray) (x6 : Int) (x7 : List (Int × Int × Int × ByteArray)) (x9_0 : Int) (x9_1 : Int) (x9_2 : Int) (x9_3 : ByteArray) (x19 : Int) (x20 : Int) (x67 : Bool) : fromPt Tryd.prog impl_LogOf.E k impl_LogOf.a (impl_LogOf.G k) 1000 (bodyOf Tryd.prog 17) 42 [.v (.string x1), .box 0 0, .v (.int .i64 x6), .own 1, .box 2 0, .v (.int .i64 x19), .v (.int .i64 x20), .bs false x67] [.box [.v (.int .i64 x2_0), .v (.int .i64 x2_1), .v (.int .i64 x2_2), .con .str x2_3], .row 35 (.pair (.int .i64) (.pair (.int .i64) (.pair (.int .i64) .str))) x7, .box [.v (.int .i64 x9_0), .v (.int .i64 x9_1), .v (.int .i64 x9_2), .v (.string x9_3)]] = impl_LogOf.p42 (k + 1) x1 x2_0 x2_1 x2_2 x2_3 x6 x7 x9_0 x9_1 x9_2 x9_3 x19 x20 x67 := by kernel_rfl
theorem impl_LogOf.G42_0 {avs : List AV} {H : List HE} : impl_LogOf.G42 0 avs H = none := by unfold impl_LogOf.G42; split <;> rfl
theorem impl_LogOf.G42_s (k : Nat) {avs : List AV} {H : List HE} {x : List (Int × Int × Int × ByteArray) × Bool} (h : impl_LogOf.G42 (k + 1) avs H = some x) : fromPt Tryd.prog impl_LogOf.E k impl_LogOf.a (impl_LogOf.G k) 1000 (bodyOf Tryd.prog 17) 42 avs H = some x := by
  unfold impl_LogOf.G42 at h
  split at h
  · rw [← h]; exact impl_LogOf.eq42 _ _ _ _ _ _ _ _ _ _ _ _ _ _ _
  · cases h
theorem impl_LogOf.E_ok : EnvOk Tryd.prog impl_LogOf.E := ⟨⟨impl_EpochOf.sound, callable_of (by kernel_rfl)⟩, ⟨impl_lineOf.sound, callable_of (by kernel_rfl)⟩, ⟨impl_ReadRecord.sound, callable_of (by kernel_rfl)⟩, ⟨slices_ContainsFunc_implRecord_at_impl_LogOf_1.sound, callable_of (by kernel_rfl)⟩, ⟨impl_size_implRecord.sound, callable_of (by kernel_rfl)⟩, ⟨impl_canLog.sound, callable_of (by kernel_rfl)⟩, trivial⟩
theorem impl_LogOf.sound : Sound Tryd.prog 17 impl_LogOf.s := by
  refine func_sound (f := impl_LogOf.a) (G := impl_LogOf.G) (fn := Tryd.f17) (body := bodyOf Tryd.prog 17) 1000 (by kernel_rfl) impl_LogOf.E_ok Tryd.func17 (by kernel_rfl) (by kernel_rfl) (by kernel_rfl) (ptsOk_of (by kernel_rfl)) ?_ ?_ ?_ ?_
  · intro r H x h
    unfold impl_LogOf.a at h
    simp only at h
    split at h
    · cases h; rfl
    · cases h
  · exact fun q avs H => pick1_none impl_LogOf.G18_0 (pick1_none impl_LogOf.G34_0 (pick1_none impl_LogOf.G42_0 (rfl)))
  · intro k q pt avs H x _ h
    rcases pick1_some h with ⟨rfl, h⟩ | h
    · exact impl_LogOf.G18_s _ h
    rcases pick1_some h with ⟨rfl, h⟩ | h
    · exact impl_LogOf.G34_s _ h
    rcases pick1_some h with ⟨rfl, h⟩ | h
    · exact impl_LogOf.G42_s _ h
    cases h
  · intro k avs H o h
    try dsimp only at h
    split at h
    · cases h; exact impl_LogOf.eq _ _ _ _ _ _
    · cases h

def impl_replaced.a : FnA (ByteArray) := ⟨19, [.tmp 6], .val, [], [], fun x H => match x, H with
  | .v (.string r), [] => some r
  | _, _ => none⟩
def impl_replaced.s : Spec := mkS [.val, .val, .val] (fun k avs H => match avs, H with
  | [.v (.string a0), .v (.int .i64 a1), .v (.string a2)], [] => some (impl_replaced.f a0 a1 a2)
  | _, _ => none) (fun r => (.v (.string r), []))
def impl_replaced.E : Env := []
def impl_replaced.G (k p : Nat) (avs : List AV) (H : List HE) : Option (ByteArray) := none
set_option maxRecDepth 100000 in
theorem impl_replaced.eq (k : Nat) (a0 : ByteArray) (a1 : Int) (a2 : ByteArray) : fromTop Tryd.prog impl_replaced.E k impl_replaced.a (impl_replaced.G k) 1000 (bodyOf Tryd.prog 18) [.v (.string a0), .v (.int .i64 a1), .v (.string a2)] [] = impl_replaced.f a0 a1 a2 := by kernel_rfl
theorem impl_replaced.E_ok : EnvOk Tryd.prog impl_replaced.E := trivial
theorem impl_replaced.sound : Sound Tryd.prog 18 impl_replaced.s := by
  refine func_sound (f := impl_replaced.a) (G := impl_replaced.G) (fn := Tryd.f18) (body := bodyOf Tryd.prog 18) 1000 (by kernel_rfl) impl_replaced.E_ok Tryd.func18 (by kernel_rfl) (by kernel_rfl) (by kernel_rfl) (ptsOk_of (by kernel_rfl)) ?_ ?_ ?_ ?_
  · intro r H x h
    unfold impl_replaced.a at h
    simp only at h
    split at h
    · cases h; rfl
    · cases h
  · intro q avs H; rfl
  · intro k q pt avs H x _ h; cases h
  · intro k avs H o h
    try dsimp only at h
    split at h
    · cases h; exact impl_replaced.eq _ _ _ _
    · cases h

def impl_undone.a : FnA (Int × Int × Int × List ByteArray × ByteArray × Bool) := ⟨48, [.cell 2 27, .tmp 3, .tmp 4], .tup [.agg [.val, .val, .val, .row 9 .str], .val, .bool], [], [⟨26, [0, 2, 5, 7, 8], [.val, .box [.val, .val, .val, .val], .box [.val, .val, .val, .row 9 .str], .row 35 (.pair (.int .i64) (.pair (.int .i64) (.pair (.int .i64) .str))), .val], []⟩], fun x H => match x, H with
  | .tup [.agg [.v (.int .i64 r_0_0), .v (.int .i64 r_0_1), .v (.int .i64 r_0_2), .own 0], .v (.string r_1), .bs false r_2], [.row 9 .str r_0_3] => some (r_0_0, r_0_1, r_0_2, r_0_3, r_1, r_2)
  | _, _ => none⟩
def impl_undone.s : Spec := mkS [.val] (fun k avs H => match avs, H with
  | [.v (.string a0)], [] => some (impl_undone.f k a0)
  | _, _ => none) (fun r => (.tup [.agg [.v (.int .i64 r.1), .v (.int .i64 r.2.1), .v (.int .i64 r.2.2.1), .own 0], .v (.string r.2.2.2.2.1), .bs false r.2.2.2.2.2], [.row 9 .str r.2.2.2.1]))
def impl_undone.E : Env := [((16, []), impl_ConfigOf.s), ((17, []), impl_LogOf.s), ((18, []), impl_replaced.s)]
def impl_undone.G26 (k : Nat) (avs : List AV) (H : List HE) : Option (Int × Int × Int × List ByteArray × ByteArray × Bool) := match avs, H with
  | [.v (.string x0), .box 0 0, .box 1 0, .own 3, .v (.int .i64 x8)], [.box [.v (.int .i64 x2_0), .v (.int .i64 x2_1), .v (.int .i64 x2_2), .v (.slice none 0 0)], .box [.v (.int .i64 x5_0), .v (.int .i64 x5_1), .v (.int .i64 x5_2), .own 2], .row 9 .str x5_3, .row 35 (.pair (.int .i64) (.pair (.int .i64) (.pair (.int .i64) .str))) x7] => impl_undone.p26 k x0 x2_0 x2_1 x2_2 x5_0 x5_1 x5_2 x5_3 x7 x8
  | _, _ => none
def impl_undone.G (k p : Nat) (avs : List AV) (H : List HE) : Option (Int × Int × Int × List ByteArray × ByteArray × Bool) := (pick1 26 (impl_undone.G26 k avs H) none p)
set_option maxRecDepth 100000 in
theorem impl_undone.eq (k : Nat) (a0 : ByteArray) : fromTop Tryd.prog impl_undone.E k impl_undone.a (impl_undone.G k) 1000 (bodyOf Tryd.prog 9) [.v (.string a0)] [] = impl_undone.f k a0 := by kernel_rfl
set_option maxRecDepth 100000 in
theorem impl_undone.eq26 (k : Nat) (x0 : ByteArray) (x2_0 : Int) (x2_1 : Int) (x2_2 : Int) (x5_0 : Int) (x5_1 : Int) (x5_2 : Int) (x5_3 : List ByteArray) (x7 : List (Int × Int × Int × ByteArray)) (x8 : Int) : fromPt Tryd.prog impl_undone.E k impl_undone.a (impl_undone.G k) 1000 (bodyOf Tryd.prog 9) 26 [.v (.string x0), .box 0 0, .box 1 0, .own 3, .v (.int .i64 x8)] [.box [.v (.int .i64 x2_0), .v (.int .i64 x2_1), .v (.int .i64 x2_2), .v (.slice none 0 0)], .box [.v (.int .i64 x5_0), .v (.int .i64 x5_1), .v (.int .i64 x5_2), .own 2], .row 9 .str x5_3, .row 35 (.pair (.int .i64) (.pair (.int .i64) (.pair (.int .i64) .str))) x7] = impl_undone.p26 (k + 1) x0 x2_0 x2_1 x2_2 x5_0 x5_1 x5_2 x5_3 x7 x8 := by kernel_rfl
theorem impl_undone.G26_0 {avs : List AV} {H : List HE} : impl_undone.G26 0 avs H = none := by unfold impl_undone.G26; split <;> rfl
theorem impl_undone.G26_s (k : Nat) {avs : List AV} {H : List HE} {x : Int × Int × Int × List ByteArray × ByteArray × Bool} (h : impl_undone.G26 (k + 1) avs H = some x) : fromPt Tryd.prog impl_undone.E k impl_undone.a (impl_undone.G k) 1000 (bodyOf Tryd.prog 9) 26 avs H = some x := by
  unfold impl_undone.G26 at h
  split at h
  · rw [← h]; exact impl_undone.eq26 _ _ _ _ _ _ _ _ _ _ _
  · cases h
theorem impl_undone.E_ok : EnvOk Tryd.prog impl_undone.E := ⟨⟨impl_ConfigOf.sound, callable_of (by kernel_rfl)⟩, ⟨impl_LogOf.sound, callable_of (by kernel_rfl)⟩, ⟨impl_replaced.sound, callable_of (by kernel_rfl)⟩, trivial⟩
theorem impl_undone.sound : Sound Tryd.prog 9 impl_undone.s := by
  refine func_sound (f := impl_undone.a) (G := impl_undone.G) (fn := Tryd.f9) (body := bodyOf Tryd.prog 9) 1000 (by kernel_rfl) impl_undone.E_ok Tryd.func9 (by kernel_rfl) (by kernel_rfl) (by kernel_rfl) (ptsOk_of (by kernel_rfl)) ?_ ?_ ?_ ?_
  · intro r H x h
    unfold impl_undone.a at h
    simp only at h
    split at h
    · cases h; rfl
    · cases h
  · exact fun q avs H => pick1_none impl_undone.G26_0 (rfl)
  · intro k q pt avs H x _ h
    rcases pick1_some h with ⟨rfl, h⟩ | h
    · exact impl_undone.G26_s _ h
    cases h
  · intro k avs H o h
    try dsimp only at h
    split at h
    · cases h; exact impl_undone.eq _ _
    · cases h

def impl_Undone.a : FnA (ByteArray × Bool) := ⟨15, [.tmp 2, .tmp 3], .tup [.val, .bool], [], [], fun x H => match x, H with
  | .tup [.v (.string r_0), .bs false r_1], [] => some (r_0, r_1)
  | _, _ => none⟩
def impl_Undone.s : Spec := mkS [.val] (fun k avs H => match avs, H with
  | [.v (.string a0)], [] => some (impl_Undone.f k a0)
  | _, _ => none) (fun r => (.tup [.v (.string r.1), .bs false r.2], []))
def impl_Undone.E : Env := [((9, []), impl_undone.s)]
def impl_Undone.G (k p : Nat) (avs : List AV) (H : List HE) : Option (ByteArray × Bool) := none
set_option maxRecDepth 100000 in
theorem impl_Undone.eq (k : Nat) (a0 : ByteArray) : fromTop Tryd.prog impl_Undone.E k impl_Undone.a (impl_Undone.G k) 1000 (bodyOf Tryd.prog 5) [.v (.string a0)] [] = impl_Undone.f k a0 := by kernel_rfl
theorem impl_Undone.E_ok : EnvOk Tryd.prog impl_Undone.E := ⟨⟨impl_undone.sound, callable_of (by kernel_rfl)⟩, trivial⟩
theorem impl_Undone.sound : Sound Tryd.prog 5 impl_Undone.s := by
  refine func_sound (f := impl_Undone.a) (G := impl_Undone.G) (fn := Tryd.f5) (body := bodyOf Tryd.prog 5) 1000 (by kernel_rfl) impl_Undone.E_ok Tryd.func5 (by kernel_rfl) (by kernel_rfl) (by kernel_rfl) (ptsOk_of (by kernel_rfl)) ?_ ?_ ?_ ?_
  · intro r H x h
    unfold impl_Undone.a at h
    simp only at h
    split at h
    · cases h; rfl
    · cases h
  · intro q avs H; rfl
  · intro k q pt avs H x _ h; cases h
  · intro k avs H o h
    try dsimp only at h
    split at h
    · cases h; exact impl_Undone.eq _ _
    · cases h
end
end Go.Proofs.YtmciidoohbmipaaDoor.Abs
namespace Go.Proofs.YtmciidoohbmipaaDoor.Abs
open Go Go.RowKit
set_option linter.unusedVariables false
set_option linter.unusedSectionVars false
set_option linter.unusedSimpArgs false
noncomputable section
def laws_FnExactUndone.a : FnA (Bool) := ⟨28, [.tmp 2], .bool, [], [], fun x H => match x, H with
  | .bs false r, [] => some r
  | _, _ => none⟩
def laws_FnExactUndone.s : Spec := mkS [.val] (fun k avs H => match avs, H with
  | [.v (.string a0)], [] => some (laws_FnExactUndone.f k a0)
  | _, _ => none) (fun r => (.bs false r, []))
def laws_FnExactUndone.E : Env := [((4, []), spec_Undone.s), ((5, []), impl_Undone.s)]
def laws_FnExactUndone.G (k p : Nat) (avs : List AV) (H : List HE) : Option (Bool) := none
set_option maxRecDepth 100000 in
theorem laws_FnExactUndone.eq (k : Nat) (a0 : ByteArray) : fromTop Tryd.prog laws_FnExactUndone.E k laws_FnExactUndone.a (laws_FnExactUndone.G k) 1000 (bodyOf Tryd.prog 3) [.v (.string a0)] [] = laws_FnExactUndone.f k a0 := by kernel_rfl
theorem laws_FnExactUndone.E_ok : EnvOk Tryd.prog laws_FnExactUndone.E := ⟨⟨spec_Undone.sound, callable_of (by kernel_rfl)⟩, ⟨impl_Undone.sound, callable_of (by kernel_rfl)⟩, trivial⟩
theorem laws_FnExactUndone.sound : Sound Tryd.prog 3 laws_FnExactUndone.s := by
  refine func_sound (f := laws_FnExactUndone.a) (G := laws_FnExactUndone.G) (fn := Tryd.f3) (body := bodyOf Tryd.prog 3) 1000 (by kernel_rfl) laws_FnExactUndone.E_ok Tryd.func3 (by kernel_rfl) (by kernel_rfl) (by kernel_rfl) (ptsOk_of (by kernel_rfl)) ?_ ?_ ?_ ?_
  · intro r H x h
    unfold laws_FnExactUndone.a at h
    simp only at h
    split at h
    · cases h; rfl
    · cases h
  · intro q avs H; rfl
  · intro k q pt avs H x _ h; cases h
  · intro k avs H o h
    try dsimp only at h
    split at h
    · cases h; exact laws_FnExactUndone.eq _ _
    · cases h
end
end Go.Proofs.YtmciidoohbmipaaDoor.Abs
namespace Go.Proofs.YtmciidoohbmipaaDoor.fnExactUndone
open Go.ChangeShapes Go.WideShapes Go.ChangeAt Go.RowKit
open Go.ChangeMaps (open_string shut_string)
set_option linter.unusedVariables false
theorem own : ownKnob Tryd.prog.godebug = none := by kernel_rfl
theorem laidOut : laidOutB Tryd.prog = true := by kernel_rfl
set_option maxRecDepth 100000 in
theorem lifted (os : Os) (started : os.Started) (H : Type) (enc : TypeId × Value → H) :
    ReturnsInHanded {} Tryd.checked os 3 .any (fun w args => (Rows.fnExactUndoneSpec.pre enc Tryd.prog Tryd.f3 Rows.fnExactUndoneRow.domain false w args ∧ laidMetH Tryd.prog Rows.fnExactUndoneRow.laid w) ∧ sizedMet enc Tryd.prog Tryd.f3 (OpenSpec.ofChange Rows.fnExactUndoneSpec) false w args) (Rows.fnExactUndoneSpec.post enc Tryd.prog Tryd.f3 false true false false) := by
  refine returnsInHanded_of_change_and (C := Tryd.checked) (X := fun w _ => laidMetH Tryd.prog Rows.fnExactUndoneRow.laid w) (fun _ _ _ hh h => h.of_heap hh) own started (by kernel_rfl) Tryd.func3
    (ChangeSpec.witness_shaped (enc := enc) (C := Tryd.checked) (os := os) (X := fun w _ => laidMetH Tryd.prog Rows.fnExactUndoneRow.laid w) false (World.laidAll Tryd.prog os Rows.fnExactUndoneRow.laid) #[.string ByteArray.empty] 8 (World.laidAll_os _ _ _)
      (World.shaped_of_ZipB (by kernel_rfl) (by kernel_rfl)) (by kernel_rfl) (by kernel_rfl) (by kernel_rfl)
      (by rw [MakeChecks.laidMetH_plain _ _ _ (by kernel_rfl)]; exact laidMet_laidAll _ (by kernel_rfl) (by kernel_rfl))) ?_
  intro W base args ds gs before hval0 hW hcnd hsz0 _ _
  have hval : ∀ (j : Nat) t v, Tryd.f3.params[j]? = some t → args[j]? = some v → Value.okWide Tryd.prog W .any base t v := hval0
  have hW' := hW
  obtain ⟨p, q, hA0, hV, rfl, hfz, hnd⟩ := hW
  have hA : DataW.TrodAll enc Tryd.prog W 0 (fun _ => true) true Tryd.f3.params.toList args.toList ds p := hA0
  rw [Tryd.params3] at hA hval
  obtain ⟨v0, vs0, d0, ds0, p0, q0, hargs, rfl, rfl, h0, r0⟩ := trodAll_cons hA
  obtain ⟨rfl, rfl, rfl⟩ := trodAll_nil r0
  obtain rfl : args = #[v0] := by cases args; simp_all
  obtain ⟨rfl, rfl⟩ := trodVars_none hV
  have hc0 := Abs.okWide_cell (by kernel_rfl) (hval 0 9 v0 rfl rfl)
  have k0 := h0
  have lt0 : ∀ x ∈ p0, x.block < W.heap.size := by obtain ⟨m, hm⟩ := k0; exact DataW.trod_lt m _ _ _ hm
  obtain ⟨fuel0, hf0⟩ := h0
  obtain ⟨x0, kr0, ok0⟩ := Abs.opens (M := Abs.Mut (fun _ => False) (Abs.hpOf []) (fun _ => undef)) (Abs.not_mut _) 9 9 .str (by kernel_rfl) _ _ _ hf0
  clear hA0 hval0 hsz0
  obtain ⟨k, hP⟩ := Abs.Pu.FnExactUndone x0 ok0
  refine (Abs.law_calls Abs.laws_FnExactUndone.sound (k := k) (avs := [Abs.argAV false (Abs.Ty.cells .str x0)]) (c := ⟨Bool, Abs.laws_FnExactUndone.f k x0, fun r => (.bs false r, [])⟩) (x := true) (Abs.mkS_pat rfl) hP rfl (w := W) (vals := [v0]) ⟨_, _, rfl, Abs.arg_cell (t := .str) hc0 kr0 rfl, rfl⟩).mono fun e W' ⟨he, bel⟩ => ?_
  subst he
  exact ⟨_, rfl, _, _, _, [], _, [], hW', trodAll_mk1 (shut_bool Tryd.underlying4 _), (trodAll_cons_mk (Below.trod laidOut (by kernel_rfl) (of_decide_eq_true (by kernel_rfl)) k0 bel lt0) trodAll_mk0), rfl, bel.frame _, fun h => by cases h⟩
theorem over : Rows.fnExactUndoneRow.holds Tryd.pinned (OpenSpec.ofChange Rows.fnExactUndoneSpec) :=
  OpenClaim.holds_of_wide 3 Tryd.f3 rfl rfl rfl rfl rfl rfl rfl ⟨rfl, rfl, rfl, rfl, rfl⟩ rfl rfl rfl rfl rfl (by kernel_rfl) Tryd.func3 (by kernel_rfl)
    (of_decide_eq_true (by kernel_rfl)) (by unfold Func.isWrapper; first | (rw [if_pos (by decide +kernel)]; kernel_rfl) | (rw [if_neg (by decide +kernel)]; exact ⟨rfl, rfl⟩))
    (fun os started H enc _ => lifted os started H enc)
theorem card : Rows.FnExactUndoneCardSaid :=
  Claim7.holds_tied_plain_at .later [] [.data, .pinned] true (true, "9f6a83a1d0ef893aecebcde76e82313a7960159bddf5f2ee964b1bbe48dfa407") false over (fun _ h => by cases h) (by kernel_rfl) (fun _ h => by cases h) fnExactUndone_row_tie rfl ⟨rfl, rfl⟩ (by kernel_rfl) rfl
    (fun f fn hf hfn => by
      obtain rfl : f = 3 := Option.some.inj ((show Tryd.prog.funcNamed "loop.example/g00648/laws.FnExactUndone" = some 3 by kernel_rfl).symm.trans hf) |>.symm
      obtain rfl : fn = Tryd.f3 := (Option.some.inj (Tryd.func3.symm.trans hfn)).symm
      exact ⟨by kernel_rfl, fun j t ht => by
        rw [Tryd.params3] at ht
        have hm : t ∈ [9] := by
          have hm_ := Array.mem_of_getElem? ht
          simpa using hm_
        have hall : ([9].all fun u => !Tryd.prog.wantsStandIn u) = true := by kernel_rfl
        exact (show Tryd.prog.wantsStandIn t = false by simpa using List.all_eq_true.1 hall t hm)⟩)
    (by kernel_rfl)
#print axioms card
end Go.Proofs.YtmciidoohbmipaaDoor.fnExactUndone
namespace Go.Proofs.YtmciidoohbmipaaDoor
/-- The row, under a short name, for the claim. -/
theorem fnExactUndone_holds : Rows.FnExactUndoneCardSaid := fnExactUndone.card
end Go.Proofs.YtmciidoohbmipaaDoor
