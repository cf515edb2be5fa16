/- They are sound. -/
import Derived.Test.YtlljkankongifaaDoorShelfSt
import Derived.Shelf.Strings.SlTrimAscii
import Derived.Lib.Repeat
import Derived.Test.YtlljkankongifaaDoorF3
import Derived.Test.YtlljkankongifaaDoorProg
namespace Go.Proofs.YtlljkankongifaaDoor.Abs
open Go Go.RowKit
set_option linter.unusedVariables false
set_option linter.unusedSectionVars false
set_option linter.unusedSimpArgs false
noncomputable section
def spec_ReadShort.a : FnA (Int × Bool) := ⟨15, [.tmp 2, .tmp 3], .tup [.val, .bool], [], [], fun x H => match x, H with
  | .tup [.v (.int .i64 r_0), .bs false r_1], [] => some (r_0, r_1)
  | _, _ => none⟩
def spec_ReadShort.s : Spec := mkS [.val] (fun k avs H => match avs, H with
  | [.v (.string a0)], [] => some (spec_ReadShort.f a0)
  | _, _ => none) (fun r => (.tup [.v (.int .i64 r.1), .bs false r.2], []))
def spec_ReadShort.E : Env := []
def spec_ReadShort.G (k p : Nat) (avs : List AV) (H : List HE) : Option (Int × Bool) := none
set_option maxRecDepth 100000 in
theorem spec_ReadShort.eq (k : Nat) (a0 : ByteArray) : fromTop Tryd.prog spec_ReadShort.E k spec_ReadShort.a (spec_ReadShort.G k) 1000 (bodyOf Tryd.prog 98) [.v (.string a0)] [] = spec_ReadShort.f a0 := by kernel_rfl
theorem spec_ReadShort.E_ok : EnvOk Tryd.prog spec_ReadShort.E := trivial
theorem spec_ReadShort.sound : Sound Tryd.prog 98 spec_ReadShort.s := by
  refine func_sound (f := spec_ReadShort.a) (G := spec_ReadShort.G) (fn := Tryd.f98) (body := bodyOf Tryd.prog 98) 1000 (by kernel_rfl) spec_ReadShort.E_ok Tryd.func98 (by kernel_rfl) (by kernel_rfl) (by kernel_rfl) (ptsOk_of (by kernel_rfl)) ?_ ?_ ?_ ?_
  · intro r H x h
    unfold spec_ReadShort.a at h
    simp only at h
    split at h
    · cases h; rfl
    · cases h
  · intro q avs H; rfl
  · intro k q pt avs H x _ h; cases h
  · intro k avs H o h
    try dsimp only at h
    split at h
    · cases h; exact spec_ReadShort.eq _ _
    · cases h

def spec_l1In.a : FnA (Bool) := ⟨15, [.tmp 6], .bool, [], [], fun x H => match x, H with
  | .bs false r, [] => some r
  | _, _ => none⟩
def spec_l1In.s : Spec := mkS [.val, .val, .val] (fun k avs H => match avs, H with
  | [.v (.int .i64 a0), .v (.int .i64 a1), .v (.int .i64 a2)], [] => some (spec_l1In.f a0 a1 a2)
  | _, _ => none) (fun r => (.bs false r, []))
def spec_l1In.E : Env := []
def spec_l1In.G (k p : Nat) (avs : List AV) (H : List HE) : Option (Bool) := none
set_option maxRecDepth 100000 in
theorem spec_l1In.eq (k : Nat) (a0 : Int) (a1 : Int) (a2 : Int) : fromTop Tryd.prog spec_l1In.E k spec_l1In.a (spec_l1In.G k) 1000 (bodyOf Tryd.prog 44) [.v (.int .i64 a0), .v (.int .i64 a1), .v (.int .i64 a2)] [] = spec_l1In.f a0 a1 a2 := by kernel_rfl
theorem spec_l1In.E_ok : EnvOk Tryd.prog spec_l1In.E := trivial
theorem spec_l1In.sound : Sound Tryd.prog 44 spec_l1In.s := by
  refine func_sound (f := spec_l1In.a) (G := spec_l1In.G) (fn := Tryd.f44) (body := bodyOf Tryd.prog 44) 1000 (by kernel_rfl) spec_l1In.E_ok Tryd.func44 (by kernel_rfl) (by kernel_rfl) (by kernel_rfl) (ptsOk_of (by kernel_rfl)) ?_ ?_ ?_ ?_
  · intro r H x h
    unfold spec_l1In.a at h
    simp only at h
    split at h
    · cases h; rfl
    · cases h
  · intro q avs H; rfl
  · intro k q pt avs H x _ h; cases h
  · intro k avs H o h
    try dsimp only at h
    split at h
    · cases h; exact spec_l1In.eq _ _ _ _
    · cases h

def spec_l3Type.a : FnA (Bool) := ⟨23, [.tmp 2], .bool, [], [⟨6, [0, 3], [.val, .val], []⟩], fun x H => match x, H with
  | .bs false r, [] => some r
  | _, _ => none⟩
def spec_l3Type.s : Spec := mkS [.val] (fun k avs H => match avs, H with
  | [.v (.string a0)], [] => some (spec_l3Type.f k a0)
  | _, _ => none) (fun r => (.bs false r, []))
def spec_l3Type.E : Env := [((44, []), spec_l1In.s)]
def spec_l3Type.G6 (k : Nat) (avs : List AV) (H : List HE) : Option (Bool) := match avs, H with
  | [.v (.string x0), .v (.int .i64 x3)], [] => spec_l3Type.p6 k x0 x3
  | _, _ => none
def spec_l3Type.G (k p : Nat) (avs : List AV) (H : List HE) : Option (Bool) := (pick1 6 (spec_l3Type.G6 k avs H) none p)
set_option maxRecDepth 100000 in
theorem spec_l3Type.eq (k : Nat) (a0 : ByteArray) : fromTop Tryd.prog spec_l3Type.E k spec_l3Type.a (spec_l3Type.G k) 1000 (bodyOf Tryd.prog 116) [.v (.string a0)] [] = spec_l3Type.f k a0 := by kernel_rfl
set_option maxRecDepth 100000 in
theorem spec_l3Type.eq6 (k : Nat) (x0 : ByteArray) (x3 : Int) : fromPt Tryd.prog spec_l3Type.E k spec_l3Type.a (spec_l3Type.G k) 1000 (bodyOf Tryd.prog 116) 6 [.v (.string x0), .v (.int .i64 x3)] [] = spec_l3Type.p6 (k + 1) x0 x3 := by kernel_rfl
theorem spec_l3Type.G6_0 {avs : List AV} {H : List HE} : spec_l3Type.G6 0 avs H = none := by unfold spec_l3Type.G6; split <;> rfl
theorem spec_l3Type.G6_s (k : Nat) {avs : List AV} {H : List HE} {x : Bool} (h : spec_l3Type.G6 (k + 1) avs H = some x) : fromPt Tryd.prog spec_l3Type.E k spec_l3Type.a (spec_l3Type.G k) 1000 (bodyOf Tryd.prog 116) 6 avs H = some x := by
  unfold spec_l3Type.G6 at h
  split at h
  · rw [← h]; exact spec_l3Type.eq6 _ _ _
  · cases h
theorem spec_l3Type.E_ok : EnvOk Tryd.prog spec_l3Type.E := ⟨⟨spec_l1In.sound, callable_of (by kernel_rfl)⟩, trivial⟩
theorem spec_l3Type.sound : Sound Tryd.prog 116 spec_l3Type.s := by
  refine func_sound (f := spec_l3Type.a) (G := spec_l3Type.G) (fn := Tryd.f116) (body := bodyOf Tryd.prog 116) 1000 (by kernel_rfl) spec_l3Type.E_ok Tryd.func116 (by kernel_rfl) (by kernel_rfl) (by kernel_rfl) (ptsOk_of (by kernel_rfl)) ?_ ?_ ?_ ?_
  · intro r H x h
    unfold spec_l3Type.a at h
    simp only at h
    split at h
    · cases h; rfl
    · cases h
  · exact fun q avs H => pick1_none spec_l3Type.G6_0 (rfl)
  · intro k q pt avs H x _ h
    rcases pick1_some h with ⟨rfl, h⟩ | h
    · exact spec_l3Type.G6_s _ h
    cases h
  · intro k avs H o h
    try dsimp only at h
    split at h
    · cases h; exact spec_l3Type.eq _ _
    · cases h

def spec_TypesOk.a : FnA (Bool) := ⟨20, [.tmp 2], .bool, [], [⟨14, [0, 3], [.con .str, .val], []⟩], fun x H => match x, H with
  | .bs false r, [] => some r
  | _, _ => none⟩
def spec_TypesOk.s : Spec := mkS [.con .str] (fun k avs H => match avs, H with
  | [.con .str a0], [] => some (spec_TypesOk.f k a0)
  | _, _ => none) (fun r => (.bs false r, []))
def spec_TypesOk.E : Env := [((44, []), spec_l1In.s), ((116, []), spec_l3Type.s)]
def spec_TypesOk.G14 (k : Nat) (avs : List AV) (H : List HE) : Option (Bool) := match avs, H with
  | [.con .str x0, .v (.int .i64 x3)], [] => spec_TypesOk.p14 k x0 x3
  | _, _ => none
def spec_TypesOk.G (k p : Nat) (avs : List AV) (H : List HE) : Option (Bool) := (pick1 14 (spec_TypesOk.G14 k avs H) none p)
set_option maxRecDepth 100000 in
theorem spec_TypesOk.eq (k : Nat) (a0 : List ByteArray) : fromTop Tryd.prog spec_TypesOk.E k spec_TypesOk.a (spec_TypesOk.G k) 1000 (bodyOf Tryd.prog 80) [.con .str a0] [] = spec_TypesOk.f k a0 := by kernel_rfl
set_option maxRecDepth 100000 in
theorem spec_TypesOk.eq14 (k : Nat) (x0 : List ByteArray) (x3 : Int) : fromPt Tryd.prog spec_TypesOk.E k spec_TypesOk.a (spec_TypesOk.G k) 1000 (bodyOf Tryd.prog 80) 14 [.con .str x0, .v (.int .i64 x3)] [] = spec_TypesOk.p14 (k + 1) x0 x3 := by kernel_rfl
theorem spec_TypesOk.G14_0 {avs : List AV} {H : List HE} : spec_TypesOk.G14 0 avs H = none := by unfold spec_TypesOk.G14; split <;> rfl
theorem spec_TypesOk.G14_s (k : Nat) {avs : List AV} {H : List HE} {x : Bool} (h : spec_TypesOk.G14 (k + 1) avs H = some x) : fromPt Tryd.prog spec_TypesOk.E k spec_TypesOk.a (spec_TypesOk.G k) 1000 (bodyOf Tryd.prog 80) 14 avs H = some x := by
  unfold spec_TypesOk.G14 at h
  split at h
  · rw [← h]; exact spec_TypesOk.eq14 _ _ _
  · cases h
theorem spec_TypesOk.E_ok : EnvOk Tryd.prog spec_TypesOk.E := ⟨⟨spec_l1In.sound, callable_of (by kernel_rfl)⟩, ⟨spec_l3Type.sound, callable_of (by kernel_rfl)⟩, trivial⟩
theorem spec_TypesOk.sound : Sound Tryd.prog 80 spec_TypesOk.s := by
  refine func_sound (f := spec_TypesOk.a) (G := spec_TypesOk.G) (fn := Tryd.f80) (body := bodyOf Tryd.prog 80) 1000 (by kernel_rfl) spec_TypesOk.E_ok Tryd.func80 (by kernel_rfl) (by kernel_rfl) (by kernel_rfl) (ptsOk_of (by kernel_rfl)) ?_ ?_ ?_ ?_
  · intro r H x h
    unfold spec_TypesOk.a at h
    simp only at h
    split at h
    · cases h; rfl
    · cases h
  · exact fun q avs H => pick1_none spec_TypesOk.G14_0 (rfl)
  · intro k q pt avs H x _ h
    rcases pick1_some h with ⟨rfl, h⟩ | h
    · exact spec_TypesOk.G14_s _ h
    cases h
  · intro k avs H o h
    try dsimp only at h
    split at h
    · cases h; exact spec_TypesOk.eq _ _
    · cases h

def spec_ConfigOk.a : FnA (Bool) := ⟨29, [.tmp 2], .bool, [], [], fun x H => match x, H with
  | .bs false r, [] => some r
  | _, _ => none⟩
def spec_ConfigOk.s : Spec := mkS [.agg [.val, .val, .val, .con .str]] (fun k avs H => match avs, H with
  | [.agg [.v (.int .i64 a0_0), .v (.int .i64 a0_1), .v (.int .i64 a0_2), .con .str a0_3]], [] => some (spec_ConfigOk.f k a0_0 a0_1 a0_2 a0_3)
  | _, _ => none) (fun r => (.bs false r, []))
def spec_ConfigOk.E : Env := [((44, []), spec_l1In.s), ((80, []), spec_TypesOk.s)]
def spec_ConfigOk.G (k p : Nat) (avs : List AV) (H : List HE) : Option (Bool) := none
set_option maxRecDepth 100000 in
theorem spec_ConfigOk.eq (k : Nat) (a0_0 : Int) (a0_1 : Int) (a0_2 : Int) (a0_3 : List ByteArray) : fromTop Tryd.prog spec_ConfigOk.E k spec_ConfigOk.a (spec_ConfigOk.G k) 1000 (bodyOf Tryd.prog 42) [.agg [.v (.int .i64 a0_0), .v (.int .i64 a0_1), .v (.int .i64 a0_2), .con .str a0_3]] [] = spec_ConfigOk.f k a0_0 a0_1 a0_2 a0_3 := by kernel_rfl
theorem spec_ConfigOk.E_ok : EnvOk Tryd.prog spec_ConfigOk.E := ⟨⟨spec_l1In.sound, callable_of (by kernel_rfl)⟩, ⟨spec_TypesOk.sound, callable_of (by kernel_rfl)⟩, trivial⟩
theorem spec_ConfigOk.sound : Sound Tryd.prog 42 spec_ConfigOk.s := by
  refine func_sound (f := spec_ConfigOk.a) (G := spec_ConfigOk.G) (fn := Tryd.f42) (body := bodyOf Tryd.prog 42) 1000 (by kernel_rfl) spec_ConfigOk.E_ok Tryd.func42 (by kernel_rfl) (by kernel_rfl) (by kernel_rfl) (ptsOk_of (by kernel_rfl)) ?_ ?_ ?_ ?_
  · intro r H x h
    unfold spec_ConfigOk.a at h
    simp only at h
    split at h
    · cases h; rfl
    · cases h
  · intro q avs H; rfl
  · intro k q pt avs H x _ h; cases h
  · intro k avs H o h
    try dsimp only at h
    split at h
    · cases h; exact spec_ConfigOk.eq _ _ _ _ _
    · cases h

def spec_WordBytes.a : FnA (ByteArray) := ⟨23, [.tmp 2], .val, [], [⟨8, [0, 3, 4], [.val, .row 5 (.int .u8), .val], []⟩], fun x H => match x, H with
  | .v (.string r), [] => some r
  | _, _ => none⟩
def spec_WordBytes.s : Spec := mkS [.val] (fun k avs H => match avs, H with
  | [.v (.int .i64 a0)], [] => some (spec_WordBytes.f k a0)
  | _, _ => none) (fun r => (.v (.string r), []))
def spec_WordBytes.E : Env := []
def spec_WordBytes.G8 (k : Nat) (avs : List AV) (H : List HE) : Option (ByteArray) := match avs, H with
  | [.v (.int .i64 x0), .own 0, .v (.int .i64 x4)], [.row 5 (.int .u8) x3] => spec_WordBytes.p8 k x0 x3 x4
  | _, _ => none
def spec_WordBytes.G (k p : Nat) (avs : List AV) (H : List HE) : Option (ByteArray) := (pick1 8 (spec_WordBytes.G8 k avs H) none p)
set_option maxRecDepth 100000 in
theorem spec_WordBytes.eq (k : Nat) (a0 : Int) : fromTop Tryd.prog spec_WordBytes.E k spec_WordBytes.a (spec_WordBytes.G k) 1000 (bodyOf Tryd.prog 83) [.v (.int .i64 a0)] [] = spec_WordBytes.f k a0 := by kernel_rfl
set_option maxRecDepth 100000 in
theorem spec_WordBytes.eq8 (k : Nat) (x0 : Int) (x3 : List Int) (x4 : Int) : fromPt Tryd.prog spec_WordBytes.E k spec_WordBytes.a (spec_WordBytes.G k) 1000 (bodyOf Tryd.prog 83) 8 [.v (.int .i64 x0), .own 0, .v (.int .i64 x4)] [.row 5 (.int .u8) x3] = spec_WordBytes.p8 (k + 1) x0 x3 x4 := by kernel_rfl
theorem spec_WordBytes.G8_0 {avs : List AV} {H : List HE} : spec_WordBytes.G8 0 avs H = none := by unfold spec_WordBytes.G8; split <;> rfl
theorem spec_WordBytes.G8_s (k : Nat) {avs : List AV} {H : List HE} {x : ByteArray} (h : spec_WordBytes.G8 (k + 1) avs H = some x) : fromPt Tryd.prog spec_WordBytes.E k spec_WordBytes.a (spec_WordBytes.G k) 1000 (bodyOf Tryd.prog 83) 8 avs H = some x := by
  unfold spec_WordBytes.G8 at h
  split at h
  · rw [← h]; exact spec_WordBytes.eq8 _ _ _ _
  · cases h
theorem spec_WordBytes.E_ok : EnvOk Tryd.prog spec_WordBytes.E := trivial
theorem spec_WordBytes.sound : Sound Tryd.prog 83 spec_WordBytes.s := by
  refine func_sound (f := spec_WordBytes.a) (G := spec_WordBytes.G) (fn := Tryd.f83) (body := bodyOf Tryd.prog 83) 1000 (by kernel_rfl) spec_WordBytes.E_ok Tryd.func83 (by kernel_rfl) (by kernel_rfl) (by kernel_rfl) (ptsOk_of (by kernel_rfl)) ?_ ?_ ?_ ?_
  · intro r H x h
    unfold spec_WordBytes.a at h
    simp only at h
    split at h
    · cases h; rfl
    · cases h
  · exact fun q avs H => pick1_none spec_WordBytes.G8_0 (rfl)
  · intro k q pt avs H x _ h
    rcases pick1_some h with ⟨rfl, h⟩ | h
    · exact spec_WordBytes.G8_s _ h
    cases h
  · intro k avs H o h
    try dsimp only at h
    split at h
    · cases h; exact spec_WordBytes.eq _ _
    · cases h

def spec_ShortBytes.a : FnA (ByteArray) := ⟨9, [.tmp 2], .val, [], [], fun x H => match x, H with
  | .v (.string r), [] => some r
  | _, _ => none⟩
def spec_ShortBytes.s : Spec := mkS [.val] (fun k avs H => match avs, H with
  | [.v (.int .i64 a0)], [] => some (spec_ShortBytes.f k a0)
  | _, _ => none) (fun r => (.v (.string r), []))
def spec_ShortBytes.E : Env := [((44, []), spec_l1In.s), ((83, []), spec_WordBytes.s)]
def spec_ShortBytes.G (k p : Nat) (avs : List AV) (H : List HE) : Option (ByteArray) := none
set_option maxRecDepth 100000 in
theorem spec_ShortBytes.eq (k : Nat) (a0 : Int) : fromTop Tryd.prog spec_ShortBytes.E k spec_ShortBytes.a (spec_ShortBytes.G k) 1000 (bodyOf Tryd.prog 150) [.v (.int .i64 a0)] [] = spec_ShortBytes.f k a0 := by kernel_rfl
theorem spec_ShortBytes.E_ok : EnvOk Tryd.prog spec_ShortBytes.E := ⟨⟨spec_l1In.sound, callable_of (by kernel_rfl)⟩, ⟨spec_WordBytes.sound, callable_of (by kernel_rfl)⟩, trivial⟩
theorem spec_ShortBytes.sound : Sound Tryd.prog 150 spec_ShortBytes.s := by
  refine func_sound (f := spec_ShortBytes.a) (G := spec_ShortBytes.G) (fn := Tryd.f150) (body := bodyOf Tryd.prog 150) 1000 (by kernel_rfl) spec_ShortBytes.E_ok Tryd.func150 (by kernel_rfl) (by kernel_rfl) (by kernel_rfl) (ptsOk_of (by kernel_rfl)) ?_ ?_ ?_ ?_
  · intro r H x h
    unfold spec_ShortBytes.a at h
    simp only at h
    split at h
    · cases h; rfl
    · cases h
  · intro q avs H; rfl
  · intro k q pt avs H x _ h; cases h
  · intro k avs H o h
    try dsimp only at h
    split at h
    · cases h; exact spec_ShortBytes.eq _ _
    · cases h

def spec_l1Zeros.a : FnA (ByteArray) := ⟨6, [.tmp 2], .val, [], [], fun x H => match x, H with
  | .v (.string r), [] => some r
  | _, _ => none⟩
def spec_l1Zeros.s : Spec := mkS [.val] (fun k avs H => match avs, H with
  | [.v (.int .i64 a0)], [] => some (spec_l1Zeros.f a0)
  | _, _ => none) (fun r => (.v (.string r), []))
def spec_l1Zeros.E : Env := []
def spec_l1Zeros.G (k p : Nat) (avs : List AV) (H : List HE) : Option (ByteArray) := none
set_option maxRecDepth 100000 in
theorem spec_l1Zeros.eq (k : Nat) (a0 : Int) : fromTop Tryd.prog spec_l1Zeros.E k spec_l1Zeros.a (spec_l1Zeros.G k) 1000 (bodyOf Tryd.prog 64) [.v (.int .i64 a0)] [] = spec_l1Zeros.f a0 := by kernel_rfl
theorem spec_l1Zeros.E_ok : EnvOk Tryd.prog spec_l1Zeros.E := trivial
theorem spec_l1Zeros.sound : Sound Tryd.prog 64 spec_l1Zeros.s := by
  refine func_sound (f := spec_l1Zeros.a) (G := spec_l1Zeros.G) (fn := Tryd.f64) (body := bodyOf Tryd.prog 64) 1000 (by kernel_rfl) spec_l1Zeros.E_ok Tryd.func64 (by kernel_rfl) (by kernel_rfl) (by kernel_rfl) (ptsOk_of (by kernel_rfl)) ?_ ?_ ?_ ?_
  · intro r H x h
    unfold spec_l1Zeros.a at h
    simp only at h
    split at h
    · cases h; rfl
    · cases h
  · intro q avs H; rfl
  · intro k q pt avs H x _ h; cases h
  · intro k avs H o h
    try dsimp only at h
    split at h
    · cases h; exact spec_l1Zeros.eq _ _
    · cases h

def spec_l1Crc.a : FnA (ByteArray) := ⟨45, [.tmp 2], .val, [], [⟨8, [0, 3, 4], [.val, .val, .val], []⟩, ⟨22, [0, 3, 4, 5], [.val, .val, .val, .val], []⟩], fun x H => match x, H with
  | .v (.string r), [] => some r
  | _, _ => none⟩
def spec_l1Crc.s : Spec := mkS [.val] (fun k avs H => match avs, H with
  | [.v (.string a0)], [] => some (spec_l1Crc.f k a0)
  | _, _ => none) (fun r => (.v (.string r), []))
def spec_l1Crc.E : Env := []
def spec_l1Crc.G8 (k : Nat) (avs : List AV) (H : List HE) : Option (ByteArray) := match avs, H with
  | [.v (.string x0), .v (.int .u32 x3), .v (.int .i64 x4)], [] => spec_l1Crc.p8 k x0 x3 x4
  | _, _ => none
def spec_l1Crc.G22 (k : Nat) (avs : List AV) (H : List HE) : Option (ByteArray) := match avs, H with
  | [.v (.string x0), .v (.int .u32 x3), .v (.int .i64 x4), .v (.int .i64 x5)], [] => spec_l1Crc.p22 k x0 x3 x4 x5
  | _, _ => none
def spec_l1Crc.G (k p : Nat) (avs : List AV) (H : List HE) : Option (ByteArray) := (pick1 8 (spec_l1Crc.G8 k avs H) (pick1 22 (spec_l1Crc.G22 k avs H) none p) p)
set_option maxRecDepth 100000 in
theorem spec_l1Crc.eq (k : Nat) (a0 : ByteArray) : fromTop Tryd.prog spec_l1Crc.E k spec_l1Crc.a (spec_l1Crc.G k) 1000 (bodyOf Tryd.prog 161) [.v (.string a0)] [] = spec_l1Crc.f k a0 := by kernel_rfl
set_option maxRecDepth 100000 in
theorem spec_l1Crc.eq8 (k : Nat) (x0 : ByteArray) (x3 : Int) (x4 : Int) : fromPt Tryd.prog spec_l1Crc.E k spec_l1Crc.a (spec_l1Crc.G k) 1000 (bodyOf Tryd.prog 161) 8 [.v (.string x0), .v (.int .u32 x3), .v (.int .i64 x4)] [] = spec_l1Crc.p8 (k + 1) x0 x3 x4 := by kernel_rfl
theorem spec_l1Crc.G8_0 {avs : List AV} {H : List HE} : spec_l1Crc.G8 0 avs H = none := by unfold spec_l1Crc.G8; split <;> rfl
theorem spec_l1Crc.G8_s (k : Nat) {avs : List AV} {H : List HE} {x : ByteArray} (h : spec_l1Crc.G8 (k + 1) avs H = some x) : fromPt Tryd.prog spec_l1Crc.E k spec_l1Crc.a (spec_l1Crc.G k) 1000 (bodyOf Tryd.prog 161) 8 avs H = some x := by
  unfold spec_l1Crc.G8 at h
  split at h
  · rw [← h]; exact spec_l1Crc.eq8 _ _ _ _
  · cases h
set_option maxRecDepth 100000 in
theorem spec_l1Crc.eq22 (k : Nat) (x0 : ByteArray) (x3 : Int) (x4 : Int) (x5 : Int) : fromPt Tryd.prog spec_l1Crc.E k spec_l1Crc.a (spec_l1Crc.G k) 1000 (bodyOf Tryd.prog 161) 22 [.v (.string x0), .v (.int .u32 x3), .v (.int .i64 x4), .v (.int .i64 x5)] [] = spec_l1Crc.p22 (k + 1) x0 x3 x4 x5 := by kernel_rfl
theorem spec_l1Crc.G22_0 {avs : List AV} {H : List HE} : spec_l1Crc.G22 0 avs H = none := by unfold spec_l1Crc.G22; split <;> rfl
theorem spec_l1Crc.G22_s (k : Nat) {avs : List AV} {H : List HE} {x : ByteArray} (h : spec_l1Crc.G22 (k + 1) avs H = some x) : fromPt Tryd.prog spec_l1Crc.E k spec_l1Crc.a (spec_l1Crc.G k) 1000 (bodyOf Tryd.prog 161) 22 avs H = some x := by
  unfold spec_l1Crc.G22 at h
  split at h
  · rw [← h]; exact spec_l1Crc.eq22 _ _ _ _ _
  · cases h
theorem spec_l1Crc.E_ok : EnvOk Tryd.prog spec_l1Crc.E := trivial
theorem spec_l1Crc.sound : Sound Tryd.prog 161 spec_l1Crc.s := by
  refine func_sound (f := spec_l1Crc.a) (G := spec_l1Crc.G) (fn := Tryd.f161) (body := bodyOf Tryd.prog 161) 1000 (by kernel_rfl) spec_l1Crc.E_ok Tryd.func161 (by kernel_rfl) (by kernel_rfl) (by kernel_rfl) (ptsOk_of (by kernel_rfl)) ?_ ?_ ?_ ?_
  · intro r H x h
    unfold spec_l1Crc.a at h
    simp only at h
    split at h
    · cases h; rfl
    · cases h
  · exact fun q avs H => pick1_none spec_l1Crc.G8_0 (pick1_none spec_l1Crc.G22_0 (rfl))
  · intro k q pt avs H x _ h
    rcases pick1_some h with ⟨rfl, h⟩ | h
    · exact spec_l1Crc.G8_s _ h
    rcases pick1_some h with ⟨rfl, h⟩ | h
    · exact spec_l1Crc.G22_s _ h
    cases h
  · intro k avs H o h
    try dsimp only at h
    split at h
    · cases h; exact spec_l1Crc.eq _ _
    · cases h

def spec_Sealed.a : FnA (ByteArray) := ⟨17, [.tmp 2], .val, [], [], fun x H => match x, H with
  | .v (.string r), [] => some r
  | _, _ => none⟩
def spec_Sealed.s : Spec := mkS [.val] (fun k avs H => match avs, H with
  | [.v (.string a0)], [] => some (spec_Sealed.f k a0)
  | _, _ => none) (fun r => (.v (.string r), []))
def spec_Sealed.E : Env := [((64, []), spec_l1Zeros.s), ((161, []), spec_l1Crc.s)]
def spec_Sealed.G (k p : Nat) (avs : List AV) (H : List HE) : Option (ByteArray) := none
set_option maxRecDepth 100000 in
theorem spec_Sealed.eq (k : Nat) (a0 : ByteArray) : fromTop Tryd.prog spec_Sealed.E k spec_Sealed.a (spec_Sealed.G k) 1000 (bodyOf Tryd.prog 151) [.v (.string a0)] [] = spec_Sealed.f k a0 := by kernel_rfl
theorem spec_Sealed.E_ok : EnvOk Tryd.prog spec_Sealed.E := ⟨⟨spec_l1Zeros.sound, callable_of (by kernel_rfl)⟩, ⟨spec_l1Crc.sound, callable_of (by kernel_rfl)⟩, trivial⟩
theorem spec_Sealed.sound : Sound Tryd.prog 151 spec_Sealed.s := by
  refine func_sound (f := spec_Sealed.a) (G := spec_Sealed.G) (fn := Tryd.f151) (body := bodyOf Tryd.prog 151) 1000 (by kernel_rfl) spec_Sealed.E_ok Tryd.func151 (by kernel_rfl) (by kernel_rfl) (by kernel_rfl) (ptsOk_of (by kernel_rfl)) ?_ ?_ ?_ ?_
  · intro r H x h
    unfold spec_Sealed.a at h
    simp only at h
    split at h
    · cases h; rfl
    · cases h
  · intro q avs H; rfl
  · intro k q pt avs H x _ h; cases h
  · intro k avs H o h
    try dsimp only at h
    split at h
    · cases h; exact spec_Sealed.eq _ _
    · cases h

def spec_l3Super.a : FnA (ByteArray) := ⟨77, [.tmp 2], .val, [], [⟨8, [1, 3, 4], [.box [.val, .val, .val, .con .str], .val, .val], []⟩, ⟨23, [1, 3, 4, 5, 6], [.box [.val, .val, .val, .con .str], .val, .val, .val, .val], []⟩], fun x H => match x, H with
  | .v (.string r), [] => some r
  | _, _ => none⟩
def spec_l3Super.s : Spec := mkS [.agg [.val, .val, .val, .con .str]] (fun k avs H => match avs, H with
  | [.agg [.v (.int .i64 a0_0), .v (.int .i64 a0_1), .v (.int .i64 a0_2), .con .str a0_3]], [] => some (spec_l3Super.f k a0_0 a0_1 a0_2 a0_3)
  | _, _ => none) (fun r => (.v (.string r), []))
def spec_l3Super.E : Env := [((150, []), spec_ShortBytes.s), ((151, []), spec_Sealed.s)]
def spec_l3Super.G8 (k : Nat) (avs : List AV) (H : List HE) : Option (ByteArray) := match avs, H with
  | [.box 0 0, .v (.string x3), .v (.int .i64 x4)], [.box [.v (.int .i64 x1_0), .v (.int .i64 x1_1), .v (.int .i64 x1_2), .con .str x1_3]] => spec_l3Super.p8 k x1_0 x1_1 x1_2 x1_3 x3 x4
  | _, _ => none
def spec_l3Super.G23 (k : Nat) (avs : List AV) (H : List HE) : Option (ByteArray) := match avs, H with
  | [.box 0 0, .v (.string x3), .v (.int .i64 x4), .v (.int .i64 x5), .v (.int .i64 x6)], [.box [.v (.int .i64 x1_0), .v (.int .i64 x1_1), .v (.int .i64 x1_2), .con .str x1_3]] => spec_l3Super.p23 k x1_0 x1_1 x1_2 x1_3 x3 x4 x5 x6
  | _, _ => none
def spec_l3Super.G (k p : Nat) (avs : List AV) (H : List HE) : Option (ByteArray) := (pick1 8 (spec_l3Super.G8 k avs H) (pick1 23 (spec_l3Super.G23 k avs H) none p) p)
set_option maxRecDepth 100000 in
theorem spec_l3Super.eq (k : Nat) (a0_0 : Int) (a0_1 : Int) (a0_2 : Int) (a0_3 : List ByteArray) : fromTop Tryd.prog spec_l3Super.E k spec_l3Super.a (spec_l3Super.G k) 1000 (bodyOf Tryd.prog 127) [.agg [.v (.int .i64 a0_0), .v (.int .i64 a0_1), .v (.int .i64 a0_2), .con .str a0_3]] [] = spec_l3Super.f k a0_0 a0_1 a0_2 a0_3 := by kernel_rfl
set_option maxRecDepth 100000 in
theorem spec_l3Super.eq8 (k : Nat) (x1_0 : Int) (x1_1 : Int) (x1_2 : Int) (x1_3 : List ByteArray) (x3 : ByteArray) (x4 : Int) : fromPt Tryd.prog spec_l3Super.E k spec_l3Super.a (spec_l3Super.G k) 1000 (bodyOf Tryd.prog 127) 8 [.box 0 0, .v (.string x3), .v (.int .i64 x4)] [.box [.v (.int .i64 x1_0), .v (.int .i64 x1_1), .v (.int .i64 x1_2), .con .str x1_3]] = spec_l3Super.p8 (k + 1) x1_0 x1_1 x1_2 x1_3 x3 x4 := by kernel_rfl
theorem spec_l3Super.G8_0 {avs : List AV} {H : List HE} : spec_l3Super.G8 0 avs H = none := by unfold spec_l3Super.G8; split <;> rfl
theorem spec_l3Super.G8_s (k : Nat) {avs : List AV} {H : List HE} {x : ByteArray} (h : spec_l3Super.G8 (k + 1) avs H = some x) : fromPt Tryd.prog spec_l3Super.E k spec_l3Super.a (spec_l3Super.G k) 1000 (bodyOf Tryd.prog 127) 8 avs H = some x := by
  unfold spec_l3Super.G8 at h
  split at h
  · rw [← h]; exact spec_l3Super.eq8 _ _ _ _ _ _ _
  · cases h
set_option maxRecDepth 100000 in
theorem spec_l3Super.eq23 (k : Nat) (x1_0 : Int) (x1_1 : Int) (x1_2 : Int) (x1_3 : List ByteArray) (x3 : ByteArray) (x4 : Int) (x5 : Int) (x6 : Int) : fromPt Tryd.prog spec_l3Super.E k spec_l3Super.a (spec_l3Super.G k) 1000 (bodyOf Tryd.prog 127) 23 [.box 0 0, .v (.string x3), .v (.int .i64 x4), .v (.int .i64 x5), .v (.int .i64 x6)] [.box [.v (.int .i64 x1_0), .v (.int .i64 x1_1), .v (.int .i64 x1_2), .con .str x1_3]] = spec_l3Super.p23 (k + 1) x1_0 x1_1 x1_2 x1_3 x3 x4 x5 x6 := by kernel_rfl
theorem spec_l3Super.G23_0 {avs : List AV} {H : List HE} : spec_l3Super.G23 0 avs H = none := by unfold spec_l3Super.G23; split <;> rfl
theorem spec_l3Super.G23_s (k : Nat) {avs : List AV} {H : List HE} {x : ByteArray} (h : spec_l3Super.G23 (k + 1) avs H = some x) : fromPt Tryd.prog spec_l3Super.E k spec_l3Super.a (spec_l3Super.G k) 1000 (bodyOf Tryd.prog 127) 23 avs H = some x := by
  unfold spec_l3Super.G23 at h
  split at h
  · rw [← h]; exact spec_l3Super.eq23 _ _ _ _ _ _ _ _ _
  · cases h
theorem spec_l3Super.E_ok : EnvOk Tryd.prog spec_l3Super.E := ⟨⟨spec_ShortBytes.sound, callable_of (by kernel_rfl)⟩, ⟨spec_Sealed.sound, callable_of (by kernel_rfl)⟩, trivial⟩
theorem spec_l3Super.sound : Sound Tryd.prog 127 spec_l3Super.s := by
  refine func_sound (f := spec_l3Super.a) (G := spec_l3Super.G) (fn := Tryd.f127) (body := bodyOf Tryd.prog 127) 1000 (by kernel_rfl) spec_l3Super.E_ok Tryd.func127 (by kernel_rfl) (by kernel_rfl) (by kernel_rfl) (ptsOk_of (by kernel_rfl)) ?_ ?_ ?_ ?_
  · intro r H x h
    unfold spec_l3Super.a at h
    simp only at h
    split at h
    · cases h; rfl
    · cases h
  · exact fun q avs H => pick1_none spec_l3Super.G8_0 (pick1_none spec_l3Super.G23_0 (rfl))
  · intro k q pt avs H x _ h
    rcases pick1_some h with ⟨rfl, h⟩ | h
    · exact spec_l3Super.G8_s _ h
    rcases pick1_some h with ⟨rfl, h⟩ | h
    · exact spec_l3Super.G23_s _ h
    cases h
  · intro k avs H o h
    try dsimp only at h
    split at h
    · cases h; exact spec_l3Super.eq _ _ _ _ _
    · cases h

def spec_SuperLine.a : FnA (ByteArray) := ⟨8, [.tmp 2], .val, [], [], fun x H => match x, H with
  | .v (.string r), [] => some r
  | _, _ => none⟩
def spec_SuperLine.s : Spec := mkS [.agg [.val, .val, .val, .con .str]] (fun k avs H => match avs, H with
  | [.agg [.v (.int .i64 a0_0), .v (.int .i64 a0_1), .v (.int .i64 a0_2), .con .str a0_3]], [] => some (spec_SuperLine.f k a0_0 a0_1 a0_2 a0_3)
  | _, _ => none) (fun r => (.v (.string r), []))
def spec_SuperLine.E : Env := [((42, []), spec_ConfigOk.s), ((127, []), spec_l3Super.s)]
def spec_SuperLine.G (k p : Nat) (avs : List AV) (H : List HE) : Option (ByteArray) := none
set_option maxRecDepth 100000 in
theorem spec_SuperLine.eq (k : Nat) (a0_0 : Int) (a0_1 : Int) (a0_2 : Int) (a0_3 : List ByteArray) : fromTop Tryd.prog spec_SuperLine.E k spec_SuperLine.a (spec_SuperLine.G k) 1000 (bodyOf Tryd.prog 99) [.agg [.v (.int .i64 a0_0), .v (.int .i64 a0_1), .v (.int .i64 a0_2), .con .str a0_3]] [] = spec_SuperLine.f k a0_0 a0_1 a0_2 a0_3 := by kernel_rfl
theorem spec_SuperLine.E_ok : EnvOk Tryd.prog spec_SuperLine.E := ⟨⟨spec_ConfigOk.sound, callable_of (by kernel_rfl)⟩, ⟨spec_l3Super.sound, callable_of (by kernel_rfl)⟩, trivial⟩
theorem spec_SuperLine.sound : Sound Tryd.prog 99 spec_SuperLine.s := by
  refine func_sound (f := spec_SuperLine.a) (G := spec_SuperLine.G) (fn := Tryd.f99) (body := bodyOf Tryd.prog 99) 1000 (by kernel_rfl) spec_SuperLine.E_ok Tryd.func99 (by kernel_rfl) (by kernel_rfl) (by kernel_rfl) (ptsOk_of (by kernel_rfl)) ?_ ?_ ?_ ?_
  · intro r H x h
    unfold spec_SuperLine.a at h
    simp only at h
    split at h
    · cases h; rfl
    · cases h
  · intro q avs H; rfl
  · intro k q pt avs H x _ h; cases h
  · intro k avs H o h
    try dsimp only at h
    split at h
    · cases h; exact spec_SuperLine.eq _ _ _ _ _
    · cases h

def spec_ReadSuper.a : FnA (Int × Int × Int × List ByteArray × Bool) := ⟨103, [.cell 2 29, .tmp 3], .tup [.agg [.val, .val, .val, .row 9 .str], .bool], [], [⟨22, [0, 2, 4, 5], [.val, .box [.val, .val, .val, .val], .box [.val, .val, .val, .row 9 .str], .val], []⟩, ⟨26, [0, 2, 4, 5, 44], [.val, .box [.val, .val, .val, .val], .box [.val, .val, .val, .row 9 .str], .val, .bool], []⟩, ⟨41, [0, 2, 4, 5, 6, 7, 8, 9], [.val, .box [.val, .val, .val, .val], .box [.val, .val, .val, .row 9 .str], .val, .val, .val, .val, .val], []⟩, ⟨45, [0, 2, 4, 5, 6, 7, 8, 9, 78], [.val, .box [.val, .val, .val, .val], .box [.val, .val, .val, .row 9 .str], .val, .val, .val, .val, .val, .bool], []⟩], fun x H => match x, H with
  | .tup [.agg [.v (.int .i64 r_0_0), .v (.int .i64 r_0_1), .v (.int .i64 r_0_2), .own 0], .bs false r_1], [.row 9 .str r_0_3] => some (r_0_0, r_0_1, r_0_2, r_0_3, r_1)
  | _, _ => none⟩
def spec_ReadSuper.s : Spec := mkS [.val] (fun k avs H => match avs, H with
  | [.v (.string a0)], [] => some (spec_ReadSuper.f k a0)
  | _, _ => none) (fun r => (.tup [.agg [.v (.int .i64 r.1), .v (.int .i64 r.2.1), .v (.int .i64 r.2.2.1), .own 0], .bs false r.2.2.2.2], [.row 9 .str r.2.2.2.1]))
def spec_ReadSuper.E : Env := [((98, []), spec_ReadShort.s), ((99, []), spec_SuperLine.s)]
def spec_ReadSuper.G22 (k : Nat) (avs : List AV) (H : List HE) : Option (Int × Int × Int × List ByteArray × Bool) := match avs, H with
  | [.v (.string x0), .box 0 0, .box 1 0, .v (.int .i64 x5)], [.box [.v (.int .i64 x2_0), .v (.int .i64 x2_1), .v (.int .i64 x2_2), .v (.slice none 0 0)], .box [.v (.int .i64 x4_0), .v (.int .i64 x4_1), .v (.int .i64 x4_2), .own 2], .row 9 .str x4_3] => spec_ReadSuper.p22 k x0 x2_0 x2_1 x2_2 x4_0 x4_1 x4_2 x4_3 x5
  | _, _ => none
def spec_ReadSuper.G26 (k : Nat) (avs : List AV) (H : List HE) : Option (Int × Int × Int × List ByteArray × Bool) := match avs, H with
  | [.v (.string x0), .box 0 0, .box 1 0, .v (.int .i64 x5), .bs false x44], [.box [.v (.int .i64 x2_0), .v (.int .i64 x2_1), .v (.int .i64 x2_2), .v (.slice none 0 0)], .box [.v (.int .i64 x4_0), .v (.int .i64 x4_1), .v (.int .i64 x4_2), .own 2], .row 9 .str x4_3] => spec_ReadSuper.p26 k x0 x2_0 x2_1 x2_2 x4_0 x4_1 x4_2 x4_3 x5 x44
  | _, _ => none
def spec_ReadSuper.G41 (k : Nat) (avs : List AV) (H : List HE) : Option (Int × Int × Int × List ByteArray × Bool) := match avs, H with
  | [.v (.string x0), .box 0 0, .box 1 0, .v (.int .i64 x5), .v (.int .i64 x6), .v (.int .i64 x7), .v (.string x8), .v (.int .i64 x9)], [.box [.v (.int .i64 x2_0), .v (.int .i64 x2_1), .v (.int .i64 x2_2), .v (.slice none 0 0)], .box [.v (.int .i64 x4_0), .v (.int .i64 x4_1), .v (.int .i64 x4_2), .own 2], .row 9 .str x4_3] => spec_ReadSuper.p41 k x0 x2_0 x2_1 x2_2 x4_0 x4_1 x4_2 x4_3 x5 x6 x7 x8 x9
  | _, _ => none
def spec_ReadSuper.G45 (k : Nat) (avs : List AV) (H : List HE) : Option (Int × Int × Int × List ByteArray × Bool) := match avs, H with
  | [.v (.string x0), .box 0 0, .box 1 0, .v (.int .i64 x5), .v (.int .i64 x6), .v (.int .i64 x7), .v (.string x8), .v (.int .i64 x9), .bs false x78], [.box [.v (.int .i64 x2_0), .v (.int .i64 x2_1), .v (.int .i64 x2_2), .v (.slice none 0 0)], .box [.v (.int .i64 x4_0), .v (.int .i64 x4_1), .v (.int .i64 x4_2), .own 2], .row 9 .str x4_3] => spec_ReadSuper.p45 k x0 x2_0 x2_1 x2_2 x4_0 x4_1 x4_2 x4_3 x5 x6 x7 x8 x9 x78
  | _, _ => none
def spec_ReadSuper.G (k p : Nat) (avs : List AV) (H : List HE) : Option (Int × Int × Int × List ByteArray × Bool) := (pick1 22 (spec_ReadSuper.G22 k avs H) (pick1 26 (spec_ReadSuper.G26 k avs H) (pick1 41 (spec_ReadSuper.G41 k avs H) (pick1 45 (spec_ReadSuper.G45 k avs H) none p) p) p) p)
set_option maxRecDepth 100000 in
theorem spec_ReadSuper.eq (k : Nat) (a0 : ByteArray) : fromTop Tryd.prog spec_ReadSuper.E k spec_ReadSuper.a (spec_ReadSuper.G k) 1000 (bodyOf Tryd.prog 56) [.v (.string a0)] [] = spec_ReadSuper.f k a0 := by kernel_rfl
set_option maxRecDepth 100000 in
theorem spec_ReadSuper.eq22 (k : Nat) (x0 : ByteArray) (x2_0 : Int) (x2_1 : Int) (x2_2 : Int) (x4_0 : Int) (x4_1 : Int) (x4_2 : Int) (x4_3 : List ByteArray) (x5 : Int) : fromPt Tryd.prog spec_ReadSuper.E k spec_ReadSuper.a (spec_ReadSuper.G k) 1000 (bodyOf Tryd.prog 56) 22 [.v (.string x0), .box 0 0, .box 1 0, .v (.int .i64 x5)] [.box [.v (.int .i64 x2_0), .v (.int .i64 x2_1), .v (.int .i64 x2_2), .v (.slice none 0 0)], .box [.v (.int .i64 x4_0), .v (.int .i64 x4_1), .v (.int .i64 x4_2), .own 2], .row 9 .str x4_3] = spec_ReadSuper.p22 (k + 1) x0 x2_0 x2_1 x2_2 x4_0 x4_1 x4_2 x4_3 x5 := by kernel_rfl
theorem spec_ReadSuper.G22_0 {avs : List AV} {H : List HE} : spec_ReadSuper.G22 0 avs H = none := by unfold spec_ReadSuper.G22; split <;> rfl
theorem spec_ReadSuper.G22_s (k : Nat) {avs : List AV} {H : List HE} {x : Int × Int × Int × List ByteArray × Bool} (h : spec_ReadSuper.G22 (k + 1) avs H = some x) : fromPt Tryd.prog spec_ReadSuper.E k spec_ReadSuper.a (spec_ReadSuper.G k) 1000 (bodyOf Tryd.prog 56) 22 avs H = some x := by
  unfold spec_ReadSuper.G22 at h
  split at h
  · rw [← h]; exact spec_ReadSuper.eq22 _ _ _ _ _ _ _ _ _ _
  · cases h
set_option maxRecDepth 100000 in
theorem spec_ReadSuper.eq26 (k : Nat) (x0 : ByteArray) (x2_0 : Int) (x2_1 : Int) (x2_2 : Int) (x4_0 : Int) (x4_1 : Int) (x4_2 : Int) (x4_3 : List ByteArray) (x5 : Int) (x44 : Bool) : fromPt Tryd.prog spec_ReadSuper.E k spec_ReadSuper.a (spec_ReadSuper.G k) 1000 (bodyOf Tryd.prog 56) 26 [.v (.string x0), .box 0 0, .box 1 0, .v (.int .i64 x5), .bs false x44] [.box [.v (.int .i64 x2_0), .v (.int .i64 x2_1), .v (.int .i64 x2_2), .v (.slice none 0 0)], .box [.v (.int .i64 x4_0), .v (.int .i64 x4_1), .v (.int .i64 x4_2), .own 2], .row 9 .str x4_3] = spec_ReadSuper.p26 (k + 1) x0 x2_0 x2_1 x2_2 x4_0 x4_1 x4_2 x4_3 x5 x44 := by kernel_rfl
theorem spec_ReadSuper.G26_0 {avs : List AV} {H : List HE} : spec_ReadSuper.G26 0 avs H = none := by unfold spec_ReadSuper.G26; split <;> rfl
theorem spec_ReadSuper.G26_s (k : Nat) {avs : List AV} {H : List HE} {x : Int × Int × Int × List ByteArray × Bool} (h : spec_ReadSuper.G26 (k + 1) avs H = some x) : fromPt Tryd.prog spec_ReadSuper.E k spec_ReadSuper.a (spec_ReadSuper.G k) 1000 (bodyOf Tryd.prog 56) 26 avs H = some x := by
  unfold spec_ReadSuper.G26 at h
  split at h
  · rw [← h]; exact spec_ReadSuper.eq26 _ _ _ _ _ _ _ _ _ _ _
  · cases h
set_option maxRecDepth 100000 in
theorem spec_ReadSuper.eq41 (k : Nat) (x0 : ByteArray) (x2_0 : Int) (x2_1 : Int) (x2_2 : Int) (x4_0 : Int) (x4_1 : Int) (x4_2 : Int) (x4_3 : List ByteArray) (x5 : Int) (x6 : Int) (x7 : Int) (x8 : ByteArray) (x9 : Int) : fromPt Tryd.prog spec_ReadSuper.E k spec_ReadSuper.a (spec_ReadSuper.G k) 1000 (bodyOf Tryd.prog 56) 41 [.v (.string x0), .box 0 0, .box 1 0, .v (.int .i64 x5), .v (.int .i64 x6), .v (.int .i64 x7), .v (.string x8), .v (.int .i64 x9)] [.box [.v (.int .i64 x2_0), .v (.int .i64 x2_1), .v (.int .i64 x2_2), .v (.slice none 0 0)], .box [.v (.int .i64 x4_0), .v (.int .i64 x4_1), .v (.int .i64 x4_2), .own 2], .row 9 .str x4_3] = spec_ReadSuper.p41 (k + 1) x0 x2_0 x2_1 x2_2 x4_0 x4_1 x4_2 x4_3 x5 x6 x7 x8 x9 := by kernel_rfl
theorem spec_ReadSuper.G41_0 {avs : List AV} {H : List HE} : spec_ReadSuper.G41 0 avs H = none := by unfold spec_ReadSuper.G41; split <;> rfl
theorem spec_ReadSuper.G41_s (k : Nat) {avs : List AV} {H : List HE} {x : Int × Int × Int × List ByteArray × Bool} (h : spec_ReadSuper.G41 (k + 1) avs H = some x) : fromPt Tryd.prog spec_ReadSuper.E k spec_ReadSuper.a (spec_ReadSuper.G k) 1000 (bodyOf Tryd.prog 56) 41 avs H = some x := by
  unfold spec_ReadSuper.G41 at h
  split at h
  · rw [← h]; exact spec_ReadSuper.eq41 _ _ _ _ _ _ _ _ _ _ _ _ _ _
  · cases h
set_option maxRecDepth 100000 in
theorem spec_ReadSuper.eq45 (k : Nat) (x0 : ByteArray) (x2_0 : Int) (x2_1 : Int) (x2_2 : Int) (x4_0 : Int) (x4_1 : Int) (x4_2 : Int) (x4_3 : List ByteArray) (x5 : Int) (x6 : Int) (x7 : Int) (x8 : ByteArray) (x9 : Int) (x78 : Bool) : fromPt Tryd.prog spec_ReadSuper.E k spec_ReadSuper.a (spec_ReadSuper.G k) 1000 (bodyOf Tryd.prog 56) 45 [.v (.string x0), .box 0 0, .box 1 0, .v (.int .i64 x5), .v (.int .i64 x6), .v (.int .i64 x7), .v (.string x8), .v (.int .i64 x9), .bs false x78] [.box [.v (.int .i64 x2_0), .v (.int .i64 x2_1), .v (.int .i64 x2_2), .v (.slice none 0 0)], .box [.v (.int .i64 x4_0), .v (.int .i64 x4_1), .v (.int .i64 x4_2), .own 2], .row 9 .str x4_3] = spec_ReadSuper.p45 (k + 1) x0 x2_0 x2_1 x2_2 x4_0 x4_1 x4_2 x4_3 x5 x6 x7 x8 x9 x78 := by kernel_rfl
theorem spec_ReadSuper.G45_0 {avs : List AV} {H : List HE} : spec_ReadSuper.G45 0 avs H = none := by unfold spec_ReadSuper.G45; split <;> rfl
theorem spec_ReadSuper.G45_s (k : Nat) {avs : List AV} {H : List HE} {x : Int × Int × Int × List ByteArray × Bool} (h : spec_ReadSuper.G45 (k + 1) avs H = some x) : fromPt Tryd.prog spec_ReadSuper.E k spec_ReadSuper.a (spec_ReadSuper.G k) 1000 (bodyOf Tryd.prog 56) 45 avs H = some x := by
  unfold spec_ReadSuper.G45 at h
  split at h
  · rw [← h]; exact spec_ReadSuper.eq45 _ _ _ _ _ _ _ _ _ _ _ _ _ _ _
  · cases h
theorem spec_ReadSuper.E_ok : EnvOk Tryd.prog spec_ReadSuper.E := ⟨⟨spec_ReadShort.sound, callable_of (by kernel_rfl)⟩, ⟨spec_SuperLine.sound, callable_of (by kernel_rfl)⟩, trivial⟩
theorem spec_ReadSuper.sound : Sound Tryd.prog 56 spec_ReadSuper.s := by
  refine func_sound (f := spec_ReadSuper.a) (G := spec_ReadSuper.G) (fn := Tryd.f56) (body := bodyOf Tryd.prog 56) 1000 (by kernel_rfl) spec_ReadSuper.E_ok Tryd.func56 (by kernel_rfl) (by kernel_rfl) (by kernel_rfl) (ptsOk_of (by kernel_rfl)) ?_ ?_ ?_ ?_
  · intro r H x h
    unfold spec_ReadSuper.a at h
    simp only at h
    split at h
    · cases h; rfl
    · cases h
  · exact fun q avs H => pick1_none spec_ReadSuper.G22_0 (pick1_none spec_ReadSuper.G26_0 (pick1_none spec_ReadSuper.G41_0 (pick1_none spec_ReadSuper.G45_0 (rfl))))
  · intro k q pt avs H x _ h
    rcases pick1_some h with ⟨rfl, h⟩ | h
    · exact spec_ReadSuper.G22_s _ h
    rcases pick1_some h with ⟨rfl, h⟩ | h
    · exact spec_ReadSuper.G26_s _ h
    rcases pick1_some h with ⟨rfl, h⟩ | h
    · exact spec_ReadSuper.G41_s _ h
    rcases pick1_some h with ⟨rfl, h⟩ | h
    · exact spec_ReadSuper.G45_s _ h
    cases h
  · intro k avs H o h
    try dsimp only at h
    split at h
    · cases h; exact spec_ReadSuper.eq _ _
    · cases h

def spec_ConfigOf.a : FnA (Int × Int × Int × List ByteArray × Bool) := ⟨28, [.cell 2 29, .tmp 3], .tup [.agg [.val, .val, .val, .row 9 .str], .bool], [], [], fun x H => match x, H with
  | .tup [.agg [.v (.int .i64 r_0_0), .v (.int .i64 r_0_1), .v (.int .i64 r_0_2), .own 0], .bs false r_1], [.row 9 .str r_0_3] => some (r_0_0, r_0_1, r_0_2, r_0_3, r_1)
  | _, _ => none⟩
def spec_ConfigOf.s : Spec := mkS [.val] (fun k avs H => match avs, H with
  | [.v (.string a0)], [] => some (spec_ConfigOf.f k a0)
  | _, _ => none) (fun r => (.tup [.agg [.v (.int .i64 r.1), .v (.int .i64 r.2.1), .v (.int .i64 r.2.2.1), .own 0], .bs false r.2.2.2.2], [.row 9 .str r.2.2.2.1]))
def spec_ConfigOf.E : Env := [((56, []), spec_ReadSuper.s)]
def spec_ConfigOf.G (k p : Nat) (avs : List AV) (H : List HE) : Option (Int × Int × Int × List ByteArray × Bool) := none
set_option maxRecDepth 100000 in
theorem spec_ConfigOf.eq (k : Nat) (a0 : ByteArray) : fromTop Tryd.prog spec_ConfigOf.E k spec_ConfigOf.a (spec_ConfigOf.G k) 1000 (bodyOf Tryd.prog 18) [.v (.string a0)] [] = spec_ConfigOf.f k a0 := by kernel_rfl
theorem spec_ConfigOf.E_ok : EnvOk Tryd.prog spec_ConfigOf.E := ⟨⟨spec_ReadSuper.sound, callable_of (by kernel_rfl)⟩, trivial⟩
theorem spec_ConfigOf.sound : Sound Tryd.prog 18 spec_ConfigOf.s := by
  refine func_sound (f := spec_ConfigOf.a) (G := spec_ConfigOf.G) (fn := Tryd.f18) (body := bodyOf Tryd.prog 18) 1000 (by kernel_rfl) spec_ConfigOf.E_ok Tryd.func18 (by kernel_rfl) (by kernel_rfl) (by kernel_rfl) (ptsOk_of (by kernel_rfl)) ?_ ?_ ?_ ?_
  · intro r H x h
    unfold spec_ConfigOf.a at h
    simp only at h
    split at h
    · cases h; rfl
    · cases h
  · intro q avs H; rfl
  · intro k q pt avs H x _ h; cases h
  · intro k avs H o h
    try dsimp only at h
    split at h
    · cases h; exact spec_ConfigOf.eq _ _
    · cases h

def impl_bigBytes.a : FnA (ByteArray) := ⟨27, [.tmp 4], .val, [], [⟨8, [0, 1, 5, 10, 11], [.val, .val, .row 5 (.int .u8), .val, .val], []⟩], fun x H => match x, H with
  | .v (.string r), [] => some r
  | _, _ => none⟩
def impl_bigBytes.s : Spec := mkS [.val, .val] (fun k avs H => match avs, H with
  | [.v (.int .u64 a0), .v (.int .i64 a1)], [] => some (impl_bigBytes.f k a0 a1)
  | _, _ => none) (fun r => (.v (.string r), []))
def impl_bigBytes.E : Env := []
def impl_bigBytes.G8 (k : Nat) (avs : List AV) (H : List HE) : Option (ByteArray) := match avs, H with
  | [.v (.int .u64 x0), .v (.int .i64 x1), .own 0, .v (.int .i64 x10), .v (.int .i64 x11)], [.row 5 (.int .u8) x5] => impl_bigBytes.p8 k x0 x1 x5 x10 x11
  | _, _ => none
def impl_bigBytes.G (k p : Nat) (avs : List AV) (H : List HE) : Option (ByteArray) := (pick1 8 (impl_bigBytes.G8 k avs H) none p)
set_option maxRecDepth 100000 in
theorem impl_bigBytes.eq (k : Nat) (a0 : Int) (a1 : Int) : fromTop Tryd.prog impl_bigBytes.E k impl_bigBytes.a (impl_bigBytes.G k) 1000 (bodyOf Tryd.prog 139) [.v (.int .u64 a0), .v (.int .i64 a1)] [] = impl_bigBytes.f k a0 a1 := by kernel_rfl
set_option maxRecDepth 100000 in
theorem impl_bigBytes.eq8 (k : Nat) (x0 : Int) (x1 : Int) (x5 : List Int) (x10 : Int) (x11 : Int) : fromPt Tryd.prog impl_bigBytes.E k impl_bigBytes.a (impl_bigBytes.G k) 1000 (bodyOf Tryd.prog 139) 8 [.v (.int .u64 x0), .v (.int .i64 x1), .own 0, .v (.int .i64 x10), .v (.int .i64 x11)] [.row 5 (.int .u8) x5] = impl_bigBytes.p8 (k + 1) x0 x1 x5 x10 x11 := by kernel_rfl
theorem impl_bigBytes.G8_0 {avs : List AV} {H : List HE} : impl_bigBytes.G8 0 avs H = none := by unfold impl_bigBytes.G8; split <;> rfl
theorem impl_bigBytes.G8_s (k : Nat) {avs : List AV} {H : List HE} {x : ByteArray} (h : impl_bigBytes.G8 (k + 1) avs H = some x) : fromPt Tryd.prog impl_bigBytes.E k impl_bigBytes.a (impl_bigBytes.G k) 1000 (bodyOf Tryd.prog 139) 8 avs H = some x := by
  unfold impl_bigBytes.G8 at h
  split at h
  · rw [← h]; exact impl_bigBytes.eq8 _ _ _ _ _ _
  · cases h
theorem impl_bigBytes.E_ok : EnvOk Tryd.prog impl_bigBytes.E := trivial
theorem impl_bigBytes.sound : Sound Tryd.prog 139 impl_bigBytes.s := by
  refine func_sound (f := impl_bigBytes.a) (G := impl_bigBytes.G) (fn := Tryd.f139) (body := bodyOf Tryd.prog 139) 1000 (by kernel_rfl) impl_bigBytes.E_ok Tryd.func139 (by kernel_rfl) (by kernel_rfl) (by kernel_rfl) (ptsOk_of (by kernel_rfl)) ?_ ?_ ?_ ?_
  · intro r H x h
    unfold impl_bigBytes.a at h
    simp only at h
    split at h
    · cases h; rfl
    · cases h
  · exact fun q avs H => pick1_none impl_bigBytes.G8_0 (rfl)
  · intro k q pt avs H x _ h
    rcases pick1_some h with ⟨rfl, h⟩ | h
    · exact impl_bigBytes.G8_s _ h
    cases h
  · intro k avs H o h
    try dsimp only at h
    split at h
    · cases h; exact impl_bigBytes.eq _ _ _
    · cases h

def impl_Crc.a : FnA (ByteArray) := ⟨36, [.tmp 2], .val, [], [⟨16, [0, 3, 10, 11], [.val, .val, .val, .val], []⟩, ⟨32, [0, 3, 10, 11, 20], [.val, .val, .val, .val, .val], []⟩], fun x H => match x, H with
  | .v (.string r), [] => some r
  | _, _ => none⟩
def impl_Crc.s : Spec := mkS [.val] (fun k avs H => match avs, H with
  | [.v (.string a0)], [] => some (impl_Crc.f k a0)
  | _, _ => none) (fun r => (.v (.string r), []))
def impl_Crc.E : Env := [((139, []), impl_bigBytes.s)]
def impl_Crc.G16 (k : Nat) (avs : List AV) (H : List HE) : Option (ByteArray) := match avs, H with
  | [.v (.string x0), .v (.int .u32 x3), .v (.int .i64 x10), .v (.int .i64 x11)], [] => impl_Crc.p16 k x0 x3 x10 x11
  | _, _ => none
def impl_Crc.G32 (k : Nat) (avs : List AV) (H : List HE) : Option (ByteArray) := match avs, H with
  | [.v (.string x0), .v (.int .u32 x3), .v (.int .i64 x10), .v (.int .i64 x11), .v (.int .i64 x20)], [] => impl_Crc.p32 k x0 x3 x10 x11 x20
  | _, _ => none
def impl_Crc.G (k p : Nat) (avs : List AV) (H : List HE) : Option (ByteArray) := (pick1 16 (impl_Crc.G16 k avs H) (pick1 32 (impl_Crc.G32 k avs H) none p) p)
set_option maxRecDepth 100000 in
theorem impl_Crc.eq (k : Nat) (a0 : ByteArray) : fromTop Tryd.prog impl_Crc.E k impl_Crc.a (impl_Crc.G k) 1000 (bodyOf Tryd.prog 128) [.v (.string a0)] [] = impl_Crc.f k a0 := by kernel_rfl
set_option maxRecDepth 100000 in
theorem impl_Crc.eq16 (k : Nat) (x0 : ByteArray) (x3 : Int) (x10 : Int) (x11 : Int) : fromPt Tryd.prog impl_Crc.E k impl_Crc.a (impl_Crc.G k) 1000 (bodyOf Tryd.prog 128) 16 [.v (.string x0), .v (.int .u32 x3), .v (.int .i64 x10), .v (.int .i64 x11)] [] = impl_Crc.p16 (k + 1) x0 x3 x10 x11 := by kernel_rfl
theorem impl_Crc.G16_0 {avs : List AV} {H : List HE} : impl_Crc.G16 0 avs H = none := by unfold impl_Crc.G16; split <;> rfl
theorem impl_Crc.G16_s (k : Nat) {avs : List AV} {H : List HE} {x : ByteArray} (h : impl_Crc.G16 (k + 1) avs H = some x) : fromPt Tryd.prog impl_Crc.E k impl_Crc.a (impl_Crc.G k) 1000 (bodyOf Tryd.prog 128) 16 avs H = some x := by
  unfold impl_Crc.G16 at h
  split at h
  · rw [← h]; exact impl_Crc.eq16 _ _ _ _ _
  · cases h
set_option maxRecDepth 100000 in
theorem impl_Crc.eq32 (k : Nat) (x0 : ByteArray) (x3 : Int) (x10 : Int) (x11 : Int) (x20 : Int) : fromPt Tryd.prog impl_Crc.E k impl_Crc.a (impl_Crc.G k) 1000 (bodyOf Tryd.prog 128) 32 [.v (.string x0), .v (.int .u32 x3), .v (.int .i64 x10), .v (.int .i64 x11), .v (.int .i64 x20)] [] = impl_Crc.p32 (k + 1) x0 x3 x10 x11 x20 := by kernel_rfl
theorem impl_Crc.G32_0 {avs : List AV} {H : List HE} : impl_Crc.G32 0 avs H = none := by unfold impl_Crc.G32; split <;> rfl
theorem impl_Crc.G32_s (k : Nat) {avs : List AV} {H : List HE} {x : ByteArray} (h : impl_Crc.G32 (k + 1) avs H = some x) : fromPt Tryd.prog impl_Crc.E k impl_Crc.a (impl_Crc.G k) 1000 (bodyOf Tryd.prog 128) 32 avs H = some x := by
  unfold impl_Crc.G32 at h
  split at h
  · rw [← h]; exact impl_Crc.eq32 _ _ _ _ _ _
  · cases h
theorem impl_Crc.E_ok : EnvOk Tryd.prog impl_Crc.E := ⟨⟨impl_bigBytes.sound, callable_of (by kernel_rfl)⟩, trivial⟩
theorem impl_Crc.sound : Sound Tryd.prog 128 impl_Crc.s := by
  refine func_sound (f := impl_Crc.a) (G := impl_Crc.G) (fn := Tryd.f128) (body := bodyOf Tryd.prog 128) 1000 (by kernel_rfl) impl_Crc.E_ok Tryd.func128 (by kernel_rfl) (by kernel_rfl) (by kernel_rfl) (ptsOk_of (by kernel_rfl)) ?_ ?_ ?_ ?_
  · intro r H x h
    unfold impl_Crc.a at h
    simp only at h
    split at h
    · cases h; rfl
    · cases h
  · exact fun q avs H => pick1_none impl_Crc.G16_0 (pick1_none impl_Crc.G32_0 (rfl))
  · intro k q pt avs H x _ h
    rcases pick1_some h with ⟨rfl, h⟩ | h
    · exact impl_Crc.G16_s _ h
    rcases pick1_some h with ⟨rfl, h⟩ | h
    · exact impl_Crc.G32_s _ h
    cases h
  · intro k avs H o h
    try dsimp only at h
    split at h
    · cases h; exact impl_Crc.eq _ _
    · cases h

def impl_Unsealed.a : FnA (ByteArray × Bool) := ⟨17, [.tmp 2, .tmp 3], .tup [.val, .bool], [], [], fun x H => match x, H with
  | .tup [.v (.string r_0), .bs false r_1], [] => some (r_0, r_1)
  | _, _ => none⟩
def impl_Unsealed.s : Spec := mkS [.val] (fun k avs H => match avs, H with
  | [.v (.string a0)], [] => some (impl_Unsealed.f k a0)
  | _, _ => none) (fun r => (.tup [.v (.string r.1), .bs false r.2], []))
def impl_Unsealed.E : Env := [((128, []), impl_Crc.s)]
def impl_Unsealed.G (k p : Nat) (avs : List AV) (H : List HE) : Option (ByteArray × Bool) := none
set_option maxRecDepth 100000 in
theorem impl_Unsealed.eq (k : Nat) (a0 : ByteArray) : fromTop Tryd.prog impl_Unsealed.E k impl_Unsealed.a (impl_Unsealed.G k) 1000 (bodyOf Tryd.prog 100) [.v (.string a0)] [] = impl_Unsealed.f k a0 := by kernel_rfl
theorem impl_Unsealed.E_ok : EnvOk Tryd.prog impl_Unsealed.E := ⟨⟨impl_Crc.sound, callable_of (by kernel_rfl)⟩, trivial⟩
theorem impl_Unsealed.sound : Sound Tryd.prog 100 impl_Unsealed.s := by
  refine func_sound (f := impl_Unsealed.a) (G := impl_Unsealed.G) (fn := Tryd.f100) (body := bodyOf Tryd.prog 100) 1000 (by kernel_rfl) impl_Unsealed.E_ok Tryd.func100 (by kernel_rfl) (by kernel_rfl) (by kernel_rfl) (ptsOk_of (by kernel_rfl)) ?_ ?_ ?_ ?_
  · intro r H x h
    unfold impl_Unsealed.a at h
    simp only at h
    split at h
    · cases h; rfl
    · cases h
  · intro q avs H; rfl
  · intro k q pt avs H x _ h; cases h
  · intro k avs H o h
    try dsimp only at h
    split at h
    · cases h; exact impl_Unsealed.eq _ _
    · cases h

def impl_ReadShort.a : FnA (Int × Bool) := ⟨15, [.tmp 2, .tmp 3], .tup [.val, .bool], [], [], fun x H => match x, H with
  | .tup [.v (.int .i64 r_0), .bs false r_1], [] => some (r_0, r_1)
  | _, _ => none⟩
def impl_ReadShort.s : Spec := mkS [.val] (fun k avs H => match avs, H with
  | [.v (.string a0)], [] => some (impl_ReadShort.f a0)
  | _, _ => none) (fun r => (.tup [.v (.int .i64 r.1), .bs false r.2], []))
def impl_ReadShort.E : Env := []
def impl_ReadShort.G (k p : Nat) (avs : List AV) (H : List HE) : Option (Int × Bool) := none
set_option maxRecDepth 100000 in
theorem impl_ReadShort.eq (k : Nat) (a0 : ByteArray) : fromTop Tryd.prog impl_ReadShort.E k impl_ReadShort.a (impl_ReadShort.G k) 1000 (bodyOf Tryd.prog 101) [.v (.string a0)] [] = impl_ReadShort.f a0 := by kernel_rfl
theorem impl_ReadShort.E_ok : EnvOk Tryd.prog impl_ReadShort.E := trivial
theorem impl_ReadShort.sound : Sound Tryd.prog 101 impl_ReadShort.s := by
  refine func_sound (f := impl_ReadShort.a) (G := impl_ReadShort.G) (fn := Tryd.f101) (body := bodyOf Tryd.prog 101) 1000 (by kernel_rfl) impl_ReadShort.E_ok Tryd.func101 (by kernel_rfl) (by kernel_rfl) (by kernel_rfl) (ptsOk_of (by kernel_rfl)) ?_ ?_ ?_ ?_
  · intro r H x h
    unfold impl_ReadShort.a at h
    simp only at h
    split at h
    · cases h; rfl
    · cases h
  · intro q avs H; rfl
  · intro k q pt avs H x _ h; cases h
  · intro k avs H o h
    try dsimp only at h
    split at h
    · cases h; exact impl_ReadShort.eq _ _
    · cases h

def impl_within.a : FnA (Bool) := ⟨15, [.tmp 6], .bool, [], [], fun x H => match x, H with
  | .bs false r, [] => some r
  | _, _ => none⟩
def impl_within.s : Spec := mkS [.val, .val, .val] (fun k avs H => match avs, H with
  | [.v (.int .i64 a0), .v (.int .i64 a1), .v (.int .i64 a2)], [] => some (impl_within.f a0 a1 a2)
  | _, _ => none) (fun r => (.bs false r, []))
def impl_within.E : Env := []
def impl_within.G (k p : Nat) (avs : List AV) (H : List HE) : Option (Bool) := none
set_option maxRecDepth 100000 in
theorem impl_within.eq (k : Nat) (a0 : Int) (a1 : Int) (a2 : Int) : fromTop Tryd.prog impl_within.E k impl_within.a (impl_within.G k) 1000 (bodyOf Tryd.prog 51) [.v (.int .i64 a0), .v (.int .i64 a1), .v (.int .i64 a2)] [] = impl_within.f a0 a1 a2 := by kernel_rfl
theorem impl_within.E_ok : EnvOk Tryd.prog impl_within.E := trivial
theorem impl_within.sound : Sound Tryd.prog 51 impl_within.s := by
  refine func_sound (f := impl_within.a) (G := impl_within.G) (fn := Tryd.f51) (body := bodyOf Tryd.prog 51) 1000 (by kernel_rfl) impl_within.E_ok Tryd.func51 (by kernel_rfl) (by kernel_rfl) (by kernel_rfl) (ptsOk_of (by kernel_rfl)) ?_ ?_ ?_ ?_
  · intro r H x h
    unfold impl_within.a at h
    simp only at h
    split at h
    · cases h; rfl
    · cases h
  · intro q avs H; rfl
  · intro k q pt avs H x _ h; cases h
  · intro k avs H o h
    try dsimp only at h
    split at h
    · cases h; exact impl_within.eq _ _ _ _
    · cases h

def impl_size_string.a : FnA (Int) := ⟨5, [.tmp 2], .val, [], [], fun x H => match x, H with
  | .v (.int .i64 r), [] => some r
  | _, _ => none⟩
def impl_size_string.s : Spec := mkS [.con .str] (fun k avs H => match avs, H with
  | [.con .str a0], [] => some (impl_size_string.f a0)
  | _, _ => none) (fun r => (.v (.int .i64 r), []))
def impl_size_string.E : Env := []
def impl_size_string.G (k p : Nat) (avs : List AV) (H : List HE) : Option (Int) := none
set_option maxRecDepth 100000 in
theorem impl_size_string.eq (k : Nat) (a0 : List ByteArray) : fromTop Tryd.prog impl_size_string.E k impl_size_string.a (impl_size_string.G k) 1000 (bodyOf Tryd.prog 52) [.con .str a0] [] = impl_size_string.f a0 := by kernel_rfl
theorem impl_size_string.E_ok : EnvOk Tryd.prog impl_size_string.E := trivial
theorem impl_size_string.sound : Sound Tryd.prog 52 impl_size_string.s := by
  refine func_sound (f := impl_size_string.a) (G := impl_size_string.G) (fn := Tryd.f52) (body := bodyOf Tryd.prog 52) 1000 (by kernel_rfl) impl_size_string.E_ok Tryd.func52 (by kernel_rfl) (by kernel_rfl) (by kernel_rfl) (ptsOk_of (by kernel_rfl)) ?_ ?_ ?_ ?_
  · intro r H x h
    unfold impl_size_string.a at h
    simp only at h
    split at h
    · cases h; rfl
    · cases h
  · intro q avs H; rfl
  · intro k q pt avs H x _ h; cases h
  · intro k avs H o h
    try dsimp only at h
    split at h
    · cases h; exact impl_size_string.eq _ _
    · cases h

def strings_Trim.s : Spec := mkS [.val, .val] (fun _ avs H => match avs, H with
  | [.v (.string a0), .v (.string a1)], [] => some (strings_Trim.f a0 a1)
  | _, _ => none) (fun r => (.v (.string r), []))
theorem strings_Trim.sound : Sound Tryd.prog 107 strings_Trim.s := by
  refine sound_plain (emb := fun r => .v (.string r)) ?_
  intro k avs H o x h hx
  split at h
  case h_2 => cases h
  rename_i a0 a1
  cases h
  refine ⟨rfl, fun M w ρ hp vals hr => ?_⟩
  obtain ⟨v0, q0, rfl, rfl, v1, q1, rfl, rfl, rfl⟩ := hr
  unfold strings_Trim.f at hx
  split at hx
  case isFalse => cases hx
  rename_i h0
  split at hx
  case isFalse => cases hx
  rename_i h1
  split at hx
  case isFalse => cases hx
  rename_i h2
  cases hx
  refine (Go.Proofs.Any.strings_Trim_laid Go.Proofs.Tryd.lays160 (by kernel_rfl) a0 a1 w h0 (by omega) (Go.Proofs.ascii_of_all h2)).mono ?_
  rintro e w' ⟨rfl, hb⟩
  exact ⟨_, rfl, hb, fun _ _ _ _ => rfl⟩

def impl_isType.a : FnA (Bool) := ⟨11, [.tmp 2], .bool, [], [], fun x H => match x, H with
  | .bs false r, [] => some r
  | _, _ => none⟩
def impl_isType.s : Spec := mkS [.val] (fun k avs H => match avs, H with
  | [.v (.string a0)], [] => some (impl_isType.f a0)
  | _, _ => none) (fun r => (.bs false r, []))
def impl_isType.E : Env := [((51, []), impl_within.s), ((107, []), strings_Trim.s)]
def impl_isType.G (k p : Nat) (avs : List AV) (H : List HE) : Option (Bool) := none
set_option maxRecDepth 100000 in
theorem impl_isType.eq (k : Nat) (a0 : ByteArray) : fromTop Tryd.prog impl_isType.E k impl_isType.a (impl_isType.G k) 1000 (bodyOf Tryd.prog 67) [.v (.string a0)] [] = impl_isType.f a0 := by kernel_rfl
theorem impl_isType.E_ok : EnvOk Tryd.prog impl_isType.E := ⟨⟨impl_within.sound, callable_of (by kernel_rfl)⟩, ⟨strings_Trim.sound, callable_of (by kernel_rfl)⟩, trivial⟩
theorem impl_isType.sound : Sound Tryd.prog 67 impl_isType.s := by
  refine func_sound (f := impl_isType.a) (G := impl_isType.G) (fn := Tryd.f67) (body := bodyOf Tryd.prog 67) 1000 (by kernel_rfl) impl_isType.E_ok Tryd.func67 (by kernel_rfl) (by kernel_rfl) (by kernel_rfl) (ptsOk_of (by kernel_rfl)) ?_ ?_ ?_ ?_
  · intro r H x h
    unfold impl_isType.a at h
    simp only at h
    split at h
    · cases h; rfl
    · cases h
  · intro q avs H; rfl
  · intro k q pt avs H x _ h; cases h
  · intro k avs H o h
    try dsimp only at h
    split at h
    · cases h; exact impl_isType.eq _ _
    · cases h

def impl_TypesOk_1.a : FnA (Bool) := ⟨6, [.tmp 2], .bool, [], [], fun x H => match x, H with
  | .bs false r, [] => some r
  | _, _ => none⟩
def impl_TypesOk_1.s : Spec := mkS [.val] (fun k avs H => match avs, H with
  | [.v (.string a0)], [] => some (impl_TypesOk_1.f a0)
  | _, _ => none) (fun r => (.bs false r, []))
def impl_TypesOk_1.E : Env := [((67, []), impl_isType.s)]
def impl_TypesOk_1.G (k p : Nat) (avs : List AV) (H : List HE) : Option (Bool) := none
set_option maxRecDepth 100000 in
theorem impl_TypesOk_1.eq (k : Nat) (a0 : ByteArray) : fromTop Tryd.prog impl_TypesOk_1.E k impl_TypesOk_1.a (impl_TypesOk_1.G k) 1000 (bodyOf Tryd.prog 115) [.v (.string a0)] [] = impl_TypesOk_1.f a0 := by kernel_rfl
theorem impl_TypesOk_1.E_ok : EnvOk Tryd.prog impl_TypesOk_1.E := ⟨⟨impl_isType.sound, callable_of (by kernel_rfl)⟩, trivial⟩
theorem impl_TypesOk_1.sound : Sound Tryd.prog 115 impl_TypesOk_1.s := by
  refine func_sound (f := impl_TypesOk_1.a) (G := impl_TypesOk_1.G) (fn := Tryd.f115) (body := bodyOf Tryd.prog 115) 1000 (by kernel_rfl) impl_TypesOk_1.E_ok Tryd.func115 (by kernel_rfl) (by kernel_rfl) (by kernel_rfl) (ptsOk_of (by kernel_rfl)) ?_ ?_ ?_ ?_
  · intro r H x h
    unfold impl_TypesOk_1.a at h
    simp only at h
    split at h
    · cases h; rfl
    · cases h
  · intro q avs H; rfl
  · intro k q pt avs H x _ h; cases h
  · intro k avs H o h
    try dsimp only at h
    split at h
    · cases h; exact impl_TypesOk_1.eq _ _
    · cases h

def slices_IndexFunc_string_at_impl_TypesOk_1.a : FnA (Int) := ⟨19, [.tmp 4], .val, [], [⟨6, [0, 1, 7, 8], [.con .str, .fn 115 0 [], .val, .val], []⟩], fun x H => match x, H with
  | .v (.int .i64 r), [] => some r
  | _, _ => none⟩
def slices_IndexFunc_string_at_impl_TypesOk_1.s : Spec := mkS [.con .str, .fn 115 0 []] (fun k avs H => match avs, H with
  | [.con .str a0, .fn 115 0 []], [] => some (slices_IndexFunc_string_at_impl_TypesOk_1.f k a0)
  | _, _ => none) (fun r => (.v (.int .i64 r), []))
def slices_IndexFunc_string_at_impl_TypesOk_1.E : Env := [((115, []), impl_TypesOk_1.s)]
def slices_IndexFunc_string_at_impl_TypesOk_1.G6 (k : Nat) (avs : List AV) (H : List HE) : Option (Int) := match avs, H with
  | [.con .str x0, .fn 115 0 [], .v (.int .i64 x7), .v (.int .i64 x8)], [] => slices_IndexFunc_string_at_impl_TypesOk_1.p6 k x0 x7 x8
  | _, _ => none
def slices_IndexFunc_string_at_impl_TypesOk_1.G (k p : Nat) (avs : List AV) (H : List HE) : Option (Int) := (pick1 6 (slices_IndexFunc_string_at_impl_TypesOk_1.G6 k avs H) none p)
set_option maxRecDepth 100000 in
theorem slices_IndexFunc_string_at_impl_TypesOk_1.eq (k : Nat) (a0 : List ByteArray) : fromTop Tryd.prog slices_IndexFunc_string_at_impl_TypesOk_1.E k slices_IndexFunc_string_at_impl_TypesOk_1.a (slices_IndexFunc_string_at_impl_TypesOk_1.G k) 1000 (bodyOf Tryd.prog 140) [.con .str a0, .fn 115 0 []] [] = slices_IndexFunc_string_at_impl_TypesOk_1.f k a0 := by kernel_rfl
set_option maxRecDepth 100000 in
theorem slices_IndexFunc_string_at_impl_TypesOk_1.eq6 (k : Nat) (x0 : List ByteArray) (x7 : Int) (x8 : Int) : fromPt Tryd.prog slices_IndexFunc_string_at_impl_TypesOk_1.E k slices_IndexFunc_string_at_impl_TypesOk_1.a (slices_IndexFunc_string_at_impl_TypesOk_1.G k) 1000 (bodyOf Tryd.prog 140) 6 [.con .str x0, .fn 115 0 [], .v (.int .i64 x7), .v (.int .i64 x8)] [] = slices_IndexFunc_string_at_impl_TypesOk_1.p6 (k + 1) x0 x7 x8 := by kernel_rfl
theorem slices_IndexFunc_string_at_impl_TypesOk_1.G6_0 {avs : List AV} {H : List HE} : slices_IndexFunc_string_at_impl_TypesOk_1.G6 0 avs H = none := by unfold slices_IndexFunc_string_at_impl_TypesOk_1.G6; split <;> rfl
theorem slices_IndexFunc_string_at_impl_TypesOk_1.G6_s (k : Nat) {avs : List AV} {H : List HE} {x : Int} (h : slices_IndexFunc_string_at_impl_TypesOk_1.G6 (k + 1) avs H = some x) : fromPt Tryd.prog slices_IndexFunc_string_at_impl_TypesOk_1.E k slices_IndexFunc_string_at_impl_TypesOk_1.a (slices_IndexFunc_string_at_impl_TypesOk_1.G k) 1000 (bodyOf Tryd.prog 140) 6 avs H = some x := by
  unfold slices_IndexFunc_string_at_impl_TypesOk_1.G6 at h
  split at h
  · rw [← h]; exact slices_IndexFunc_string_at_impl_TypesOk_1.eq6 _ _ _ _
  · cases h
theorem slices_IndexFunc_string_at_impl_TypesOk_1.E_ok : EnvOk Tryd.prog slices_IndexFunc_string_at_impl_TypesOk_1.E := ⟨⟨impl_TypesOk_1.sound, callable_of (by kernel_rfl)⟩, trivial⟩
theorem slices_IndexFunc_string_at_impl_TypesOk_1.sound : Sound Tryd.prog 140 slices_IndexFunc_string_at_impl_TypesOk_1.s := by
  refine func_sound (f := slices_IndexFunc_string_at_impl_TypesOk_1.a) (G := slices_IndexFunc_string_at_impl_TypesOk_1.G) (fn := Tryd.f140) (body := bodyOf Tryd.prog 140) 1000 (by kernel_rfl) slices_IndexFunc_string_at_impl_TypesOk_1.E_ok Tryd.func140 (by kernel_rfl) (by kernel_rfl) (by kernel_rfl) (ptsOk_of (by kernel_rfl)) ?_ ?_ ?_ ?_
  · intro r H x h
    unfold slices_IndexFunc_string_at_impl_TypesOk_1.a at h
    simp only at h
    split at h
    · cases h; rfl
    · cases h
  · exact fun q avs H => pick1_none slices_IndexFunc_string_at_impl_TypesOk_1.G6_0 (rfl)
  · intro k q pt avs H x _ h
    rcases pick1_some h with ⟨rfl, h⟩ | h
    · exact slices_IndexFunc_string_at_impl_TypesOk_1.G6_s _ h
    cases h
  · intro k avs H o h
    try dsimp only at h
    split at h
    · cases h; exact slices_IndexFunc_string_at_impl_TypesOk_1.eq _ _
    · cases h

def slices_ContainsFunc_string_at_impl_TypesOk_1.a : FnA (Bool) := ⟨9, [.tmp 4], .bool, [], [], fun x H => match x, H with
  | .bs false r, [] => some r
  | _, _ => none⟩
def slices_ContainsFunc_string_at_impl_TypesOk_1.s : Spec := mkS [.con .str, .fn 115 0 []] (fun k avs H => match avs, H with
  | [.con .str a0, .fn 115 0 []], [] => some (slices_ContainsFunc_string_at_impl_TypesOk_1.f k a0)
  | _, _ => none) (fun r => (.bs false r, []))
def slices_ContainsFunc_string_at_impl_TypesOk_1.E : Env := [((140, [115]), slices_IndexFunc_string_at_impl_TypesOk_1.s)]
def slices_ContainsFunc_string_at_impl_TypesOk_1.G (k p : Nat) (avs : List AV) (H : List HE) : Option (Bool) := none
set_option maxRecDepth 100000 in
theorem slices_ContainsFunc_string_at_impl_TypesOk_1.eq (k : Nat) (a0 : List ByteArray) : fromTop Tryd.prog slices_ContainsFunc_string_at_impl_TypesOk_1.E k slices_ContainsFunc_string_at_impl_TypesOk_1.a (slices_ContainsFunc_string_at_impl_TypesOk_1.G k) 1000 (bodyOf Tryd.prog 114) [.con .str a0, .fn 115 0 []] [] = slices_ContainsFunc_string_at_impl_TypesOk_1.f k a0 := by kernel_rfl
theorem slices_ContainsFunc_string_at_impl_TypesOk_1.E_ok : EnvOk Tryd.prog slices_ContainsFunc_string_at_impl_TypesOk_1.E := ⟨⟨slices_IndexFunc_string_at_impl_TypesOk_1.sound, callable_of (by kernel_rfl)⟩, trivial⟩
theorem slices_ContainsFunc_string_at_impl_TypesOk_1.sound : Sound Tryd.prog 114 slices_ContainsFunc_string_at_impl_TypesOk_1.s := by
  refine func_sound (f := slices_ContainsFunc_string_at_impl_TypesOk_1.a) (G := slices_ContainsFunc_string_at_impl_TypesOk_1.G) (fn := Tryd.f114) (body := bodyOf Tryd.prog 114) 1000 (by kernel_rfl) slices_ContainsFunc_string_at_impl_TypesOk_1.E_ok Tryd.func114 (by kernel_rfl) (by kernel_rfl) (by kernel_rfl) (ptsOk_of (by kernel_rfl)) ?_ ?_ ?_ ?_
  · intro r H x h
    unfold slices_ContainsFunc_string_at_impl_TypesOk_1.a at h
    simp only at h
    split at h
    · cases h; rfl
    · cases h
  · intro q avs H; rfl
  · intro k q pt avs H x _ h; cases h
  · intro k avs H o h
    try dsimp only at h
    split at h
    · cases h; exact slices_ContainsFunc_string_at_impl_TypesOk_1.eq _ _
    · cases h

def impl_TypesOk.a : FnA (Bool) := ⟨11, [.tmp 2], .bool, [], [], fun x H => match x, H with
  | .bs false r, [] => some r
  | _, _ => none⟩
def impl_TypesOk.s : Spec := mkS [.con .str] (fun k avs H => match avs, H with
  | [.con .str a0], [] => some (impl_TypesOk.f k a0)
  | _, _ => none) (fun r => (.bs false r, []))
def impl_TypesOk.E : Env := [((52, []), impl_size_string.s), ((51, []), impl_within.s), ((114, [115]), slices_ContainsFunc_string_at_impl_TypesOk_1.s)]
def impl_TypesOk.G (k p : Nat) (avs : List AV) (H : List HE) : Option (Bool) := none
set_option maxRecDepth 100000 in
theorem impl_TypesOk.eq (k : Nat) (a0 : List ByteArray) : fromTop Tryd.prog impl_TypesOk.E k impl_TypesOk.a (impl_TypesOk.G k) 1000 (bodyOf Tryd.prog 77) [.con .str a0] [] = impl_TypesOk.f k a0 := by kernel_rfl
theorem impl_TypesOk.E_ok : EnvOk Tryd.prog impl_TypesOk.E := ⟨⟨impl_size_string.sound, callable_of (by kernel_rfl)⟩, ⟨impl_within.sound, callable_of (by kernel_rfl)⟩, ⟨slices_ContainsFunc_string_at_impl_TypesOk_1.sound, callable_of (by kernel_rfl)⟩, trivial⟩
theorem impl_TypesOk.sound : Sound Tryd.prog 77 impl_TypesOk.s := by
  refine func_sound (f := impl_TypesOk.a) (G := impl_TypesOk.G) (fn := Tryd.f77) (body := bodyOf Tryd.prog 77) 1000 (by kernel_rfl) impl_TypesOk.E_ok Tryd.func77 (by kernel_rfl) (by kernel_rfl) (by kernel_rfl) (ptsOk_of (by kernel_rfl)) ?_ ?_ ?_ ?_
  · intro r H x h
    unfold impl_TypesOk.a at h
    simp only at h
    split at h
    · cases h; rfl
    · cases h
  · intro q avs H; rfl
  · intro k q pt avs H x _ h; cases h
  · intro k avs H o h
    try dsimp only at h
    split at h
    · cases h; exact impl_TypesOk.eq _ _
    · cases h

def impl_ConfigOk.a : FnA (Bool) := ⟨25, [.tmp 2], .bool, [], [], fun x H => match x, H with
  | .bs false r, [] => some r
  | _, _ => none⟩
def impl_ConfigOk.s : Spec := mkS [.agg [.val, .val, .val, .con .str]] (fun k avs H => match avs, H with
  | [.agg [.v (.int .i64 a0_0), .v (.int .i64 a0_1), .v (.int .i64 a0_2), .con .str a0_3]], [] => some (impl_ConfigOk.f k a0_0 a0_1 a0_2 a0_3)
  | _, _ => none) (fun r => (.bs false r, []))
def impl_ConfigOk.E : Env := [((51, []), impl_within.s), ((77, []), impl_TypesOk.s)]
def impl_ConfigOk.G (k p : Nat) (avs : List AV) (H : List HE) : Option (Bool) := none
set_option maxRecDepth 100000 in
theorem impl_ConfigOk.eq (k : Nat) (a0_0 : Int) (a0_1 : Int) (a0_2 : Int) (a0_3 : List ByteArray) : fromTop Tryd.prog impl_ConfigOk.E k impl_ConfigOk.a (impl_ConfigOk.G k) 1000 (bodyOf Tryd.prog 47) [.agg [.v (.int .i64 a0_0), .v (.int .i64 a0_1), .v (.int .i64 a0_2), .con .str a0_3]] [] = impl_ConfigOk.f k a0_0 a0_1 a0_2 a0_3 := by kernel_rfl
theorem impl_ConfigOk.E_ok : EnvOk Tryd.prog impl_ConfigOk.E := ⟨⟨impl_within.sound, callable_of (by kernel_rfl)⟩, ⟨impl_TypesOk.sound, callable_of (by kernel_rfl)⟩, trivial⟩
theorem impl_ConfigOk.sound : Sound Tryd.prog 47 impl_ConfigOk.s := by
  refine func_sound (f := impl_ConfigOk.a) (G := impl_ConfigOk.G) (fn := Tryd.f47) (body := bodyOf Tryd.prog 47) 1000 (by kernel_rfl) impl_ConfigOk.E_ok Tryd.func47 (by kernel_rfl) (by kernel_rfl) (by kernel_rfl) (ptsOk_of (by kernel_rfl)) ?_ ?_ ?_ ?_
  · intro r H x h
    unfold impl_ConfigOk.a at h
    simp only at h
    split at h
    · cases h; rfl
    · cases h
  · intro q avs H; rfl
  · intro k q pt avs H x _ h; cases h
  · intro k avs H o h
    try dsimp only at h
    split at h
    · cases h; exact impl_ConfigOk.eq _ _ _ _ _
    · cases h

def impl_ShortBytes.a : FnA (ByteArray) := ⟨13, [.tmp 2], .val, [], [], fun x H => match x, H with
  | .v (.string r), [] => some r
  | _, _ => none⟩
def impl_ShortBytes.s : Spec := mkS [.val] (fun k avs H => match avs, H with
  | [.v (.int .i64 a0)], [] => some (impl_ShortBytes.f a0)
  | _, _ => none) (fun r => (.v (.string r), []))
def impl_ShortBytes.E : Env := [((51, []), impl_within.s)]
def impl_ShortBytes.G (k p : Nat) (avs : List AV) (H : List HE) : Option (ByteArray) := none
set_option maxRecDepth 100000 in
theorem impl_ShortBytes.eq (k : Nat) (a0 : Int) : fromTop Tryd.prog impl_ShortBytes.E k impl_ShortBytes.a (impl_ShortBytes.G k) 1000 (bodyOf Tryd.prog 129) [.v (.int .i64 a0)] [] = impl_ShortBytes.f a0 := by kernel_rfl
theorem impl_ShortBytes.E_ok : EnvOk Tryd.prog impl_ShortBytes.E := ⟨⟨impl_within.sound, callable_of (by kernel_rfl)⟩, trivial⟩
theorem impl_ShortBytes.sound : Sound Tryd.prog 129 impl_ShortBytes.s := by
  refine func_sound (f := impl_ShortBytes.a) (G := impl_ShortBytes.G) (fn := Tryd.f129) (body := bodyOf Tryd.prog 129) 1000 (by kernel_rfl) impl_ShortBytes.E_ok Tryd.func129 (by kernel_rfl) (by kernel_rfl) (by kernel_rfl) (ptsOk_of (by kernel_rfl)) ?_ ?_ ?_ ?_
  · intro r H x h
    unfold impl_ShortBytes.a at h
    simp only at h
    split at h
    · cases h; rfl
    · cases h
  · intro q avs H; rfl
  · intro k q pt avs H x _ h; cases h
  · intro k avs H o h
    try dsimp only at h
    split at h
    · cases h; exact impl_ShortBytes.eq _ _
    · cases h

def strings_Repeat.s : Spec := mkS [.val, .val] (fun _ avs H => match avs, H with
  | [.v (.string a0), .v (.int .i64 a1)], [] => some (strings_Repeat.f a0 a1)
  | _, _ => none) (fun r => (.v (.string r), []))
theorem strings_Repeat.sound : Sound Tryd.prog 124 strings_Repeat.s := by
  refine sound_plain (emb := fun r => .v (.string r)) ?_
  intro k avs H o x h hx
  split at h
  case h_2 => cases h
  rename_i a0 a1
  cases h
  refine ⟨rfl, fun M w ρ hp vals hr => ?_⟩
  obtain ⟨v0, q0, rfl, rfl, v1, q1, rfl, rfl, rfl⟩ := hr
  unfold strings_Repeat.f at hx
  split at hx
  case isFalse => cases hx
  rename_i h0
  split at hx
  case isFalse => cases hx
  rename_i h1
  split at hx
  case isFalse => cases hx
  rename_i h2
  cases hx
  obtain ⟨c, rfl⟩ := Int.eq_ofNat_of_zero_le h0
  rw [Int.toNat_natCast]
  have hb : a0.size * c ≤ 1048576 * 1048576 := Nat.mul_le_mul h2 (by omega)
  refine (Go.Proofs.Tryd.strings_Repeat a0 c w (by omega) (by omega)).mono ?_
  rintro e w' ⟨rfl, hb⟩
  exact ⟨_, rfl, hb, fun _ _ _ _ => rfl⟩

def impl_zeros.a : FnA (ByteArray) := ⟨5, [.tmp 2], .val, [], [], fun x H => match x, H with
  | .v (.string r), [] => some r
  | _, _ => none⟩
def impl_zeros.s : Spec := mkS [.val] (fun k avs H => match avs, H with
  | [.v (.int .i64 a0)], [] => some (impl_zeros.f a0)
  | _, _ => none) (fun r => (.v (.string r), []))
def impl_zeros.E : Env := [((124, []), strings_Repeat.s)]
def impl_zeros.G (k p : Nat) (avs : List AV) (H : List HE) : Option (ByteArray) := none
set_option maxRecDepth 100000 in
theorem impl_zeros.eq (k : Nat) (a0 : Int) : fromTop Tryd.prog impl_zeros.E k impl_zeros.a (impl_zeros.G k) 1000 (bodyOf Tryd.prog 94) [.v (.int .i64 a0)] [] = impl_zeros.f a0 := by kernel_rfl
theorem impl_zeros.E_ok : EnvOk Tryd.prog impl_zeros.E := ⟨⟨strings_Repeat.sound, callable_of (by kernel_rfl)⟩, trivial⟩
theorem impl_zeros.sound : Sound Tryd.prog 94 impl_zeros.s := by
  refine func_sound (f := impl_zeros.a) (G := impl_zeros.G) (fn := Tryd.f94) (body := bodyOf Tryd.prog 94) 1000 (by kernel_rfl) impl_zeros.E_ok Tryd.func94 (by kernel_rfl) (by kernel_rfl) (by kernel_rfl) (ptsOk_of (by kernel_rfl)) ?_ ?_ ?_ ?_
  · intro r H x h
    unfold impl_zeros.a at h
    simp only at h
    split at h
    · cases h; rfl
    · cases h
  · intro q avs H; rfl
  · intro k q pt avs H x _ h; cases h
  · intro k avs H o h
    try dsimp only at h
    split at h
    · cases h; exact impl_zeros.eq _ _
    · cases h

def impl_Sealed.a : FnA (ByteArray) := ⟨16, [.tmp 2], .val, [], [], fun x H => match x, H with
  | .v (.string r), [] => some r
  | _, _ => none⟩
def impl_Sealed.s : Spec := mkS [.val] (fun k avs H => match avs, H with
  | [.v (.string a0)], [] => some (impl_Sealed.f k a0)
  | _, _ => none) (fun r => (.v (.string r), []))
def impl_Sealed.E : Env := [((94, []), impl_zeros.s), ((128, []), impl_Crc.s)]
def impl_Sealed.G (k p : Nat) (avs : List AV) (H : List HE) : Option (ByteArray) := none
set_option maxRecDepth 100000 in
theorem impl_Sealed.eq (k : Nat) (a0 : ByteArray) : fromTop Tryd.prog impl_Sealed.E k impl_Sealed.a (impl_Sealed.G k) 1000 (bodyOf Tryd.prog 130) [.v (.string a0)] [] = impl_Sealed.f k a0 := by kernel_rfl
theorem impl_Sealed.E_ok : EnvOk Tryd.prog impl_Sealed.E := ⟨⟨impl_zeros.sound, callable_of (by kernel_rfl)⟩, ⟨impl_Crc.sound, callable_of (by kernel_rfl)⟩, trivial⟩
theorem impl_Sealed.sound : Sound Tryd.prog 130 impl_Sealed.s := by
  refine func_sound (f := impl_Sealed.a) (G := impl_Sealed.G) (fn := Tryd.f130) (body := bodyOf Tryd.prog 130) 1000 (by kernel_rfl) impl_Sealed.E_ok Tryd.func130 (by kernel_rfl) (by kernel_rfl) (by kernel_rfl) (ptsOk_of (by kernel_rfl)) ?_ ?_ ?_ ?_
  · intro r H x h
    unfold impl_Sealed.a at h
    simp only at h
    split at h
    · cases h; rfl
    · cases h
  · intro q avs H; rfl
  · intro k q pt avs H x _ h; cases h
  · intro k avs H o h
    try dsimp only at h
    split at h
    · cases h; exact impl_Sealed.eq _ _
    · cases h

def impl_SuperLine.a : FnA (ByteArray) := ⟨69, [.tmp 2], .val, [], [⟨16, [3, 31, 32, 33], [.val, .con .str, .val, .val], []⟩, ⟨33, [3, 5, 6, 31, 32, 33, 38, 39], [.val, .val, .val, .con .str, .val, .val, .val, .val], []⟩], fun x H => match x, H with
  | .v (.string r), [] => some r
  | _, _ => none⟩
def impl_SuperLine.s : Spec := mkS [.agg [.val, .val, .val, .con .str]] (fun k avs H => match avs, H with
  | [.agg [.v (.int .i64 a0_0), .v (.int .i64 a0_1), .v (.int .i64 a0_2), .con .str a0_3]], [] => some (impl_SuperLine.f k a0_0 a0_1 a0_2 a0_3)
  | _, _ => none) (fun r => (.v (.string r), []))
def impl_SuperLine.E : Env := [((47, []), impl_ConfigOk.s), ((129, []), impl_ShortBytes.s), ((130, []), impl_Sealed.s)]
def impl_SuperLine.G16 (k : Nat) (avs : List AV) (H : List HE) : Option (ByteArray) := match avs, H with
  | [.v (.string x3), .con .str x31, .v (.int .i64 x32), .v (.int .i64 x33)], [] => impl_SuperLine.p16 k x3 x31 x32 x33
  | _, _ => none
def impl_SuperLine.G33 (k : Nat) (avs : List AV) (H : List HE) : Option (ByteArray) := match avs, H with
  | [.v (.string x3), .v (.string x5), .v (.int .i64 x6), .con .str x31, .v (.int .i64 x32), .v (.int .i64 x33), .v (.int .i64 x38), .v (.int .i64 x39)], [] => impl_SuperLine.p33 k x3 x5 x6 x31 x32 x33 x38 x39
  | _, _ => none
def impl_SuperLine.G (k p : Nat) (avs : List AV) (H : List HE) : Option (ByteArray) := (pick1 16 (impl_SuperLine.G16 k avs H) (pick1 33 (impl_SuperLine.G33 k avs H) none p) p)
set_option maxRecDepth 100000 in
theorem impl_SuperLine.eq (k : Nat) (a0_0 : Int) (a0_1 : Int) (a0_2 : Int) (a0_3 : List ByteArray) : fromTop Tryd.prog impl_SuperLine.E k impl_SuperLine.a (impl_SuperLine.G k) 1000 (bodyOf Tryd.prog 102) [.agg [.v (.int .i64 a0_0), .v (.int .i64 a0_1), .v (.int .i64 a0_2), .con .str a0_3]] [] = impl_SuperLine.f k a0_0 a0_1 a0_2 a0_3 := by kernel_rfl
set_option maxRecDepth 100000 in
theorem impl_SuperLine.eq16 (k : Nat) (x3 : ByteArray) (x31 : List ByteArray) (x32 : Int) (x33 : Int) : fromPt Tryd.prog impl_SuperLine.E k impl_SuperLine.a (impl_SuperLine.G k) 1000 (bodyOf Tryd.prog 102) 16 [.v (.string x3), .con .str x31, .v (.int .i64 x32), .v (.int .i64 x33)] [] = impl_SuperLine.p16 (k + 1) x3 x31 x32 x33 := by kernel_rfl
theorem impl_SuperLine.G16_0 {avs : List AV} {H : List HE} : impl_SuperLine.G16 0 avs H = none := by unfold impl_SuperLine.G16; split <;> rfl
theorem impl_SuperLine.G16_s (k : Nat) {avs : List AV} {H : List HE} {x : ByteArray} (h : impl_SuperLine.G16 (k + 1) avs H = some x) : fromPt Tryd.prog impl_SuperLine.E k impl_SuperLine.a (impl_SuperLine.G k) 1000 (bodyOf Tryd.prog 102) 16 avs H = some x := by
  unfold impl_SuperLine.G16 at h
  split at h
  · rw [← h]; exact impl_SuperLine.eq16 _ _ _ _ _
  · cases h
set_option maxRecDepth 100000 in
theorem impl_SuperLine.eq33 (k : Nat) (x3 : ByteArray) (x5 : ByteArray) (x6 : Int) (x31 : List ByteArray) (x32 : Int) (x33 : Int) (x38 : Int) (x39 : Int) : fromPt Tryd.prog impl_SuperLine.E k impl_SuperLine.a (impl_SuperLine.G k) 1000 (bodyOf Tryd.prog 102) 33 [.v (.string x3), .v (.string x5), .v (.int .i64 x6), .con .str x31, .v (.int .i64 x32), .v (.int .i64 x33), .v (.int .i64 x38), .v (.int .i64 x39)] [] = impl_SuperLine.p33 (k + 1) x3 x5 x6 x31 x32 x33 x38 x39 := by kernel_rfl
theorem impl_SuperLine.G33_0 {avs : List AV} {H : List HE} : impl_SuperLine.G33 0 avs H = none := by unfold impl_SuperLine.G33; split <;> rfl
theorem impl_SuperLine.G33_s (k : Nat) {avs : List AV} {H : List HE} {x : ByteArray} (h : impl_SuperLine.G33 (k + 1) avs H = some x) : fromPt Tryd.prog impl_SuperLine.E k impl_SuperLine.a (impl_SuperLine.G k) 1000 (bodyOf Tryd.prog 102) 33 avs H = some x := by
  unfold impl_SuperLine.G33 at h
  split at h
  · rw [← h]; exact impl_SuperLine.eq33 _ _ _ _ _ _ _ _ _
  · cases h
theorem impl_SuperLine.E_ok : EnvOk Tryd.prog impl_SuperLine.E := ⟨⟨impl_ConfigOk.sound, callable_of (by kernel_rfl)⟩, ⟨impl_ShortBytes.sound, callable_of (by kernel_rfl)⟩, ⟨impl_Sealed.sound, callable_of (by kernel_rfl)⟩, trivial⟩
theorem impl_SuperLine.sound : Sound Tryd.prog 102 impl_SuperLine.s := by
  refine func_sound (f := impl_SuperLine.a) (G := impl_SuperLine.G) (fn := Tryd.f102) (body := bodyOf Tryd.prog 102) 1000 (by kernel_rfl) impl_SuperLine.E_ok Tryd.func102 (by kernel_rfl) (by kernel_rfl) (by kernel_rfl) (ptsOk_of (by kernel_rfl)) ?_ ?_ ?_ ?_
  · intro r H x h
    unfold impl_SuperLine.a at h
    simp only at h
    split at h
    · cases h; rfl
    · cases h
  · exact fun q avs H => pick1_none impl_SuperLine.G16_0 (pick1_none impl_SuperLine.G33_0 (rfl))
  · intro k q pt avs H x _ h
    rcases pick1_some h with ⟨rfl, h⟩ | h
    · exact impl_SuperLine.G16_s _ h
    rcases pick1_some h with ⟨rfl, h⟩ | h
    · exact impl_SuperLine.G33_s _ h
    cases h
  · intro k avs H o h
    try dsimp only at h
    split at h
    · cases h; exact impl_SuperLine.eq _ _ _ _ _
    · cases h

def impl_ReadSuper.a : FnA (Int × Int × Int × List ByteArray × Bool) := ⟨112, [.cell 2 29, .tmp 3], .tup [.agg [.val, .val, .val, .row 9 .str], .bool], [], [⟨7, [0, 2, 4, 23], [.val, .box [.val, .val, .val, .val], .val, .bool], []⟩, ⟨24, [0, 2, 4, 6, 49, 50], [.val, .box [.val, .val, .val, .val], .val, .box [.val, .val, .val, .row 9 .str], .val, .val], []⟩, ⟨45, [0, 2, 4, 6, 9, 10, 49, 50, 77, 78], [.val, .box [.val, .val, .val, .val], .val, .box [.val, .val, .val, .row 9 .str], .val, .row 5 (.int .u8), .val, .val, .val, .val], []⟩], fun x H => match x, H with
  | .tup [.agg [.v (.int .i64 r_0_0), .v (.int .i64 r_0_1), .v (.int .i64 r_0_2), .own 0], .bs false r_1], [.row 9 .str r_0_3] => some (r_0_0, r_0_1, r_0_2, r_0_3, r_1)
  | _, _ => none⟩
def impl_ReadSuper.s : Spec := mkS [.val] (fun k avs H => match avs, H with
  | [.v (.string a0)], [] => some (impl_ReadSuper.f k a0)
  | _, _ => none) (fun r => (.tup [.agg [.v (.int .i64 r.1), .v (.int .i64 r.2.1), .v (.int .i64 r.2.2.1), .own 0], .bs false r.2.2.2.2], [.row 9 .str r.2.2.2.1]))
def impl_ReadSuper.E : Env := [((100, []), impl_Unsealed.s), ((47, []), impl_ConfigOk.s), ((102, []), impl_SuperLine.s), ((101, []), impl_ReadShort.s)]
def impl_ReadSuper.G7 (k : Nat) (avs : List AV) (H : List HE) : Option (Int × Int × Int × List ByteArray × Bool) := match avs, H with
  | [.v (.string x0), .box 0 0, .v (.string x4), .bs false x23], [.box [.v (.int .i64 x2_0), .v (.int .i64 x2_1), .v (.int .i64 x2_2), .v (.slice none 0 0)]] => impl_ReadSuper.p7 k x0 x2_0 x2_1 x2_2 x4 x23
  | _, _ => none
def impl_ReadSuper.G24 (k : Nat) (avs : List AV) (H : List HE) : Option (Int × Int × Int × List ByteArray × Bool) := match avs, H with
  | [.v (.string x0), .box 0 0, .v (.string x4), .box 1 0, .v (.int .i64 x49), .v (.int .i64 x50)], [.box [.v (.int .i64 x2_0), .v (.int .i64 x2_1), .v (.int .i64 x2_2), .v (.slice none 0 0)], .box [.v (.int .i64 x6_0), .v (.int .i64 x6_1), .v (.int .i64 x6_2), .own 2], .row 9 .str x6_3] => impl_ReadSuper.p24 k x0 x2_0 x2_1 x2_2 x4 x6_0 x6_1 x6_2 x6_3 x49 x50
  | _, _ => none
def impl_ReadSuper.G45 (k : Nat) (avs : List AV) (H : List HE) : Option (Int × Int × Int × List ByteArray × Bool) := match avs, H with
  | [.v (.string x0), .box 0 0, .v (.string x4), .box 1 0, .v (.int .i64 x9), .own 3, .v (.int .i64 x49), .v (.int .i64 x50), .v (.int .i64 x77), .v (.int .i64 x78)], [.box [.v (.int .i64 x2_0), .v (.int .i64 x2_1), .v (.int .i64 x2_2), .v (.slice none 0 0)], .box [.v (.int .i64 x6_0), .v (.int .i64 x6_1), .v (.int .i64 x6_2), .own 2], .row 9 .str x6_3, .row 5 (.int .u8) x10] => impl_ReadSuper.p45 k x0 x2_0 x2_1 x2_2 x4 x6_0 x6_1 x6_2 x6_3 x9 x10 x49 x50 x77 x78
  | _, _ => none
def impl_ReadSuper.G (k p : Nat) (avs : List AV) (H : List HE) : Option (Int × Int × Int × List ByteArray × Bool) := (pick1 7 (impl_ReadSuper.G7 k avs H) (pick1 24 (impl_ReadSuper.G24 k avs H) (pick1 45 (impl_ReadSuper.G45 k avs H) none p) p) p)
set_option maxRecDepth 100000 in
theorem impl_ReadSuper.eq (k : Nat) (a0 : ByteArray) : fromTop Tryd.prog impl_ReadSuper.E k impl_ReadSuper.a (impl_ReadSuper.G k) 1000 (bodyOf Tryd.prog 57) [.v (.string a0)] [] = impl_ReadSuper.f k a0 := by kernel_rfl
set_option maxRecDepth 100000 in
theorem impl_ReadSuper.eq7 (k : Nat) (x0 : ByteArray) (x2_0 : Int) (x2_1 : Int) (x2_2 : Int) (x4 : ByteArray) (x23 : Bool) : fromPt Tryd.prog impl_ReadSuper.E k impl_ReadSuper.a (impl_ReadSuper.G k) 1000 (bodyOf Tryd.prog 57) 7 [.v (.string x0), .box 0 0, .v (.string x4), .bs false x23] [.box [.v (.int .i64 x2_0), .v (.int .i64 x2_1), .v (.int .i64 x2_2), .v (.slice none 0 0)]] = impl_ReadSuper.p7 (k + 1) x0 x2_0 x2_1 x2_2 x4 x23 := by kernel_rfl
theorem impl_ReadSuper.G7_0 {avs : List AV} {H : List HE} : impl_ReadSuper.G7 0 avs H = none := by unfold impl_ReadSuper.G7; split <;> rfl
theorem impl_ReadSuper.G7_s (k : Nat) {avs : List AV} {H : List HE} {x : Int × Int × Int × List ByteArray × Bool} (h : impl_ReadSuper.G7 (k + 1) avs H = some x) : fromPt Tryd.prog impl_ReadSuper.E k impl_ReadSuper.a (impl_ReadSuper.G k) 1000 (bodyOf Tryd.prog 57) 7 avs H = some x := by
  unfold impl_ReadSuper.G7 at h
  split at h
  · rw [← h]; exact impl_ReadSuper.eq7 _ _ _ _ _ _ _
  · cases h
set_option maxRecDepth 100000 in
theorem impl_ReadSuper.eq24 (k : Nat) (x0 : ByteArray) (x2_0 : Int) (x2_1 : Int) (x2_2 : Int) (x4 : ByteArray) (x6_0 : Int) (x6_1 : Int) (x6_2 : Int) (x6_3 : List ByteArray) (x49 : Int) (x50 : Int) : fromPt Tryd.prog impl_ReadSuper.E k impl_ReadSuper.a (impl_ReadSuper.G k) 1000 (bodyOf Tryd.prog 57) 24 [.v (.string x0), .box 0 0, .v (.string x4), .box 1 0, .v (.int .i64 x49), .v (.int .i64 x50)] [.box [.v (.int .i64 x2_0), .v (.int .i64 x2_1), .v (.int .i64 x2_2), .v (.slice none 0 0)], .box [.v (.int .i64 x6_0), .v (.int .i64 x6_1), .v (.int .i64 x6_2), .own 2], .row 9 .str x6_3] = impl_ReadSuper.p24 (k + 1) x0 x2_0 x2_1 x2_2 x4 x6_0 x6_1 x6_2 x6_3 x49 x50 := by kernel_rfl
theorem impl_ReadSuper.G24_0 {avs : List AV} {H : List HE} : impl_ReadSuper.G24 0 avs H = none := by unfold impl_ReadSuper.G24; split <;> rfl
theorem impl_ReadSuper.G24_s (k : Nat) {avs : List AV} {H : List HE} {x : Int × Int × Int × List ByteArray × Bool} (h : impl_ReadSuper.G24 (k + 1) avs H = some x) : fromPt Tryd.prog impl_ReadSuper.E k impl_ReadSuper.a (impl_ReadSuper.G k) 1000 (bodyOf Tryd.prog 57) 24 avs H = some x := by
  unfold impl_ReadSuper.G24 at h
  split at h
  · rw [← h]; exact impl_ReadSuper.eq24 _ _ _ _ _ _ _ _ _ _ _ _
  · cases h
set_option maxRecDepth 100000 in
theorem impl_ReadSuper.eq45 (k : Nat) (x0 : ByteArray) (x2_0 : Int) (x2_1 : Int) (x2_2 : Int) (x4 : ByteArray) (x6_0 : Int) (x6_1 : Int) (x6_2 : Int) (x6_3 : List ByteArray) (x9 : Int) (x10 : List Int) (x49 : Int) (x50 : Int) (x77 : Int) (x78 : Int) : fromPt Tryd.prog impl_ReadSuper.E k impl_ReadSuper.a (impl_ReadSuper.G k) 1000 (bodyOf Tryd.prog 57) 45 [.v (.string x0), .box 0 0, .v (.string x4), .box 1 0, .v (.int .i64 x9), .own 3, .v (.int .i64 x49), .v (.int .i64 x50), .v (.int .i64 x77), .v (.int .i64 x78)] [.box [.v (.int .i64 x2_0), .v (.int .i64 x2_1), .v (.int .i64 x2_2), .v (.slice none 0 0)], .box [.v (.int .i64 x6_0), .v (.int .i64 x6_1), .v (.int .i64 x6_2), .own 2], .row 9 .str x6_3, .row 5 (.int .u8) x10] = impl_ReadSuper.p45 (k + 1) x0 x2_0 x2_1 x2_2 x4 x6_0 x6_1 x6_2 x6_3 x9 x10 x49 x50 x77 x78 := by kernel_rfl
theorem impl_ReadSuper.G45_0 {avs : List AV} {H : List HE} : impl_ReadSuper.G45 0 avs H = none := by unfold impl_ReadSuper.G45; split <;> rfl
theorem impl_ReadSuper.G45_s (k : Nat) {avs : List AV} {H : List HE} {x : Int × Int × Int × List ByteArray × Bool} (h : impl_ReadSuper.G45 (k + 1) avs H = some x) : fromPt Tryd.prog impl_ReadSuper.E k impl_ReadSuper.a (impl_ReadSuper.G k) 1000 (bodyOf Tryd.prog 57) 45 avs H = some x := by
  unfold impl_ReadSuper.G45 at h
  split at h
  · rw [← h]; exact impl_ReadSuper.eq45 _ _ _ _ _ _ _ _ _ _ _ _ _ _ _ _
  · cases h
theorem impl_ReadSuper.E_ok : EnvOk Tryd.prog impl_ReadSuper.E := ⟨⟨impl_Unsealed.sound, callable_of (by kernel_rfl)⟩, ⟨impl_ConfigOk.sound, callable_of (by kernel_rfl)⟩, ⟨impl_SuperLine.sound, callable_of (by kernel_rfl)⟩, ⟨impl_ReadShort.sound, callable_of (by kernel_rfl)⟩, trivial⟩
theorem impl_ReadSuper.sound : Sound Tryd.prog 57 impl_ReadSuper.s := by
  refine func_sound (f := impl_ReadSuper.a) (G := impl_ReadSuper.G) (fn := Tryd.f57) (body := bodyOf Tryd.prog 57) 1000 (by kernel_rfl) impl_ReadSuper.E_ok Tryd.func57 (by kernel_rfl) (by kernel_rfl) (by kernel_rfl) (ptsOk_of (by kernel_rfl)) ?_ ?_ ?_ ?_
  · intro r H x h
    unfold impl_ReadSuper.a at h
    simp only at h
    split at h
    · cases h; rfl
    · cases h
  · exact fun q avs H => pick1_none impl_ReadSuper.G7_0 (pick1_none impl_ReadSuper.G24_0 (pick1_none impl_ReadSuper.G45_0 (rfl)))
  · intro k q pt avs H x _ h
    rcases pick1_some h with ⟨rfl, h⟩ | h
    · exact impl_ReadSuper.G7_s _ h
    rcases pick1_some h with ⟨rfl, h⟩ | h
    · exact impl_ReadSuper.G24_s _ h
    rcases pick1_some h with ⟨rfl, h⟩ | h
    · exact impl_ReadSuper.G45_s _ h
    cases h
  · intro k avs H o h
    try dsimp only at h
    split at h
    · cases h; exact impl_ReadSuper.eq _ _
    · cases h

def impl_isImage.a : FnA (Bool) := ⟨15, [.tmp 4], .bool, [], [], fun x H => match x, H with
  | .bs false r, [] => some r
  | _, _ => none⟩
def impl_isImage.s : Spec := mkS [.agg [.val, .val, .val, .con .str], .val] (fun k avs H => match avs, H with
  | [.agg [.v (.int .i64 a0_0), .v (.int .i64 a0_1), .v (.int .i64 a0_2), .con .str a0_3], .v (.string a1)], [] => some (impl_isImage.f k a0_0 a0_1 a0_2 a0_3 a1)
  | _, _ => none) (fun r => (.bs false r, []))
def impl_isImage.E : Env := [((47, []), impl_ConfigOk.s)]
def impl_isImage.G (k p : Nat) (avs : List AV) (H : List HE) : Option (Bool) := none
set_option maxRecDepth 100000 in
theorem impl_isImage.eq (k : Nat) (a0_0 : Int) (a0_1 : Int) (a0_2 : Int) (a0_3 : List ByteArray) (a1 : ByteArray) : fromTop Tryd.prog impl_isImage.E k impl_isImage.a (impl_isImage.G k) 1000 (bodyOf Tryd.prog 58) [.agg [.v (.int .i64 a0_0), .v (.int .i64 a0_1), .v (.int .i64 a0_2), .con .str a0_3], .v (.string a1)] [] = impl_isImage.f k a0_0 a0_1 a0_2 a0_3 a1 := by kernel_rfl
theorem impl_isImage.E_ok : EnvOk Tryd.prog impl_isImage.E := ⟨⟨impl_ConfigOk.sound, callable_of (by kernel_rfl)⟩, trivial⟩
theorem impl_isImage.sound : Sound Tryd.prog 58 impl_isImage.s := by
  refine func_sound (f := impl_isImage.a) (G := impl_isImage.G) (fn := Tryd.f58) (body := bodyOf Tryd.prog 58) 1000 (by kernel_rfl) impl_isImage.E_ok Tryd.func58 (by kernel_rfl) (by kernel_rfl) (by kernel_rfl) (ptsOk_of (by kernel_rfl)) ?_ ?_ ?_ ?_
  · intro r H x h
    unfold impl_isImage.a at h
    simp only at h
    split at h
    · cases h; rfl
    · cases h
  · intro q avs H; rfl
  · intro k q pt avs H x _ h; cases h
  · intro k avs H o h
    try dsimp only at h
    split at h
    · cases h; exact impl_isImage.eq _ _ _ _ _ _
    · cases h

def impl_ConfigOf.a : FnA (Int × Int × Int × List ByteArray × Bool) := ⟨26, [.cell 2 29, .tmp 3], .tup [.agg [.val, .val, .val, .row 9 .str], .bool], [], [], fun x H => match x, H with
  | .tup [.agg [.v (.int .i64 r_0_0), .v (.int .i64 r_0_1), .v (.int .i64 r_0_2), .own 0], .bs false r_1], [.row 9 .str r_0_3] => some (r_0_0, r_0_1, r_0_2, r_0_3, r_1)
  | _, _ => none⟩
def impl_ConfigOf.s : Spec := mkS [.val] (fun k avs H => match avs, H with
  | [.v (.string a0)], [] => some (impl_ConfigOf.f k a0)
  | _, _ => none) (fun r => (.tup [.agg [.v (.int .i64 r.1), .v (.int .i64 r.2.1), .v (.int .i64 r.2.2.1), .own 0], .bs false r.2.2.2.2], [.row 9 .str r.2.2.2.1]))
def impl_ConfigOf.E : Env := [((57, []), impl_ReadSuper.s), ((58, []), impl_isImage.s)]
def impl_ConfigOf.G (k p : Nat) (avs : List AV) (H : List HE) : Option (Int × Int × Int × List ByteArray × Bool) := none
set_option maxRecDepth 100000 in
theorem impl_ConfigOf.eq (k : Nat) (a0 : ByteArray) : fromTop Tryd.prog impl_ConfigOf.E k impl_ConfigOf.a (impl_ConfigOf.G k) 1000 (bodyOf Tryd.prog 19) [.v (.string a0)] [] = impl_ConfigOf.f k a0 := by kernel_rfl
theorem impl_ConfigOf.E_ok : EnvOk Tryd.prog impl_ConfigOf.E := ⟨⟨impl_ReadSuper.sound, callable_of (by kernel_rfl)⟩, ⟨impl_isImage.sound, callable_of (by kernel_rfl)⟩, trivial⟩
theorem impl_ConfigOf.sound : Sound Tryd.prog 19 impl_ConfigOf.s := by
  refine func_sound (f := impl_ConfigOf.a) (G := impl_ConfigOf.G) (fn := Tryd.f19) (body := bodyOf Tryd.prog 19) 1000 (by kernel_rfl) impl_ConfigOf.E_ok Tryd.func19 (by kernel_rfl) (by kernel_rfl) (by kernel_rfl) (ptsOk_of (by kernel_rfl)) ?_ ?_ ?_ ?_
  · intro r H x h
    unfold impl_ConfigOf.a at h
    simp only at h
    split at h
    · cases h; rfl
    · cases h
  · intro q avs H; rfl
  · intro k q pt avs H x _ h; cases h
  · intro k avs H o h
    try dsimp only at h
    split at h
    · cases h; exact impl_ConfigOf.eq _ _
    · cases h

def laws_eqStringS.a : FnA (Bool) := ⟨26, [.tmp 4], .bool, [], [⟨14, [0, 1, 5], [.con .str, .con .str, .val], []⟩], fun x H => match x, H with
  | .bs false r, [] => some r
  | _, _ => none⟩
def laws_eqStringS.s : Spec := mkS [.con .str, .con .str] (fun k avs H => match avs, H with
  | [.con .str a0, .con .str a1], [] => some (laws_eqStringS.f k a0 a1)
  | _, _ => none) (fun r => (.bs false r, []))
def laws_eqStringS.E : Env := []
def laws_eqStringS.G14 (k : Nat) (avs : List AV) (H : List HE) : Option (Bool) := match avs, H with
  | [.con .str x0, .con .str x1, .v (.int .i64 x5)], [] => laws_eqStringS.p14 k x0 x1 x5
  | _, _ => none
def laws_eqStringS.G (k p : Nat) (avs : List AV) (H : List HE) : Option (Bool) := (pick1 14 (laws_eqStringS.G14 k avs H) none p)
set_option maxRecDepth 100000 in
theorem laws_eqStringS.eq (k : Nat) (a0 : List ByteArray) (a1 : List ByteArray) : fromTop Tryd.prog laws_eqStringS.E k laws_eqStringS.a (laws_eqStringS.G k) 1000 (bodyOf Tryd.prog 54) [.con .str a0, .con .str a1] [] = laws_eqStringS.f k a0 a1 := by kernel_rfl
set_option maxRecDepth 100000 in
theorem laws_eqStringS.eq14 (k : Nat) (x0 : List ByteArray) (x1 : List ByteArray) (x5 : Int) : fromPt Tryd.prog laws_eqStringS.E k laws_eqStringS.a (laws_eqStringS.G k) 1000 (bodyOf Tryd.prog 54) 14 [.con .str x0, .con .str x1, .v (.int .i64 x5)] [] = laws_eqStringS.p14 (k + 1) x0 x1 x5 := by kernel_rfl
theorem laws_eqStringS.G14_0 {avs : List AV} {H : List HE} : laws_eqStringS.G14 0 avs H = none := by unfold laws_eqStringS.G14; split <;> rfl
theorem laws_eqStringS.G14_s (k : Nat) {avs : List AV} {H : List HE} {x : Bool} (h : laws_eqStringS.G14 (k + 1) avs H = some x) : fromPt Tryd.prog laws_eqStringS.E k laws_eqStringS.a (laws_eqStringS.G k) 1000 (bodyOf Tryd.prog 54) 14 avs H = some x := by
  unfold laws_eqStringS.G14 at h
  split at h
  · rw [← h]; exact laws_eqStringS.eq14 _ _ _ _
  · cases h
theorem laws_eqStringS.E_ok : EnvOk Tryd.prog laws_eqStringS.E := trivial
theorem laws_eqStringS.sound : Sound Tryd.prog 54 laws_eqStringS.s := by
  refine func_sound (f := laws_eqStringS.a) (G := laws_eqStringS.G) (fn := Tryd.f54) (body := bodyOf Tryd.prog 54) 1000 (by kernel_rfl) laws_eqStringS.E_ok Tryd.func54 (by kernel_rfl) (by kernel_rfl) (by kernel_rfl) (ptsOk_of (by kernel_rfl)) ?_ ?_ ?_ ?_
  · intro r H x h
    unfold laws_eqStringS.a at h
    simp only at h
    split at h
    · cases h; rfl
    · cases h
  · exact fun q avs H => pick1_none laws_eqStringS.G14_0 (rfl)
  · intro k q pt avs H x _ h
    rcases pick1_some h with ⟨rfl, h⟩ | h
    · exact laws_eqStringS.G14_s _ h
    cases h
  · intro k avs H o h
    try dsimp only at h
    split at h
    · cases h; exact laws_eqStringS.eq _ _ _
    · cases h

def laws_eqConfig.a : FnA (Bool) := ⟨26, [.tmp 4], .bool, [], [], fun x H => match x, H with
  | .bs false r, [] => some r
  | _, _ => none⟩
def laws_eqConfig.s : Spec := mkS [.agg [.val, .val, .val, .con .str], .agg [.val, .val, .val, .con .str]] (fun k avs H => match avs, H with
  | [.agg [.v (.int .i64 a0_0), .v (.int .i64 a0_1), .v (.int .i64 a0_2), .con .str a0_3], .agg [.v (.int .i64 a1_0), .v (.int .i64 a1_1), .v (.int .i64 a1_2), .con .str a1_3]], [] => some (laws_eqConfig.f k a0_0 a0_1 a0_2 a0_3 a1_0 a1_1 a1_2 a1_3)
  | _, _ => none) (fun r => (.bs false r, []))
def laws_eqConfig.E : Env := [((54, []), laws_eqStringS.s)]
def laws_eqConfig.G (k p : Nat) (avs : List AV) (H : List HE) : Option (Bool) := none
set_option maxRecDepth 100000 in
theorem laws_eqConfig.eq (k : Nat) (a0_0 : Int) (a0_1 : Int) (a0_2 : Int) (a0_3 : List ByteArray) (a1_0 : Int) (a1_1 : Int) (a1_2 : Int) (a1_3 : List ByteArray) : fromTop Tryd.prog laws_eqConfig.E k laws_eqConfig.a (laws_eqConfig.G k) 1000 (bodyOf Tryd.prog 14) [.agg [.v (.int .i64 a0_0), .v (.int .i64 a0_1), .v (.int .i64 a0_2), .con .str a0_3], .agg [.v (.int .i64 a1_0), .v (.int .i64 a1_1), .v (.int .i64 a1_2), .con .str a1_3]] [] = laws_eqConfig.f k a0_0 a0_1 a0_2 a0_3 a1_0 a1_1 a1_2 a1_3 := by kernel_rfl
theorem laws_eqConfig.E_ok : EnvOk Tryd.prog laws_eqConfig.E := ⟨⟨laws_eqStringS.sound, callable_of (by kernel_rfl)⟩, trivial⟩
theorem laws_eqConfig.sound : Sound Tryd.prog 14 laws_eqConfig.s := by
  refine func_sound (f := laws_eqConfig.a) (G := laws_eqConfig.G) (fn := Tryd.f14) (body := bodyOf Tryd.prog 14) 1000 (by kernel_rfl) laws_eqConfig.E_ok Tryd.func14 (by kernel_rfl) (by kernel_rfl) (by kernel_rfl) (ptsOk_of (by kernel_rfl)) ?_ ?_ ?_ ?_
  · intro r H x h
    unfold laws_eqConfig.a at h
    simp only at h
    split at h
    · cases h; rfl
    · cases h
  · intro q avs H; rfl
  · intro k q pt avs H x _ h; cases h
  · intro k avs H o h
    try dsimp only at h
    split at h
    · cases h; exact laws_eqConfig.eq _ _ _ _ _ _ _ _ _
    · cases h

def laws_markText.a : FnA (ByteArray) := ⟨20, [.tmp 2], .val, [], [⟨14, [0, 3], [.val, .val], []⟩], fun x H => match x, H with
  | .v (.string r), [] => some r
  | _, _ => none⟩
def laws_markText.s : Spec := mkS [.val] (fun k avs H => match avs, H with
  | [.v (.int .i64 a0)], [] => some (laws_markText.f k a0)
  | _, _ => none) (fun r => (.v (.string r), []))
def laws_markText.E : Env := []
def laws_markText.G14 (k : Nat) (avs : List AV) (H : List HE) : Option (ByteArray) := match avs, H with
  | [.v (.int .i64 x0), .v (.string x3)], [] => laws_markText.p14 k x0 x3
  | _, _ => none
def laws_markText.G (k p : Nat) (avs : List AV) (H : List HE) : Option (ByteArray) := (pick1 14 (laws_markText.G14 k avs H) none p)
set_option maxRecDepth 100000 in
theorem laws_markText.eq (k : Nat) (a0 : Int) : fromTop Tryd.prog laws_markText.E k laws_markText.a (laws_markText.G k) 1000 (bodyOf Tryd.prog 97) [.v (.int .i64 a0)] [] = laws_markText.f k a0 := by kernel_rfl
set_option maxRecDepth 100000 in
theorem laws_markText.eq14 (k : Nat) (x0 : Int) (x3 : ByteArray) : fromPt Tryd.prog laws_markText.E k laws_markText.a (laws_markText.G k) 1000 (bodyOf Tryd.prog 97) 14 [.v (.int .i64 x0), .v (.string x3)] [] = laws_markText.p14 (k + 1) x0 x3 := by kernel_rfl
theorem laws_markText.G14_0 {avs : List AV} {H : List HE} : laws_markText.G14 0 avs H = none := by unfold laws_markText.G14; split <;> rfl
theorem laws_markText.G14_s (k : Nat) {avs : List AV} {H : List HE} {x : ByteArray} (h : laws_markText.G14 (k + 1) avs H = some x) : fromPt Tryd.prog laws_markText.E k laws_markText.a (laws_markText.G k) 1000 (bodyOf Tryd.prog 97) 14 avs H = some x := by
  unfold laws_markText.G14 at h
  split at h
  · rw [← h]; exact laws_markText.eq14 _ _ _
  · cases h
theorem laws_markText.E_ok : EnvOk Tryd.prog laws_markText.E := trivial
theorem laws_markText.sound : Sound Tryd.prog 97 laws_markText.s := by
  refine func_sound (f := laws_markText.a) (G := laws_markText.G) (fn := Tryd.f97) (body := bodyOf Tryd.prog 97) 1000 (by kernel_rfl) laws_markText.E_ok Tryd.func97 (by kernel_rfl) (by kernel_rfl) (by kernel_rfl) (ptsOk_of (by kernel_rfl)) ?_ ?_ ?_ ?_
  · intro r H x h
    unfold laws_markText.a at h
    simp only at h
    split at h
    · cases h; rfl
    · cases h
  · exact fun q avs H => pick1_none laws_markText.G14_0 (rfl)
  · intro k q pt avs H x _ h
    rcases pick1_some h with ⟨rfl, h⟩ | h
    · exact laws_markText.G14_s _ h
    cases h
  · intro k avs H o h
    try dsimp only at h
    split at h
    · cases h; exact laws_markText.eq _ _
    · cases h

def laws_markStringS.a : FnA (List ByteArray × Int) := ⟨20, [.tmp 4], .val, [.keep], [⟨6, [0, 1, 5], [.row 9 .str, .val, .val], [.keep]⟩], fun x H => match x, H with
  | .v (.int .i64 r), [.row 9 .str h0] => some (h0, r)
  | _, _ => none⟩
def laws_markStringS.s : Spec := mkS [.row 9 .str, .val] (fun k avs H => match avs, H with
  | [.own 0, .v (.int .i64 a1)], [.row 9 .str a0] => some (laws_markStringS.f k a0 a1)
  | _, _ => none) (fun r => (.v (.int .i64 r.2), [.row 9 .str r.1]))
def laws_markStringS.E : Env := [((97, []), laws_markText.s)]
def laws_markStringS.G6 (k : Nat) (avs : List AV) (H : List HE) : Option (List ByteArray × Int) := match avs, H with
  | [.own 0, .v (.int .i64 x1), .v (.int .i64 x5)], [.row 9 .str h0] => laws_markStringS.p6 k h0 x1 x5
  | _, _ => none
def laws_markStringS.G (k p : Nat) (avs : List AV) (H : List HE) : Option (List ByteArray × Int) := (pick1 6 (laws_markStringS.G6 k avs H) none p)
set_option maxRecDepth 100000 in
theorem laws_markStringS.eq (k : Nat) (a0 : List ByteArray) (a1 : Int) : fromTop Tryd.prog laws_markStringS.E k laws_markStringS.a (laws_markStringS.G k) 1000 (bodyOf Tryd.prog 55) [.own 0, .v (.int .i64 a1)] [.row 9 .str a0] = laws_markStringS.f k a0 a1 := by kernel_rfl
set_option maxRecDepth 100000 in
theorem laws_markStringS.eq6 (k : Nat) (h0 : List ByteArray) (x1 : Int) (x5 : Int) : fromPt Tryd.prog laws_markStringS.E k laws_markStringS.a (laws_markStringS.G k) 1000 (bodyOf Tryd.prog 55) 6 [.own 0, .v (.int .i64 x1), .v (.int .i64 x5)] [.row 9 .str h0] = laws_markStringS.p6 (k + 1) h0 x1 x5 := by kernel_rfl
theorem laws_markStringS.G6_0 {avs : List AV} {H : List HE} : laws_markStringS.G6 0 avs H = none := by unfold laws_markStringS.G6; split <;> rfl
theorem laws_markStringS.G6_s (k : Nat) {avs : List AV} {H : List HE} {x : List ByteArray × Int} (h : laws_markStringS.G6 (k + 1) avs H = some x) : fromPt Tryd.prog laws_markStringS.E k laws_markStringS.a (laws_markStringS.G k) 1000 (bodyOf Tryd.prog 55) 6 avs H = some x := by
  unfold laws_markStringS.G6 at h
  split at h
  · rw [← h]; exact laws_markStringS.eq6 _ _ _ _
  · cases h
theorem laws_markStringS.E_ok : EnvOk Tryd.prog laws_markStringS.E := ⟨⟨laws_markText.sound, callable_of (by kernel_rfl)⟩, trivial⟩
theorem laws_markStringS.sound : Sound Tryd.prog 55 laws_markStringS.s := by
  refine func_sound (f := laws_markStringS.a) (G := laws_markStringS.G) (fn := Tryd.f55) (body := bodyOf Tryd.prog 55) 1000 (by kernel_rfl) laws_markStringS.E_ok Tryd.func55 (by kernel_rfl) (by kernel_rfl) (by kernel_rfl) (ptsOk_of (by kernel_rfl)) ?_ ?_ ?_ ?_
  · intro r H x h
    unfold laws_markStringS.a at h
    simp only at h
    split at h
    · cases h; rfl
    · cases h
  · exact fun q avs H => pick1_none laws_markStringS.G6_0 (rfl)
  · intro k q pt avs H x _ h
    rcases pick1_some h with ⟨rfl, h⟩ | h
    · exact laws_markStringS.G6_s _ h
    cases h
  · intro k avs H o h
    try dsimp only at h
    split at h
    · cases h; exact laws_markStringS.eq _ _ _
    · cases h

def laws_markConfig.a : FnA (List ByteArray × Int) := ⟨10, [.tmp 4], .val, [.keep], [], fun x H => match x, H with
  | .v (.int .i64 r), [.row 9 .str h0] => some (h0, r)
  | _, _ => none⟩
def laws_markConfig.s : Spec := mkS [.agg [.val, .val, .val, .row 9 .str], .val] (fun k avs H => match avs, H with
  | [.agg [.v (.int .i64 a0_0), .v (.int .i64 a0_1), .v (.int .i64 a0_2), .own 0], .v (.int .i64 a1)], [.row 9 .str a0_3] => some (laws_markConfig.f k a0_0 a0_1 a0_2 a0_3 a1)
  | _, _ => none) (fun r => (.v (.int .i64 r.2), [.row 9 .str r.1]))
def laws_markConfig.E : Env := [((55, []), laws_markStringS.s)]
def laws_markConfig.G (k p : Nat) (avs : List AV) (H : List HE) : Option (List ByteArray × Int) := none
set_option maxRecDepth 100000 in
theorem laws_markConfig.eq (k : Nat) (a0_0 : Int) (a0_1 : Int) (a0_2 : Int) (a0_3 : List ByteArray) (a1 : Int) : fromTop Tryd.prog laws_markConfig.E k laws_markConfig.a (laws_markConfig.G k) 1000 (bodyOf Tryd.prog 15) [.agg [.v (.int .i64 a0_0), .v (.int .i64 a0_1), .v (.int .i64 a0_2), .own 0], .v (.int .i64 a1)] [.row 9 .str a0_3] = laws_markConfig.f k a0_0 a0_1 a0_2 a0_3 a1 := by kernel_rfl
theorem laws_markConfig.E_ok : EnvOk Tryd.prog laws_markConfig.E := ⟨⟨laws_markStringS.sound, callable_of (by kernel_rfl)⟩, trivial⟩
theorem laws_markConfig.sound : Sound Tryd.prog 15 laws_markConfig.s := by
  refine func_sound (f := laws_markConfig.a) (G := laws_markConfig.G) (fn := Tryd.f15) (body := bodyOf Tryd.prog 15) 1000 (by kernel_rfl) laws_markConfig.E_ok Tryd.func15 (by kernel_rfl) (by kernel_rfl) (by kernel_rfl) (ptsOk_of (by kernel_rfl)) ?_ ?_ ?_ ?_
  · intro r H x h
    unfold laws_markConfig.a at h
    simp only at h
    split at h
    · cases h; rfl
    · cases h
  · intro q avs H; rfl
  · intro k q pt avs H x _ h; cases h
  · intro k avs H o h
    try dsimp only at h
    split at h
    · cases h; exact laws_markConfig.eq _ _ _ _ _ _
    · cases h

def laws_heldStringS.a : FnA (Int) := ⟨22, [.tmp 4], .val, [], [⟨6, [0, 1, 5], [.con .str, .val, .val], []⟩], fun x H => match x, H with
  | .v (.int .i64 r), [] => some r
  | _, _ => none⟩
def laws_heldStringS.s : Spec := mkS [.con .str, .val] (fun k avs H => match avs, H with
  | [.con .str a0, .v (.int .i64 a1)], [] => some (laws_heldStringS.f k a0 a1)
  | _, _ => none) (fun r => (.v (.int .i64 r), []))
def laws_heldStringS.E : Env := [((97, []), laws_markText.s)]
def laws_heldStringS.G6 (k : Nat) (avs : List AV) (H : List HE) : Option (Int) := match avs, H with
  | [.con .str x0, .v (.int .i64 x1), .v (.int .i64 x5)], [] => laws_heldStringS.p6 k x0 x1 x5
  | _, _ => none
def laws_heldStringS.G (k p : Nat) (avs : List AV) (H : List HE) : Option (Int) := (pick1 6 (laws_heldStringS.G6 k avs H) none p)
set_option maxRecDepth 100000 in
theorem laws_heldStringS.eq (k : Nat) (a0 : List ByteArray) (a1 : Int) : fromTop Tryd.prog laws_heldStringS.E k laws_heldStringS.a (laws_heldStringS.G k) 1000 (bodyOf Tryd.prog 59) [.con .str a0, .v (.int .i64 a1)] [] = laws_heldStringS.f k a0 a1 := by kernel_rfl
set_option maxRecDepth 100000 in
theorem laws_heldStringS.eq6 (k : Nat) (x0 : List ByteArray) (x1 : Int) (x5 : Int) : fromPt Tryd.prog laws_heldStringS.E k laws_heldStringS.a (laws_heldStringS.G k) 1000 (bodyOf Tryd.prog 59) 6 [.con .str x0, .v (.int .i64 x1), .v (.int .i64 x5)] [] = laws_heldStringS.p6 (k + 1) x0 x1 x5 := by kernel_rfl
theorem laws_heldStringS.G6_0 {avs : List AV} {H : List HE} : laws_heldStringS.G6 0 avs H = none := by unfold laws_heldStringS.G6; split <;> rfl
theorem laws_heldStringS.G6_s (k : Nat) {avs : List AV} {H : List HE} {x : Int} (h : laws_heldStringS.G6 (k + 1) avs H = some x) : fromPt Tryd.prog laws_heldStringS.E k laws_heldStringS.a (laws_heldStringS.G k) 1000 (bodyOf Tryd.prog 59) 6 avs H = some x := by
  unfold laws_heldStringS.G6 at h
  split at h
  · rw [← h]; exact laws_heldStringS.eq6 _ _ _ _
  · cases h
theorem laws_heldStringS.E_ok : EnvOk Tryd.prog laws_heldStringS.E := ⟨⟨laws_markText.sound, callable_of (by kernel_rfl)⟩, trivial⟩
theorem laws_heldStringS.sound : Sound Tryd.prog 59 laws_heldStringS.s := by
  refine func_sound (f := laws_heldStringS.a) (G := laws_heldStringS.G) (fn := Tryd.f59) (body := bodyOf Tryd.prog 59) 1000 (by kernel_rfl) laws_heldStringS.E_ok Tryd.func59 (by kernel_rfl) (by kernel_rfl) (by kernel_rfl) (ptsOk_of (by kernel_rfl)) ?_ ?_ ?_ ?_
  · intro r H x h
    unfold laws_heldStringS.a at h
    simp only at h
    split at h
    · cases h; rfl
    · cases h
  · exact fun q avs H => pick1_none laws_heldStringS.G6_0 (rfl)
  · intro k q pt avs H x _ h
    rcases pick1_some h with ⟨rfl, h⟩ | h
    · exact laws_heldStringS.G6_s _ h
    cases h
  · intro k avs H o h
    try dsimp only at h
    split at h
    · cases h; exact laws_heldStringS.eq _ _ _
    · cases h

def laws_heldConfig.a : FnA (Int) := ⟨12, [.tmp 4], .val, [], [], fun x H => match x, H with
  | .v (.int .i64 r), [] => some r
  | _, _ => none⟩
def laws_heldConfig.s : Spec := mkS [.agg [.val, .val, .val, .con .str], .val] (fun k avs H => match avs, H with
  | [.agg [.v (.int .i64 a0_0), .v (.int .i64 a0_1), .v (.int .i64 a0_2), .con .str a0_3], .v (.int .i64 a1)], [] => some (laws_heldConfig.f k a0_0 a0_1 a0_2 a0_3 a1)
  | _, _ => none) (fun r => (.v (.int .i64 r), []))
def laws_heldConfig.E : Env := [((59, []), laws_heldStringS.s)]
def laws_heldConfig.G (k p : Nat) (avs : List AV) (H : List HE) : Option (Int) := none
set_option maxRecDepth 100000 in
theorem laws_heldConfig.eq (k : Nat) (a0_0 : Int) (a0_1 : Int) (a0_2 : Int) (a0_3 : List ByteArray) (a1 : Int) : fromTop Tryd.prog laws_heldConfig.E k laws_heldConfig.a (laws_heldConfig.G k) 1000 (bodyOf Tryd.prog 20) [.agg [.v (.int .i64 a0_0), .v (.int .i64 a0_1), .v (.int .i64 a0_2), .con .str a0_3], .v (.int .i64 a1)] [] = laws_heldConfig.f k a0_0 a0_1 a0_2 a0_3 a1 := by kernel_rfl
theorem laws_heldConfig.E_ok : EnvOk Tryd.prog laws_heldConfig.E := ⟨⟨laws_heldStringS.sound, callable_of (by kernel_rfl)⟩, trivial⟩
theorem laws_heldConfig.sound : Sound Tryd.prog 20 laws_heldConfig.s := by
  refine func_sound (f := laws_heldConfig.a) (G := laws_heldConfig.G) (fn := Tryd.f20) (body := bodyOf Tryd.prog 20) 1000 (by kernel_rfl) laws_heldConfig.E_ok Tryd.func20 (by kernel_rfl) (by kernel_rfl) (by kernel_rfl) (ptsOk_of (by kernel_rfl)) ?_ ?_ ?_ ?_
  · intro r H x h
    unfold laws_heldConfig.a at h
    simp only at h
    split at h
    · cases h; rfl
    · cases h
  · intro q avs H; rfl
  · intro k q pt avs H x _ h; cases h
  · intro k avs H o h
    try dsimp only at h
    split at h
    · cases h; exact laws_heldConfig.eq _ _ _ _ _ _
    · cases h

def laws_FnExactConfigOf.a : FnA (Bool) := ⟨66, [.tmp 2], .bool, [], [⟨17, [0, 3, 4, 5, 32], [.val, .box [.val, .val, .val, .row 9 .str], .bool, .box [.val, .val, .val, .row 9 .str], .bool], []⟩], fun x H => match x, H with
  | .bs false r, [] => some r
  | _, _ => none⟩
def laws_FnExactConfigOf.s : Spec := mkS [.val] (fun k avs H => match avs, H with
  | [.v (.string a0)], [] => some (laws_FnExactConfigOf.f k a0)
  | _, _ => none) (fun r => (.bs false r, []))
def laws_FnExactConfigOf.E : Env := [((18, []), spec_ConfigOf.s), ((19, []), impl_ConfigOf.s), ((14, []), laws_eqConfig.s), ((15, []), laws_markConfig.s), ((20, []), laws_heldConfig.s)]
def laws_FnExactConfigOf.G17 (k : Nat) (avs : List AV) (H : List HE) : Option (Bool) := match avs, H with
  | [.v (.string x0), .box 0 0, .bs false x4, .box 2 0, .bs false x32], [.box [.v (.int .i64 x3_0), .v (.int .i64 x3_1), .v (.int .i64 x3_2), .own 1], .row 9 .str x3_3, .box [.v (.int .i64 x5_0), .v (.int .i64 x5_1), .v (.int .i64 x5_2), .own 3], .row 9 .str x5_3] => laws_FnExactConfigOf.p17 k x0 x3_0 x3_1 x3_2 x3_3 x4 x5_0 x5_1 x5_2 x5_3 x32
  | _, _ => none
def laws_FnExactConfigOf.G (k p : Nat) (avs : List AV) (H : List HE) : Option (Bool) := (pick1 17 (laws_FnExactConfigOf.G17 k avs H) none p)
set_option maxRecDepth 100000 in
theorem laws_FnExactConfigOf.eq (k : Nat) (a0 : ByteArray) : fromTop Tryd.prog laws_FnExactConfigOf.E k laws_FnExactConfigOf.a (laws_FnExactConfigOf.G k) 1000 (bodyOf Tryd.prog 4) [.v (.string a0)] [] = laws_FnExactConfigOf.f k a0 := by kernel_rfl
set_option maxRecDepth 100000 in
theorem laws_FnExactConfigOf.eq17 (k : Nat) (x0 : ByteArray) (x3_0 : Int) (x3_1 : Int) (x3_2 : Int) (x3_3 : List ByteArray) (x4 : Bool) (x5_0 : Int) (x5_1 : Int) (x5_2 : Int) (x5_3 : List ByteArray) (x32 : Bool) : fromPt Tryd.prog laws_FnExactConfigOf.E k laws_FnExactConfigOf.a (laws_FnExactConfigOf.G k) 1000 (bodyOf Tryd.prog 4) 17 [.v (.string x0), .box 0 0, .bs false x4, .box 2 0, .bs false x32] [.box [.v (.int .i64 x3_0), .v (.int .i64 x3_1), .v (.int .i64 x3_2), .own 1], .row 9 .str x3_3, .box [.v (.int .i64 x5_0), .v (.int .i64 x5_1), .v (.int .i64 x5_2), .own 3], .row 9 .str x5_3] = laws_FnExactConfigOf.p17 (k + 1) x0 x3_0 x3_1 x3_2 x3_3 x4 x5_0 x5_1 x5_2 x5_3 x32 := by kernel_rfl
theorem laws_FnExactConfigOf.G17_0 {avs : List AV} {H : List HE} : laws_FnExactConfigOf.G17 0 avs H = none := by unfold laws_FnExactConfigOf.G17; split <;> rfl
theorem laws_FnExactConfigOf.G17_s (k : Nat) {avs : List AV} {H : List HE} {x : Bool} (h : laws_FnExactConfigOf.G17 (k + 1) avs H = some x) : fromPt Tryd.prog laws_FnExactConfigOf.E k laws_FnExactConfigOf.a (laws_FnExactConfigOf.G k) 1000 (bodyOf Tryd.prog 4) 17 avs H = some x := by
  unfold laws_FnExactConfigOf.G17 at h
  split at h
  · rw [← h]; exact laws_FnExactConfigOf.eq17 _ _ _ _ _ _ _ _ _ _ _ _
  · cases h
theorem laws_FnExactConfigOf.E_ok : EnvOk Tryd.prog laws_FnExactConfigOf.E := ⟨⟨spec_ConfigOf.sound, callable_of (by kernel_rfl)⟩, ⟨impl_ConfigOf.sound, callable_of (by kernel_rfl)⟩, ⟨laws_eqConfig.sound, callable_of (by kernel_rfl)⟩, ⟨laws_markConfig.sound, callable_of (by kernel_rfl)⟩, ⟨laws_heldConfig.sound, callable_of (by kernel_rfl)⟩, trivial⟩
theorem laws_FnExactConfigOf.sound : Sound Tryd.prog 4 laws_FnExactConfigOf.s := by
  refine func_sound (f := laws_FnExactConfigOf.a) (G := laws_FnExactConfigOf.G) (fn := Tryd.f4) (body := bodyOf Tryd.prog 4) 1000 (by kernel_rfl) laws_FnExactConfigOf.E_ok Tryd.func4 (by kernel_rfl) (by kernel_rfl) (by kernel_rfl) (ptsOk_of (by kernel_rfl)) ?_ ?_ ?_ ?_
  · intro r H x h
    unfold laws_FnExactConfigOf.a at h
    simp only at h
    split at h
    · cases h; rfl
    · cases h
  · exact fun q avs H => pick1_none laws_FnExactConfigOf.G17_0 (rfl)
  · intro k q pt avs H x _ h
    rcases pick1_some h with ⟨rfl, h⟩ | h
    · exact laws_FnExactConfigOf.G17_s _ h
    cases h
  · intro k avs H o h
    try dsimp only at h
    split at h
    · cases h; exact laws_FnExactConfigOf.eq _ _
    · cases h

def impl_RefKind.a : FnA (Int) := ⟨22, [.tmp 2], .val, [], [], fun x H => match x, H with
  | .v (.int .i64 r), [] => some r
  | _, _ => none⟩
def impl_RefKind.s : Spec := mkS [.val] (fun k avs H => match avs, H with
  | [.v (.int .i64 a0)], [] => some (impl_RefKind.f a0)
  | _, _ => none) (fun r => (.v (.int .i64 r), []))
def impl_RefKind.E : Env := [((51, []), impl_within.s)]
def impl_RefKind.G (k p : Nat) (avs : List AV) (H : List HE) : Option (Int) := none
set_option maxRecDepth 100000 in
theorem impl_RefKind.eq (k : Nat) (a0 : Int) : fromTop Tryd.prog impl_RefKind.E k impl_RefKind.a (impl_RefKind.G k) 1000 (bodyOf Tryd.prog 87) [.v (.int .i64 a0)] [] = impl_RefKind.f a0 := by kernel_rfl
theorem impl_RefKind.E_ok : EnvOk Tryd.prog impl_RefKind.E := ⟨⟨impl_within.sound, callable_of (by kernel_rfl)⟩, trivial⟩
theorem impl_RefKind.sound : Sound Tryd.prog 87 impl_RefKind.s := by
  refine func_sound (f := impl_RefKind.a) (G := impl_RefKind.G) (fn := Tryd.f87) (body := bodyOf Tryd.prog 87) 1000 (by kernel_rfl) impl_RefKind.E_ok Tryd.func87 (by kernel_rfl) (by kernel_rfl) (by kernel_rfl) (ptsOk_of (by kernel_rfl)) ?_ ?_ ?_ ?_
  · intro r H x h
    unfold impl_RefKind.a at h
    simp only at h
    split at h
    · cases h; rfl
    · cases h
  · intro q avs H; rfl
  · intro k q pt avs H x _ h; cases h
  · intro k avs H o h
    try dsimp only at h
    split at h
    · cases h; exact impl_RefKind.eq _ _
    · cases h

def impl_WordBytes.a : FnA (ByteArray) := ⟨6, [.tmp 2], .val, [], [], fun x H => match x, H with
  | .v (.string r), [] => some r
  | _, _ => none⟩
def impl_WordBytes.s : Spec := mkS [.val] (fun k avs H => match avs, H with
  | [.v (.int .i64 a0)], [] => some (impl_WordBytes.f k a0)
  | _, _ => none) (fun r => (.v (.string r), []))
def impl_WordBytes.E : Env := [((139, []), impl_bigBytes.s)]
def impl_WordBytes.G (k p : Nat) (avs : List AV) (H : List HE) : Option (ByteArray) := none
set_option maxRecDepth 100000 in
theorem impl_WordBytes.eq (k : Nat) (a0 : Int) : fromTop Tryd.prog impl_WordBytes.E k impl_WordBytes.a (impl_WordBytes.G k) 1000 (bodyOf Tryd.prog 110) [.v (.int .i64 a0)] [] = impl_WordBytes.f k a0 := by kernel_rfl
theorem impl_WordBytes.E_ok : EnvOk Tryd.prog impl_WordBytes.E := ⟨⟨impl_bigBytes.sound, callable_of (by kernel_rfl)⟩, trivial⟩
theorem impl_WordBytes.sound : Sound Tryd.prog 110 impl_WordBytes.s := by
  refine func_sound (f := impl_WordBytes.a) (G := impl_WordBytes.G) (fn := Tryd.f110) (body := bodyOf Tryd.prog 110) 1000 (by kernel_rfl) impl_WordBytes.E_ok Tryd.func110 (by kernel_rfl) (by kernel_rfl) (by kernel_rfl) (ptsOk_of (by kernel_rfl)) ?_ ?_ ?_ ?_
  · intro r H x h
    unfold impl_WordBytes.a at h
    simp only at h
    split at h
    · cases h; rfl
    · cases h
  · intro q avs H; rfl
  · intro k q pt avs H x _ h; cases h
  · intro k avs H o h
    try dsimp only at h
    split at h
    · cases h; exact impl_WordBytes.eq _ _
    · cases h

def impl_isData.a : FnA (Bool) := ⟨13, [.tmp 4], .bool, [], [], fun x H => match x, H with
  | .bs false r, [] => some r
  | _, _ => none⟩
def impl_isData.s : Spec := mkS [.agg [.val, .val, .val, .con .str], .val] (fun k avs H => match avs, H with
  | [.agg [.v (.int .i64 a0_0), .v (.int .i64 a0_1), .v (.int .i64 a0_2), .con .str a0_3], .v (.int .i64 a1)], [] => some (impl_isData.f a0_0 a0_1 a0_2 a0_3 a1)
  | _, _ => none) (fun r => (.bs false r, []))
def impl_isData.E : Env := [((51, []), impl_within.s)]
def impl_isData.G (k p : Nat) (avs : List AV) (H : List HE) : Option (Bool) := none
set_option maxRecDepth 100000 in
theorem impl_isData.eq (k : Nat) (a0_0 : Int) (a0_1 : Int) (a0_2 : Int) (a0_3 : List ByteArray) (a1 : Int) : fromTop Tryd.prog impl_isData.E k impl_isData.a (impl_isData.G k) 1000 (bodyOf Tryd.prog 119) [.agg [.v (.int .i64 a0_0), .v (.int .i64 a0_1), .v (.int .i64 a0_2), .con .str a0_3], .v (.int .i64 a1)] [] = impl_isData.f a0_0 a0_1 a0_2 a0_3 a1 := by kernel_rfl
theorem impl_isData.E_ok : EnvOk Tryd.prog impl_isData.E := ⟨⟨impl_within.sound, callable_of (by kernel_rfl)⟩, trivial⟩
theorem impl_isData.sound : Sound Tryd.prog 119 impl_isData.s := by
  refine func_sound (f := impl_isData.a) (G := impl_isData.G) (fn := Tryd.f119) (body := bodyOf Tryd.prog 119) 1000 (by kernel_rfl) impl_isData.E_ok Tryd.func119 (by kernel_rfl) (by kernel_rfl) (by kernel_rfl) (ptsOk_of (by kernel_rfl)) ?_ ?_ ?_ ?_
  · intro r H x h
    unfold impl_isData.a at h
    simp only at h
    split at h
    · cases h; rfl
    · cases h
  · intro q avs H; rfl
  · intro k q pt avs H x _ h; cases h
  · intro k avs H o h
    try dsimp only at h
    split at h
    · cases h; exact impl_isData.eq _ _ _ _ _ _
    · cases h

def impl_isOld.a : FnA (Bool) := ⟨6, [.tmp 2], .bool, [], [], fun x H => match x, H with
  | .bs false r, [] => some r
  | _, _ => none⟩
def impl_isOld.s : Spec := mkS [.val] (fun k avs H => match avs, H with
  | [.v (.int .i64 a0)], [] => some (impl_isOld.f a0)
  | _, _ => none) (fun r => (.bs false r, []))
def impl_isOld.E : Env := [((87, []), impl_RefKind.s)]
def impl_isOld.G (k p : Nat) (avs : List AV) (H : List HE) : Option (Bool) := none
set_option maxRecDepth 100000 in
theorem impl_isOld.eq (k : Nat) (a0 : Int) : fromTop Tryd.prog impl_isOld.E k impl_isOld.a (impl_isOld.G k) 1000 (bodyOf Tryd.prog 142) [.v (.int .i64 a0)] [] = impl_isOld.f a0 := by kernel_rfl
theorem impl_isOld.E_ok : EnvOk Tryd.prog impl_isOld.E := ⟨⟨impl_RefKind.sound, callable_of (by kernel_rfl)⟩, trivial⟩
theorem impl_isOld.sound : Sound Tryd.prog 142 impl_isOld.s := by
  refine func_sound (f := impl_isOld.a) (G := impl_isOld.G) (fn := Tryd.f142) (body := bodyOf Tryd.prog 142) 1000 (by kernel_rfl) impl_isOld.E_ok Tryd.func142 (by kernel_rfl) (by kernel_rfl) (by kernel_rfl) (ptsOk_of (by kernel_rfl)) ?_ ?_ ?_ ?_
  · intro r H x h
    unfold impl_isOld.a at h
    simp only at h
    split at h
    · cases h; rfl
    · cases h
  · intro q avs H; rfl
  · intro k q pt avs H x _ h; cases h
  · intro k avs H o h
    try dsimp only at h
    split at h
    · cases h; exact impl_isOld.eq _ _
    · cases h

def impl_isDataRef.a : FnA (Bool) := ⟨17, [.tmp 4], .bool, [], [], fun x H => match x, H with
  | .bs false r, [] => some r
  | _, _ => none⟩
def impl_isDataRef.s : Spec := mkS [.agg [.val, .val, .val, .con .str], .val] (fun k avs H => match avs, H with
  | [.agg [.v (.int .i64 a0_0), .v (.int .i64 a0_1), .v (.int .i64 a0_2), .con .str a0_3], .v (.int .i64 a1)], [] => some (impl_isDataRef.f a0_0 a0_1 a0_2 a0_3 a1)
  | _, _ => none) (fun r => (.bs false r, []))
def impl_isDataRef.E : Env := [((142, []), impl_isOld.s), ((119, []), impl_isData.s)]
def impl_isDataRef.G (k p : Nat) (avs : List AV) (H : List HE) : Option (Bool) := none
set_option maxRecDepth 100000 in
theorem impl_isDataRef.eq (k : Nat) (a0_0 : Int) (a0_1 : Int) (a0_2 : Int) (a0_3 : List ByteArray) (a1 : Int) : fromTop Tryd.prog impl_isDataRef.E k impl_isDataRef.a (impl_isDataRef.G k) 1000 (bodyOf Tryd.prog 121) [.agg [.v (.int .i64 a0_0), .v (.int .i64 a0_1), .v (.int .i64 a0_2), .con .str a0_3], .v (.int .i64 a1)] [] = impl_isDataRef.f a0_0 a0_1 a0_2 a0_3 a1 := by kernel_rfl
theorem impl_isDataRef.E_ok : EnvOk Tryd.prog impl_isDataRef.E := ⟨⟨impl_isOld.sound, callable_of (by kernel_rfl)⟩, ⟨impl_isData.sound, callable_of (by kernel_rfl)⟩, trivial⟩
theorem impl_isDataRef.sound : Sound Tryd.prog 121 impl_isDataRef.s := by
  refine func_sound (f := impl_isDataRef.a) (G := impl_isDataRef.G) (fn := Tryd.f121) (body := bodyOf Tryd.prog 121) 1000 (by kernel_rfl) impl_isDataRef.E_ok Tryd.func121 (by kernel_rfl) (by kernel_rfl) (by kernel_rfl) (ptsOk_of (by kernel_rfl)) ?_ ?_ ?_ ?_
  · intro r H x h
    unfold impl_isDataRef.a at h
    simp only at h
    split at h
    · cases h; rfl
    · cases h
  · intro q avs H; rfl
  · intro k q pt avs H x _ h; cases h
  · intro k avs H o h
    try dsimp only at h
    split at h
    · cases h; exact impl_isDataRef.eq _ _ _ _ _ _
    · cases h

def impl_wordAt.a : FnA (Int) := ⟨21, [.tmp 4], .val, [], [⟨8, [0, 1, 5, 7], [.val, .val, .val, .val], []⟩], fun x H => match x, H with
  | .v (.int .i64 r), [] => some r
  | _, _ => none⟩
def impl_wordAt.s : Spec := mkS [.val, .val] (fun k avs H => match avs, H with
  | [.v (.string a0), .v (.int .i64 a1)], [] => some (impl_wordAt.f k a0 a1)
  | _, _ => none) (fun r => (.v (.int .i64 r), []))
def impl_wordAt.E : Env := []
def impl_wordAt.G8 (k : Nat) (avs : List AV) (H : List HE) : Option (Int) := match avs, H with
  | [.v (.string x0), .v (.int .i64 x1), .v (.int .i64 x5), .v (.int .i64 x7)], [] => impl_wordAt.p8 k x0 x1 x5 x7
  | _, _ => none
def impl_wordAt.G (k p : Nat) (avs : List AV) (H : List HE) : Option (Int) := (pick1 8 (impl_wordAt.G8 k avs H) none p)
set_option maxRecDepth 100000 in
theorem impl_wordAt.eq (k : Nat) (a0 : ByteArray) (a1 : Int) : fromTop Tryd.prog impl_wordAt.E k impl_wordAt.a (impl_wordAt.G k) 1000 (bodyOf Tryd.prog 78) [.v (.string a0), .v (.int .i64 a1)] [] = impl_wordAt.f k a0 a1 := by kernel_rfl
set_option maxRecDepth 100000 in
theorem impl_wordAt.eq8 (k : Nat) (x0 : ByteArray) (x1 : Int) (x5 : Int) (x7 : Int) : fromPt Tryd.prog impl_wordAt.E k impl_wordAt.a (impl_wordAt.G k) 1000 (bodyOf Tryd.prog 78) 8 [.v (.string x0), .v (.int .i64 x1), .v (.int .i64 x5), .v (.int .i64 x7)] [] = impl_wordAt.p8 (k + 1) x0 x1 x5 x7 := by kernel_rfl
theorem impl_wordAt.G8_0 {avs : List AV} {H : List HE} : impl_wordAt.G8 0 avs H = none := by unfold impl_wordAt.G8; split <;> rfl
theorem impl_wordAt.G8_s (k : Nat) {avs : List AV} {H : List HE} {x : Int} (h : impl_wordAt.G8 (k + 1) avs H = some x) : fromPt Tryd.prog impl_wordAt.E k impl_wordAt.a (impl_wordAt.G k) 1000 (bodyOf Tryd.prog 78) 8 avs H = some x := by
  unfold impl_wordAt.G8 at h
  split at h
  · rw [← h]; exact impl_wordAt.eq8 _ _ _ _ _
  · cases h
theorem impl_wordAt.E_ok : EnvOk Tryd.prog impl_wordAt.E := trivial
theorem impl_wordAt.sound : Sound Tryd.prog 78 impl_wordAt.s := by
  refine func_sound (f := impl_wordAt.a) (G := impl_wordAt.G) (fn := Tryd.f78) (body := bodyOf Tryd.prog 78) 1000 (by kernel_rfl) impl_wordAt.E_ok Tryd.func78 (by kernel_rfl) (by kernel_rfl) (by kernel_rfl) (ptsOk_of (by kernel_rfl)) ?_ ?_ ?_ ?_
  · intro r H x h
    unfold impl_wordAt.a at h
    simp only at h
    split at h
    · cases h; rfl
    · cases h
  · exact fun q avs H => pick1_none impl_wordAt.G8_0 (rfl)
  · intro k q pt avs H x _ h
    rcases pick1_some h with ⟨rfl, h⟩ | h
    · exact impl_wordAt.G8_s _ h
    cases h
  · intro k avs H o h
    try dsimp only at h
    split at h
    · cases h; exact impl_wordAt.eq _ _ _
    · cases h

def spec_ReadWord.a : FnA (Int × Bool) := ⟨22, [.tmp 2, .tmp 3], .tup [.val, .bool], [], [⟨16, [0, 4, 5], [.val, .val, .val], []⟩], fun x H => match x, H with
  | .tup [.v (.int .i64 r_0), .bs false r_1], [] => some (r_0, r_1)
  | _, _ => none⟩
def spec_ReadWord.s : Spec := mkS [.val] (fun k avs H => match avs, H with
  | [.v (.string a0)], [] => some (spec_ReadWord.f k a0)
  | _, _ => none) (fun r => (.tup [.v (.int .i64 r.1), .bs false r.2], []))
def spec_ReadWord.E : Env := []
def spec_ReadWord.G16 (k : Nat) (avs : List AV) (H : List HE) : Option (Int × Bool) := match avs, H with
  | [.v (.string x0), .v (.int .u64 x4), .v (.int .i64 x5)], [] => spec_ReadWord.p16 k x0 x4 x5
  | _, _ => none
def spec_ReadWord.G (k p : Nat) (avs : List AV) (H : List HE) : Option (Int × Bool) := (pick1 16 (spec_ReadWord.G16 k avs H) none p)
set_option maxRecDepth 100000 in
theorem spec_ReadWord.eq (k : Nat) (a0 : ByteArray) : fromTop Tryd.prog spec_ReadWord.E k spec_ReadWord.a (spec_ReadWord.G k) 1000 (bodyOf Tryd.prog 81) [.v (.string a0)] [] = spec_ReadWord.f k a0 := by kernel_rfl
set_option maxRecDepth 100000 in
theorem spec_ReadWord.eq16 (k : Nat) (x0 : ByteArray) (x4 : Int) (x5 : Int) : fromPt Tryd.prog spec_ReadWord.E k spec_ReadWord.a (spec_ReadWord.G k) 1000 (bodyOf Tryd.prog 81) 16 [.v (.string x0), .v (.int .u64 x4), .v (.int .i64 x5)] [] = spec_ReadWord.p16 (k + 1) x0 x4 x5 := by kernel_rfl
theorem spec_ReadWord.G16_0 {avs : List AV} {H : List HE} : spec_ReadWord.G16 0 avs H = none := by unfold spec_ReadWord.G16; split <;> rfl
theorem spec_ReadWord.G16_s (k : Nat) {avs : List AV} {H : List HE} {x : Int × Bool} (h : spec_ReadWord.G16 (k + 1) avs H = some x) : fromPt Tryd.prog spec_ReadWord.E k spec_ReadWord.a (spec_ReadWord.G k) 1000 (bodyOf Tryd.prog 81) 16 avs H = some x := by
  unfold spec_ReadWord.G16 at h
  split at h
  · rw [← h]; exact spec_ReadWord.eq16 _ _ _ _
  · cases h
theorem spec_ReadWord.E_ok : EnvOk Tryd.prog spec_ReadWord.E := trivial
theorem spec_ReadWord.sound : Sound Tryd.prog 81 spec_ReadWord.s := by
  refine func_sound (f := spec_ReadWord.a) (G := spec_ReadWord.G) (fn := Tryd.f81) (body := bodyOf Tryd.prog 81) 1000 (by kernel_rfl) spec_ReadWord.E_ok Tryd.func81 (by kernel_rfl) (by kernel_rfl) (by kernel_rfl) (ptsOk_of (by kernel_rfl)) ?_ ?_ ?_ ?_
  · intro r H x h
    unfold spec_ReadWord.a at h
    simp only at h
    split at h
    · cases h; rfl
    · cases h
  · exact fun q avs H => pick1_none spec_ReadWord.G16_0 (rfl)
  · intro k q pt avs H x _ h
    rcases pick1_some h with ⟨rfl, h⟩ | h
    · exact spec_ReadWord.G16_s _ h
    cases h
  · intro k avs H o h
    try dsimp only at h
    split at h
    · cases h; exact spec_ReadWord.eq _ _
    · cases h

def spec_RefKind.a : FnA (Int) := ⟨22, [.tmp 2], .val, [], [], fun x H => match x, H with
  | .v (.int .i64 r), [] => some r
  | _, _ => none⟩
def spec_RefKind.s : Spec := mkS [.val] (fun k avs H => match avs, H with
  | [.v (.int .i64 a0)], [] => some (spec_RefKind.f a0)
  | _, _ => none) (fun r => (.v (.int .i64 r), []))
def spec_RefKind.E : Env := [((44, []), spec_l1In.s)]
def spec_RefKind.G (k p : Nat) (avs : List AV) (H : List HE) : Option (Int) := none
set_option maxRecDepth 100000 in
theorem spec_RefKind.eq (k : Nat) (a0 : Int) : fromTop Tryd.prog spec_RefKind.E k spec_RefKind.a (spec_RefKind.G k) 1000 (bodyOf Tryd.prog 84) [.v (.int .i64 a0)] [] = spec_RefKind.f a0 := by kernel_rfl
theorem spec_RefKind.E_ok : EnvOk Tryd.prog spec_RefKind.E := ⟨⟨spec_l1In.sound, callable_of (by kernel_rfl)⟩, trivial⟩
theorem spec_RefKind.sound : Sound Tryd.prog 84 spec_RefKind.s := by
  refine func_sound (f := spec_RefKind.a) (G := spec_RefKind.G) (fn := Tryd.f84) (body := bodyOf Tryd.prog 84) 1000 (by kernel_rfl) spec_RefKind.E_ok Tryd.func84 (by kernel_rfl) (by kernel_rfl) (by kernel_rfl) (ptsOk_of (by kernel_rfl)) ?_ ?_ ?_ ?_
  · intro r H x h
    unfold spec_RefKind.a at h
    simp only at h
    split at h
    · cases h; rfl
    · cases h
  · intro q avs H; rfl
  · intro k q pt avs H x _ h; cases h
  · intro k avs H o h
    try dsimp only at h
    split at h
    · cases h; exact spec_RefKind.eq _ _
    · cases h

def spec_l10Line.a : FnA (Bool) := ⟨13, [.tmp 4], .bool, [], [], fun x H => match x, H with
  | .bs false r, [] => some r
  | _, _ => none⟩
def spec_l10Line.s : Spec := mkS [.agg [.val, .val, .val, .con .str], .val] (fun k avs H => match avs, H with
  | [.agg [.v (.int .i64 a0_0), .v (.int .i64 a0_1), .v (.int .i64 a0_2), .con .str a0_3], .v (.int .i64 a1)], [] => some (spec_l10Line.f a0_0 a0_1 a0_2 a0_3 a1)
  | _, _ => none) (fun r => (.bs false r, []))
def spec_l10Line.E : Env := [((44, []), spec_l1In.s)]
def spec_l10Line.G (k p : Nat) (avs : List AV) (H : List HE) : Option (Bool) := none
set_option maxRecDepth 100000 in
theorem spec_l10Line.eq (k : Nat) (a0_0 : Int) (a0_1 : Int) (a0_2 : Int) (a0_3 : List ByteArray) (a1 : Int) : fromTop Tryd.prog spec_l10Line.E k spec_l10Line.a (spec_l10Line.G k) 1000 (bodyOf Tryd.prog 89) [.agg [.v (.int .i64 a0_0), .v (.int .i64 a0_1), .v (.int .i64 a0_2), .con .str a0_3], .v (.int .i64 a1)] [] = spec_l10Line.f a0_0 a0_1 a0_2 a0_3 a1 := by kernel_rfl
theorem spec_l10Line.E_ok : EnvOk Tryd.prog spec_l10Line.E := ⟨⟨spec_l1In.sound, callable_of (by kernel_rfl)⟩, trivial⟩
theorem spec_l10Line.sound : Sound Tryd.prog 89 spec_l10Line.s := by
  refine func_sound (f := spec_l10Line.a) (G := spec_l10Line.G) (fn := Tryd.f89) (body := bodyOf Tryd.prog 89) 1000 (by kernel_rfl) spec_l10Line.E_ok Tryd.func89 (by kernel_rfl) (by kernel_rfl) (by kernel_rfl) (ptsOk_of (by kernel_rfl)) ?_ ?_ ?_ ?_
  · intro r H x h
    unfold spec_l10Line.a at h
    simp only at h
    split at h
    · cases h; rfl
    · cases h
  · intro q avs H; rfl
  · intro k q pt avs H x _ h; cases h
  · intro k avs H o h
    try dsimp only at h
    split at h
    · cases h; exact spec_l10Line.eq _ _ _ _ _ _
    · cases h

def spec_l10Ref.a : FnA (Bool) := ⟨18, [.tmp 4], .bool, [], [], fun x H => match x, H with
  | .bs false r, [] => some r
  | _, _ => none⟩
def spec_l10Ref.s : Spec := mkS [.agg [.val, .val, .val, .con .str], .val] (fun k avs H => match avs, H with
  | [.agg [.v (.int .i64 a0_0), .v (.int .i64 a0_1), .v (.int .i64 a0_2), .con .str a0_3], .v (.int .i64 a1)], [] => some (spec_l10Ref.f a0_0 a0_1 a0_2 a0_3 a1)
  | _, _ => none) (fun r => (.bs false r, []))
def spec_l10Ref.E : Env := [((84, []), spec_RefKind.s), ((89, []), spec_l10Line.s)]
def spec_l10Ref.G (k p : Nat) (avs : List AV) (H : List HE) : Option (Bool) := none
set_option maxRecDepth 100000 in
theorem spec_l10Ref.eq (k : Nat) (a0_0 : Int) (a0_1 : Int) (a0_2 : Int) (a0_3 : List ByteArray) (a1 : Int) : fromTop Tryd.prog spec_l10Ref.E k spec_l10Ref.a (spec_l10Ref.G k) 1000 (bodyOf Tryd.prog 118) [.agg [.v (.int .i64 a0_0), .v (.int .i64 a0_1), .v (.int .i64 a0_2), .con .str a0_3], .v (.int .i64 a1)] [] = spec_l10Ref.f a0_0 a0_1 a0_2 a0_3 a1 := by kernel_rfl
theorem spec_l10Ref.E_ok : EnvOk Tryd.prog spec_l10Ref.E := ⟨⟨spec_RefKind.sound, callable_of (by kernel_rfl)⟩, ⟨spec_l10Line.sound, callable_of (by kernel_rfl)⟩, trivial⟩
theorem spec_l10Ref.sound : Sound Tryd.prog 118 spec_l10Ref.s := by
  refine func_sound (f := spec_l10Ref.a) (G := spec_l10Ref.G) (fn := Tryd.f118) (body := bodyOf Tryd.prog 118) 1000 (by kernel_rfl) spec_l10Ref.E_ok Tryd.func118 (by kernel_rfl) (by kernel_rfl) (by kernel_rfl) (ptsOk_of (by kernel_rfl)) ?_ ?_ ?_ ?_
  · intro r H x h
    unfold spec_l10Ref.a at h
    simp only at h
    split at h
    · cases h; rfl
    · cases h
  · intro q avs H; rfl
  · intro k q pt avs H x _ h; cases h
  · intro k avs H o h
    try dsimp only at h
    split at h
    · cases h; exact spec_l10Ref.eq _ _ _ _ _ _
    · cases h

def spec_l5Image.a : FnA (Bool) := ⟨15, [.tmp 4], .bool, [], [], fun x H => match x, H with
  | .bs false r, [] => some r
  | _, _ => none⟩
def spec_l5Image.s : Spec := mkS [.agg [.val, .val, .val, .con .str], .val] (fun k avs H => match avs, H with
  | [.agg [.v (.int .i64 a0_0), .v (.int .i64 a0_1), .v (.int .i64 a0_2), .con .str a0_3], .v (.string a1)], [] => some (spec_l5Image.f k a0_0 a0_1 a0_2 a0_3 a1)
  | _, _ => none) (fun r => (.bs false r, []))
def spec_l5Image.E : Env := [((42, []), spec_ConfigOk.s)]
def spec_l5Image.G (k p : Nat) (avs : List AV) (H : List HE) : Option (Bool) := none
set_option maxRecDepth 100000 in
theorem spec_l5Image.eq (k : Nat) (a0_0 : Int) (a0_1 : Int) (a0_2 : Int) (a0_3 : List ByteArray) (a1 : ByteArray) : fromTop Tryd.prog spec_l5Image.E k spec_l5Image.a (spec_l5Image.G k) 1000 (bodyOf Tryd.prog 88) [.agg [.v (.int .i64 a0_0), .v (.int .i64 a0_1), .v (.int .i64 a0_2), .con .str a0_3], .v (.string a1)] [] = spec_l5Image.f k a0_0 a0_1 a0_2 a0_3 a1 := by kernel_rfl
theorem spec_l5Image.E_ok : EnvOk Tryd.prog spec_l5Image.E := ⟨⟨spec_ConfigOk.sound, callable_of (by kernel_rfl)⟩, trivial⟩
theorem spec_l5Image.sound : Sound Tryd.prog 88 spec_l5Image.s := by
  refine func_sound (f := spec_l5Image.a) (G := spec_l5Image.G) (fn := Tryd.f88) (body := bodyOf Tryd.prog 88) 1000 (by kernel_rfl) spec_l5Image.E_ok Tryd.func88 (by kernel_rfl) (by kernel_rfl) (by kernel_rfl) (ptsOk_of (by kernel_rfl)) ?_ ?_ ?_ ?_
  · intro r H x h
    unfold spec_l5Image.a at h
    simp only at h
    split at h
    · cases h; rfl
    · cases h
  · intro q avs H; rfl
  · intro k q pt avs H x _ h; cases h
  · intro k avs H o h
    try dsimp only at h
    split at h
    · cases h; exact spec_l5Image.eq _ _ _ _ _ _
    · cases h
end
end Go.Proofs.YtlljkankongifaaDoor.Abs
