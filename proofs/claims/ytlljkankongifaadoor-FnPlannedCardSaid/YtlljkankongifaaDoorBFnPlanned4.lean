/- They are sound. (Merged out of this claim's own texts.) -/
import Derived.Test.YtlljkankongifaaDoorBFnPlanned3
import Derived.Shelf.Strings.SlTrimAscii
import Derived.Lib.Repeat
import Derived.Test.YtlljkankongifaaDoorProg
import Derived.Test.YtlljkankongifaaDoorRows
import Derived.Test.YtlljkankongifaaDoorTie
import Derived.Test.YtlljkankongifaaDoorCards
import Derived.WalkKit
import Derived.LaidMore
import Derived.Lay
import Derived.SevenTiedAt
import Derived.Stop.Joined
import Derived.ProofKit
import Derived.OpenShut
import Derived.ShutString
import Derived.ChangeOld
import Derived.Below
import Derived.SizedLaws
import Derived.Carry
namespace Go.Proofs.YtlljkankongifaaDoor.Abs
open Go Go.RowKit
set_option linter.unusedVariables false
set_option linter.unusedSectionVars false
set_option linter.unusedSimpArgs false
noncomputable section
def laws_big.a : FnA (Bool) := ⟨6, [.tmp 2], .bool, [], [], fun x H => match x, H with
  | .bs false r, [] => some r
  | _, _ => none⟩
def laws_big.s : Spec := mkS [.con (.int .u8)] (fun k avs H => match avs, H with
  | [.con (.int .u8) a0], [] => some (laws_big.f a0)
  | _, _ => none) (fun r => (.bs false r, []))
def laws_big.E : Env := []
def laws_big.G (k p : Nat) (avs : List AV) (H : List HE) : Option (Bool) := none
set_option maxRecDepth 100000 in
theorem laws_big.eq (k : Nat) (a0 : List Int) : fromTop Tryd.prog laws_big.E k laws_big.a (laws_big.G k) 1000 (bodyOf Tryd.prog 21) [.con (.int .u8) a0] [] = laws_big.f a0 := by kernel_rfl
theorem laws_big.E_ok : EnvOk Tryd.prog laws_big.E := trivial
theorem laws_big.sound : Sound Tryd.prog 21 laws_big.s := by
  refine func_sound (f := laws_big.a) (G := laws_big.G) (fn := Tryd.f21) (body := bodyOf Tryd.prog 21) 1000 (by kernel_rfl) laws_big.E_ok Tryd.func21 (by kernel_rfl) (by kernel_rfl) (by kernel_rfl) (ptsOk_of (by kernel_rfl)) ?_ ?_ ?_ ?_
  · intro r H x h
    unfold laws_big.a at h
    simp only at h
    split at h
    · cases h; rfl
    · cases h
  · intro q avs H; rfl
  · intro k q pt avs H x _ h; cases h
  · intro k avs H o h
    try dsimp only at h
    split at h
    · cases h; exact laws_big.eq _ _
    · cases h

def spec_l1Open.a : FnA (List Int × Int) := ⟨6, [.tmp 2], .box [.con (.int .u8), .val], [], [], fun x H => match x, H with
  | .box 0 0, [.box [.con (.int .u8) r_0, .v (.int .i64 r_1)]] => some (r_0, r_1)
  | _, _ => none⟩
def spec_l1Open.s : Spec := mkS [.con (.int .u8)] (fun k avs H => match avs, H with
  | [.con (.int .u8) a0], [] => some (spec_l1Open.f a0)
  | _, _ => none) (fun r => (.box 0 0, [.box [.con (.int .u8) r.1, .v (.int .i64 r.2)]]))
def spec_l1Open.E : Env := []
def spec_l1Open.G (k p : Nat) (avs : List AV) (H : List HE) : Option (List Int × Int) := none
set_option maxRecDepth 100000 in
theorem spec_l1Open.eq (k : Nat) (a0 : List Int) : fromTop Tryd.prog spec_l1Open.E k spec_l1Open.a (spec_l1Open.G k) 1000 (bodyOf Tryd.prog 60) [.con (.int .u8) a0] [] = spec_l1Open.f a0 := by kernel_rfl
theorem spec_l1Open.E_ok : EnvOk Tryd.prog spec_l1Open.E := trivial
theorem spec_l1Open.sound : Sound Tryd.prog 60 spec_l1Open.s := by
  refine func_sound (f := spec_l1Open.a) (G := spec_l1Open.G) (fn := Tryd.f60) (body := bodyOf Tryd.prog 60) 1000 (by kernel_rfl) spec_l1Open.E_ok Tryd.func60 (by kernel_rfl) (by kernel_rfl) (by kernel_rfl) (ptsOk_of (by kernel_rfl)) ?_ ?_ ?_ ?_
  · intro r H x h
    unfold spec_l1Open.a at h
    simp only at h
    split at h
    · cases h; rfl
    · cases h
  · intro q avs H; rfl
  · intro k q pt avs H x _ h; cases h
  · intro k avs H o h
    try dsimp only at h
    split at h
    · cases h; exact spec_l1Open.eq _ _
    · cases h

def spec_l1Rd_next.a : FnA (List Int × Int × Int) := ⟨32, [.tmp 2], .val, [.box [.con (.int .u8), .val]], [], fun x H => match x, H with
  | .v (.int .i64 r), [.box [.con (.int .u8) h0_0, .v (.int .i64 h0_1)]] => some (h0_0, h0_1, r)
  | _, _ => none⟩
def spec_l1Rd_next.s : Spec := mkS [.box [.con (.int .u8), .val]] (fun k avs H => match avs, H with
  | [.box 0 0], [.box [.con (.int .u8) a0_0, .v (.int .i64 a0_1)]] => some (spec_l1Rd_next.f a0_0 a0_1)
  | _, _ => none) (fun r => (.v (.int .i64 r.2.2), [.box [.con (.int .u8) r.1, .v (.int .i64 r.2.1)]]))
def spec_l1Rd_next.E : Env := []
def spec_l1Rd_next.G (k p : Nat) (avs : List AV) (H : List HE) : Option (List Int × Int × Int) := none
set_option maxRecDepth 100000 in
theorem spec_l1Rd_next.eq (k : Nat) (a0_0 : List Int) (a0_1 : Int) : fromTop Tryd.prog spec_l1Rd_next.E k spec_l1Rd_next.a (spec_l1Rd_next.G k) 1000 (bodyOf Tryd.prog 105) [.box 0 0] [.box [.con (.int .u8) a0_0, .v (.int .i64 a0_1)]] = spec_l1Rd_next.f a0_0 a0_1 := by kernel_rfl
theorem spec_l1Rd_next.E_ok : EnvOk Tryd.prog spec_l1Rd_next.E := trivial
theorem spec_l1Rd_next.sound : Sound Tryd.prog 105 spec_l1Rd_next.s := by
  refine func_sound (f := spec_l1Rd_next.a) (G := spec_l1Rd_next.G) (fn := Tryd.f105) (body := bodyOf Tryd.prog 105) 1000 (by kernel_rfl) spec_l1Rd_next.E_ok Tryd.func105 (by kernel_rfl) (by kernel_rfl) (by kernel_rfl) (ptsOk_of (by kernel_rfl)) ?_ ?_ ?_ ?_
  · intro r H x h
    unfold spec_l1Rd_next.a at h
    simp only at h
    split at h
    · cases h; rfl
    · cases h
  · intro q avs H; rfl
  · intro k q pt avs H x _ h; cases h
  · intro k avs H o h
    try dsimp only at h
    split at h
    · cases h; exact spec_l1Rd_next.eq _ _ _
    · cases h

def spec_l1Rd_below.a : FnA (List Int × Int × Int) := ⟨24, [.tmp 4], .val, [.box [.con (.int .u8), .val]], [], fun x H => match x, H with
  | .v (.int .i64 r), [.box [.con (.int .u8) h0_0, .v (.int .i64 h0_1)]] => some (h0_0, h0_1, r)
  | _, _ => none⟩
def spec_l1Rd_below.s : Spec := mkS [.box [.con (.int .u8), .val], .val] (fun k avs H => match avs, H with
  | [.box 0 0, .v (.int .i64 a1)], [.box [.con (.int .u8) a0_0, .v (.int .i64 a0_1)]] => some (spec_l1Rd_below.f a0_0 a0_1 a1)
  | _, _ => none) (fun r => (.v (.int .i64 r.2.2), [.box [.con (.int .u8) r.1, .v (.int .i64 r.2.1)]]))
def spec_l1Rd_below.E : Env := [((105, []), spec_l1Rd_next.s)]
def spec_l1Rd_below.G (k p : Nat) (avs : List AV) (H : List HE) : Option (List Int × Int × Int) := none
set_option maxRecDepth 100000 in
theorem spec_l1Rd_below.eq (k : Nat) (a0_0 : List Int) (a0_1 : Int) (a1 : Int) : fromTop Tryd.prog spec_l1Rd_below.E k spec_l1Rd_below.a (spec_l1Rd_below.G k) 1000 (bodyOf Tryd.prog 65) [.box 0 0, .v (.int .i64 a1)] [.box [.con (.int .u8) a0_0, .v (.int .i64 a0_1)]] = spec_l1Rd_below.f a0_0 a0_1 a1 := by kernel_rfl
theorem spec_l1Rd_below.E_ok : EnvOk Tryd.prog spec_l1Rd_below.E := ⟨⟨spec_l1Rd_next.sound, callable_of (by kernel_rfl)⟩, trivial⟩
theorem spec_l1Rd_below.sound : Sound Tryd.prog 65 spec_l1Rd_below.s := by
  refine func_sound (f := spec_l1Rd_below.a) (G := spec_l1Rd_below.G) (fn := Tryd.f65) (body := bodyOf Tryd.prog 65) 1000 (by kernel_rfl) spec_l1Rd_below.E_ok Tryd.func65 (by kernel_rfl) (by kernel_rfl) (by kernel_rfl) (ptsOk_of (by kernel_rfl)) ?_ ?_ ?_ ?_
  · intro r H x h
    unfold spec_l1Rd_below.a at h
    simp only at h
    split at h
    · cases h; rfl
    · cases h
  · intro q avs H; rfl
  · intro k q pt avs H x _ h; cases h
  · intro k avs H o h
    try dsimp only at h
    split at h
    · cases h; exact spec_l1Rd_below.eq _ _ _ _
    · cases h

def spec_l1Rd_once.a : FnA (List Int × Int × Bool) := ⟨11, [.tmp 4], .bool, [.box [.con (.int .u8), .val]], [], fun x H => match x, H with
  | .bs false r, [.box [.con (.int .u8) h0_0, .v (.int .i64 h0_1)]] => some (h0_0, h0_1, r)
  | _, _ => none⟩
def spec_l1Rd_once.s : Spec := mkS [.box [.con (.int .u8), .val], .val] (fun k avs H => match avs, H with
  | [.box 0 0, .v (.int .i64 a1)], [.box [.con (.int .u8) a0_0, .v (.int .i64 a0_1)]] => some (spec_l1Rd_once.f a0_0 a0_1 a1)
  | _, _ => none) (fun r => (.bs false r.2.2, [.box [.con (.int .u8) r.1, .v (.int .i64 r.2.1)]]))
def spec_l1Rd_once.E : Env := [((65, []), spec_l1Rd_below.s)]
def spec_l1Rd_once.G (k p : Nat) (avs : List AV) (H : List HE) : Option (List Int × Int × Bool) := none
set_option maxRecDepth 100000 in
theorem spec_l1Rd_once.eq (k : Nat) (a0_0 : List Int) (a0_1 : Int) (a1 : Int) : fromTop Tryd.prog spec_l1Rd_once.E k spec_l1Rd_once.a (spec_l1Rd_once.G k) 1000 (bodyOf Tryd.prog 63) [.box 0 0, .v (.int .i64 a1)] [.box [.con (.int .u8) a0_0, .v (.int .i64 a0_1)]] = spec_l1Rd_once.f a0_0 a0_1 a1 := by kernel_rfl
theorem spec_l1Rd_once.E_ok : EnvOk Tryd.prog spec_l1Rd_once.E := ⟨⟨spec_l1Rd_below.sound, callable_of (by kernel_rfl)⟩, trivial⟩
theorem spec_l1Rd_once.sound : Sound Tryd.prog 63 spec_l1Rd_once.s := by
  refine func_sound (f := spec_l1Rd_once.a) (G := spec_l1Rd_once.G) (fn := Tryd.f63) (body := bodyOf Tryd.prog 63) 1000 (by kernel_rfl) spec_l1Rd_once.E_ok Tryd.func63 (by kernel_rfl) (by kernel_rfl) (by kernel_rfl) (ptsOk_of (by kernel_rfl)) ?_ ?_ ?_ ?_
  · intro r H x h
    unfold spec_l1Rd_once.a at h
    simp only at h
    split at h
    · cases h; rfl
    · cases h
  · intro q avs H; rfl
  · intro k q pt avs H x _ h; cases h
  · intro k avs H o h
    try dsimp only at h
    split at h
    · cases h; exact spec_l1Rd_once.eq _ _ _ _
    · cases h

def spec_l1Rd_kinds.a : FnA (List Int × Int × ByteArray) := ⟨23, [.tmp 4], .val, [.box [.con (.int .u8), .val]], [⟨8, [0, 5, 6], [.box [], .val, .val], [.box [.con (.int .u8), .val]]⟩], fun x H => match x, H with
  | .v (.string r), [.box [.con (.int .u8) h0_0, .v (.int .i64 h0_1)]] => some (h0_0, h0_1, r)
  | _, _ => none⟩
def spec_l1Rd_kinds.s : Spec := mkS [.box [.con (.int .u8), .val], .val] (fun k avs H => match avs, H with
  | [.box 0 0, .v (.int .i64 a1)], [.box [.con (.int .u8) a0_0, .v (.int .i64 a0_1)]] => some (spec_l1Rd_kinds.f k a0_0 a0_1 a1)
  | _, _ => none) (fun r => (.v (.string r.2.2), [.box [.con (.int .u8) r.1, .v (.int .i64 r.2.1)]]))
def spec_l1Rd_kinds.E : Env := [((65, []), spec_l1Rd_below.s)]
def spec_l1Rd_kinds.G8 (k : Nat) (avs : List AV) (H : List HE) : Option (List Int × Int × ByteArray) := match avs, H with
  | [.box 0 0, .v (.string x5), .v (.int .i64 x6)], [.box [.con (.int .u8) h0_0, .v (.int .i64 h0_1)]] => spec_l1Rd_kinds.p8 k h0_0 h0_1 x5 x6
  | _, _ => none
def spec_l1Rd_kinds.G (k p : Nat) (avs : List AV) (H : List HE) : Option (List Int × Int × ByteArray) := (pick1 8 (spec_l1Rd_kinds.G8 k avs H) none p)
set_option maxRecDepth 100000 in
theorem spec_l1Rd_kinds.eq (k : Nat) (a0_0 : List Int) (a0_1 : Int) (a1 : Int) : fromTop Tryd.prog spec_l1Rd_kinds.E k spec_l1Rd_kinds.a (spec_l1Rd_kinds.G k) 1000 (bodyOf Tryd.prog 111) [.box 0 0, .v (.int .i64 a1)] [.box [.con (.int .u8) a0_0, .v (.int .i64 a0_1)]] = spec_l1Rd_kinds.f k a0_0 a0_1 a1 := by kernel_rfl
set_option maxRecDepth 100000 in
theorem spec_l1Rd_kinds.eq8 (k : Nat) (h0_0 : List Int) (h0_1 : Int) (x5 : ByteArray) (x6 : Int) : fromPt Tryd.prog spec_l1Rd_kinds.E k spec_l1Rd_kinds.a (spec_l1Rd_kinds.G k) 1000 (bodyOf Tryd.prog 111) 8 [.box 0 0, .v (.string x5), .v (.int .i64 x6)] [.box [.con (.int .u8) h0_0, .v (.int .i64 h0_1)]] = spec_l1Rd_kinds.p8 (k + 1) h0_0 h0_1 x5 x6 := by kernel_rfl
theorem spec_l1Rd_kinds.G8_0 {avs : List AV} {H : List HE} : spec_l1Rd_kinds.G8 0 avs H = none := by unfold spec_l1Rd_kinds.G8; split <;> rfl
theorem spec_l1Rd_kinds.G8_s (k : Nat) {avs : List AV} {H : List HE} {x : List Int × Int × ByteArray} (h : spec_l1Rd_kinds.G8 (k + 1) avs H = some x) : fromPt Tryd.prog spec_l1Rd_kinds.E k spec_l1Rd_kinds.a (spec_l1Rd_kinds.G k) 1000 (bodyOf Tryd.prog 111) 8 avs H = some x := by
  unfold spec_l1Rd_kinds.G8 at h
  split at h
  · rw [← h]; exact spec_l1Rd_kinds.eq8 _ _ _ _ _
  · cases h
theorem spec_l1Rd_kinds.E_ok : EnvOk Tryd.prog spec_l1Rd_kinds.E := ⟨⟨spec_l1Rd_below.sound, callable_of (by kernel_rfl)⟩, trivial⟩
theorem spec_l1Rd_kinds.sound : Sound Tryd.prog 111 spec_l1Rd_kinds.s := by
  refine func_sound (f := spec_l1Rd_kinds.a) (G := spec_l1Rd_kinds.G) (fn := Tryd.f111) (body := bodyOf Tryd.prog 111) 1000 (by kernel_rfl) spec_l1Rd_kinds.E_ok Tryd.func111 (by kernel_rfl) (by kernel_rfl) (by kernel_rfl) (ptsOk_of (by kernel_rfl)) ?_ ?_ ?_ ?_
  · intro r H x h
    unfold spec_l1Rd_kinds.a at h
    simp only at h
    split at h
    · cases h; rfl
    · cases h
  · exact fun q avs H => pick1_none spec_l1Rd_kinds.G8_0 (rfl)
  · intro k q pt avs H x _ h
    rcases pick1_some h with ⟨rfl, h⟩ | h
    · exact spec_l1Rd_kinds.G8_s _ h
    cases h
  · intro k avs H o h
    try dsimp only at h
    split at h
    · cases h; exact spec_l1Rd_kinds.eq _ _ _ _
    · cases h

def spec_l1Rd_types.a : FnA (List Int × Int × List ByteArray) := ⟨27, [.tmp 2], .row 9 .str, [.box [.con (.int .u8), .val]], [⟨8, [0, 3, 4], [.box [], .row 9 .str, .val], [.box [.con (.int .u8), .val]]⟩], fun x H => match x, H with
  | .own 1, [.box [.con (.int .u8) h0_0, .v (.int .i64 h0_1)], .row 9 .str r] => some (h0_0, h0_1, r)
  | _, _ => none⟩
def spec_l1Rd_types.s : Spec := mkS [.box [.con (.int .u8), .val]] (fun k avs H => match avs, H with
  | [.box 0 0], [.box [.con (.int .u8) a0_0, .v (.int .i64 a0_1)]] => some (spec_l1Rd_types.f k a0_0 a0_1)
  | _, _ => none) (fun r => (.own 1, [.box [.con (.int .u8) r.1, .v (.int .i64 r.2.1)], .row 9 .str r.2.2]))
def spec_l1Rd_types.E : Env := [((65, []), spec_l1Rd_below.s), ((63, []), spec_l1Rd_once.s), ((111, []), spec_l1Rd_kinds.s)]
def spec_l1Rd_types.G8 (k : Nat) (avs : List AV) (H : List HE) : Option (List Int × Int × List ByteArray) := match avs, H with
  | [.box 0 0, .own 1, .v (.int .i64 x4)], [.box [.con (.int .u8) h0_0, .v (.int .i64 h0_1)], .row 9 .str x3] => spec_l1Rd_types.p8 k h0_0 h0_1 x3 x4
  | _, _ => none
def spec_l1Rd_types.G (k p : Nat) (avs : List AV) (H : List HE) : Option (List Int × Int × List ByteArray) := (pick1 8 (spec_l1Rd_types.G8 k avs H) none p)
set_option maxRecDepth 100000 in
theorem spec_l1Rd_types.eq (k : Nat) (a0_0 : List Int) (a0_1 : Int) : fromTop Tryd.prog spec_l1Rd_types.E k spec_l1Rd_types.a (spec_l1Rd_types.G k) 1000 (bodyOf Tryd.prog 73) [.box 0 0] [.box [.con (.int .u8) a0_0, .v (.int .i64 a0_1)]] = spec_l1Rd_types.f k a0_0 a0_1 := by kernel_rfl
set_option maxRecDepth 100000 in
theorem spec_l1Rd_types.eq8 (k : Nat) (h0_0 : List Int) (h0_1 : Int) (x3 : List ByteArray) (x4 : Int) : fromPt Tryd.prog spec_l1Rd_types.E k spec_l1Rd_types.a (spec_l1Rd_types.G k) 1000 (bodyOf Tryd.prog 73) 8 [.box 0 0, .own 1, .v (.int .i64 x4)] [.box [.con (.int .u8) h0_0, .v (.int .i64 h0_1)], .row 9 .str x3] = spec_l1Rd_types.p8 (k + 1) h0_0 h0_1 x3 x4 := by kernel_rfl
theorem spec_l1Rd_types.G8_0 {avs : List AV} {H : List HE} : spec_l1Rd_types.G8 0 avs H = none := by unfold spec_l1Rd_types.G8; split <;> rfl
theorem spec_l1Rd_types.G8_s (k : Nat) {avs : List AV} {H : List HE} {x : List Int × Int × List ByteArray} (h : spec_l1Rd_types.G8 (k + 1) avs H = some x) : fromPt Tryd.prog spec_l1Rd_types.E k spec_l1Rd_types.a (spec_l1Rd_types.G k) 1000 (bodyOf Tryd.prog 73) 8 avs H = some x := by
  unfold spec_l1Rd_types.G8 at h
  split at h
  · rw [← h]; exact spec_l1Rd_types.eq8 _ _ _ _ _
  · cases h
theorem spec_l1Rd_types.E_ok : EnvOk Tryd.prog spec_l1Rd_types.E := ⟨⟨spec_l1Rd_below.sound, callable_of (by kernel_rfl)⟩, ⟨spec_l1Rd_once.sound, callable_of (by kernel_rfl)⟩, ⟨spec_l1Rd_kinds.sound, callable_of (by kernel_rfl)⟩, trivial⟩
theorem spec_l1Rd_types.sound : Sound Tryd.prog 73 spec_l1Rd_types.s := by
  refine func_sound (f := spec_l1Rd_types.a) (G := spec_l1Rd_types.G) (fn := Tryd.f73) (body := bodyOf Tryd.prog 73) 1000 (by kernel_rfl) spec_l1Rd_types.E_ok Tryd.func73 (by kernel_rfl) (by kernel_rfl) (by kernel_rfl) (ptsOk_of (by kernel_rfl)) ?_ ?_ ?_ ?_
  · intro r H x h
    unfold spec_l1Rd_types.a at h
    simp only at h
    split at h
    · cases h; rfl
    · cases h
  · exact fun q avs H => pick1_none spec_l1Rd_types.G8_0 (rfl)
  · intro k q pt avs H x _ h
    rcases pick1_some h with ⟨rfl, h⟩ | h
    · exact spec_l1Rd_types.G8_s _ h
    cases h
  · intro k avs H o h
    try dsimp only at h
    split at h
    · cases h; exact spec_l1Rd_types.eq _ _ _
    · cases h

def spec_l1Rd_word.a : FnA (List Int × Int × Int) := ⟨16, [.tmp 2], .val, [.box [.con (.int .u8), .val]], [⟨8, [0, 3, 4], [.box [], .val, .val], [.box [.con (.int .u8), .val]]⟩], fun x H => match x, H with
  | .v (.int .u64 r), [.box [.con (.int .u8) h0_0, .v (.int .i64 h0_1)]] => some (h0_0, h0_1, r)
  | _, _ => none⟩
def spec_l1Rd_word.s : Spec := mkS [.box [.con (.int .u8), .val]] (fun k avs H => match avs, H with
  | [.box 0 0], [.box [.con (.int .u8) a0_0, .v (.int .i64 a0_1)]] => some (spec_l1Rd_word.f k a0_0 a0_1)
  | _, _ => none) (fun r => (.v (.int .u64 r.2.2), [.box [.con (.int .u8) r.1, .v (.int .i64 r.2.1)]]))
def spec_l1Rd_word.E : Env := [((105, []), spec_l1Rd_next.s)]
def spec_l1Rd_word.G8 (k : Nat) (avs : List AV) (H : List HE) : Option (List Int × Int × Int) := match avs, H with
  | [.box 0 0, .v (.int .u64 x3), .v (.int .i64 x4)], [.box [.con (.int .u8) h0_0, .v (.int .i64 h0_1)]] => spec_l1Rd_word.p8 k h0_0 h0_1 x3 x4
  | _, _ => none
def spec_l1Rd_word.G (k p : Nat) (avs : List AV) (H : List HE) : Option (List Int × Int × Int) := (pick1 8 (spec_l1Rd_word.G8 k avs H) none p)
set_option maxRecDepth 100000 in
theorem spec_l1Rd_word.eq (k : Nat) (a0_0 : List Int) (a0_1 : Int) : fromTop Tryd.prog spec_l1Rd_word.E k spec_l1Rd_word.a (spec_l1Rd_word.G k) 1000 (bodyOf Tryd.prog 131) [.box 0 0] [.box [.con (.int .u8) a0_0, .v (.int .i64 a0_1)]] = spec_l1Rd_word.f k a0_0 a0_1 := by kernel_rfl
set_option maxRecDepth 100000 in
theorem spec_l1Rd_word.eq8 (k : Nat) (h0_0 : List Int) (h0_1 : Int) (x3 : Int) (x4 : Int) : fromPt Tryd.prog spec_l1Rd_word.E k spec_l1Rd_word.a (spec_l1Rd_word.G k) 1000 (bodyOf Tryd.prog 131) 8 [.box 0 0, .v (.int .u64 x3), .v (.int .i64 x4)] [.box [.con (.int .u8) h0_0, .v (.int .i64 h0_1)]] = spec_l1Rd_word.p8 (k + 1) h0_0 h0_1 x3 x4 := by kernel_rfl
theorem spec_l1Rd_word.G8_0 {avs : List AV} {H : List HE} : spec_l1Rd_word.G8 0 avs H = none := by unfold spec_l1Rd_word.G8; split <;> rfl
theorem spec_l1Rd_word.G8_s (k : Nat) {avs : List AV} {H : List HE} {x : List Int × Int × Int} (h : spec_l1Rd_word.G8 (k + 1) avs H = some x) : fromPt Tryd.prog spec_l1Rd_word.E k spec_l1Rd_word.a (spec_l1Rd_word.G k) 1000 (bodyOf Tryd.prog 131) 8 avs H = some x := by
  unfold spec_l1Rd_word.G8 at h
  split at h
  · rw [← h]; exact spec_l1Rd_word.eq8 _ _ _ _ _
  · cases h
theorem spec_l1Rd_word.E_ok : EnvOk Tryd.prog spec_l1Rd_word.E := ⟨⟨spec_l1Rd_next.sound, callable_of (by kernel_rfl)⟩, trivial⟩
theorem spec_l1Rd_word.sound : Sound Tryd.prog 131 spec_l1Rd_word.s := by
  refine func_sound (f := spec_l1Rd_word.a) (G := spec_l1Rd_word.G) (fn := Tryd.f131) (body := bodyOf Tryd.prog 131) 1000 (by kernel_rfl) spec_l1Rd_word.E_ok Tryd.func131 (by kernel_rfl) (by kernel_rfl) (by kernel_rfl) (ptsOk_of (by kernel_rfl)) ?_ ?_ ?_ ?_
  · intro r H x h
    unfold spec_l1Rd_word.a at h
    simp only at h
    split at h
    · cases h; rfl
    · cases h
  · exact fun q avs H => pick1_none spec_l1Rd_word.G8_0 (rfl)
  · intro k q pt avs H x _ h
    rcases pick1_some h with ⟨rfl, h⟩ | h
    · exact spec_l1Rd_word.G8_s _ h
    cases h
  · intro k avs H o h
    try dsimp only at h
    split at h
    · cases h; exact spec_l1Rd_word.eq _ _ _
    · cases h

def spec_l1Rd_odd.a : FnA (List Int × Int × Int) := ⟨20, [.tmp 2], .val, [.box [.con (.int .u8), .val]], [], fun x H => match x, H with
  | .v (.int .i64 r), [.box [.con (.int .u8) h0_0, .v (.int .i64 h0_1)]] => some (h0_0, h0_1, r)
  | _, _ => none⟩
def spec_l1Rd_odd.s : Spec := mkS [.box [.con (.int .u8), .val]] (fun k avs H => match avs, H with
  | [.box 0 0], [.box [.con (.int .u8) a0_0, .v (.int .i64 a0_1)]] => some (spec_l1Rd_odd.f k a0_0 a0_1)
  | _, _ => none) (fun r => (.v (.int .i64 r.2.2), [.box [.con (.int .u8) r.1, .v (.int .i64 r.2.1)]]))
def spec_l1Rd_odd.E : Env := [((65, []), spec_l1Rd_below.s), ((131, []), spec_l1Rd_word.s)]
def spec_l1Rd_odd.G (k p : Nat) (avs : List AV) (H : List HE) : Option (List Int × Int × Int) := none
set_option maxRecDepth 100000 in
theorem spec_l1Rd_odd.eq (k : Nat) (a0_0 : List Int) (a0_1 : Int) : fromTop Tryd.prog spec_l1Rd_odd.E k spec_l1Rd_odd.a (spec_l1Rd_odd.G k) 1000 (bodyOf Tryd.prog 112) [.box 0 0] [.box [.con (.int .u8) a0_0, .v (.int .i64 a0_1)]] = spec_l1Rd_odd.f k a0_0 a0_1 := by kernel_rfl
theorem spec_l1Rd_odd.E_ok : EnvOk Tryd.prog spec_l1Rd_odd.E := ⟨⟨spec_l1Rd_below.sound, callable_of (by kernel_rfl)⟩, ⟨spec_l1Rd_word.sound, callable_of (by kernel_rfl)⟩, trivial⟩
theorem spec_l1Rd_odd.sound : Sound Tryd.prog 112 spec_l1Rd_odd.s := by
  refine func_sound (f := spec_l1Rd_odd.a) (G := spec_l1Rd_odd.G) (fn := Tryd.f112) (body := bodyOf Tryd.prog 112) 1000 (by kernel_rfl) spec_l1Rd_odd.E_ok Tryd.func112 (by kernel_rfl) (by kernel_rfl) (by kernel_rfl) (ptsOk_of (by kernel_rfl)) ?_ ?_ ?_ ?_
  · intro r H x h
    unfold spec_l1Rd_odd.a at h
    simp only at h
    split at h
    · cases h; rfl
    · cases h
  · intro q avs H; rfl
  · intro k q pt avs H x _ h; cases h
  · intro k avs H o h
    try dsimp only at h
    split at h
    · cases h; exact spec_l1Rd_odd.eq _ _ _
    · cases h

def spec_l1Rd_near.a : FnA (List Int × Int × Int) := ⟨31, [.tmp 6], .val, [.box [.con (.int .u8), .val]], [], fun x H => match x, H with
  | .v (.int .i64 r), [.box [.con (.int .u8) h0_0, .v (.int .i64 h0_1)]] => some (h0_0, h0_1, r)
  | _, _ => none⟩
def spec_l1Rd_near.s : Spec := mkS [.box [.con (.int .u8), .val], .val, .val] (fun k avs H => match avs, H with
  | [.box 0 0, .v (.int .i64 a1), .v (.int .i64 a2)], [.box [.con (.int .u8) a0_0, .v (.int .i64 a0_1)]] => some (spec_l1Rd_near.f k a0_0 a0_1 a1 a2)
  | _, _ => none) (fun r => (.v (.int .i64 r.2.2), [.box [.con (.int .u8) r.1, .v (.int .i64 r.2.1)]]))
def spec_l1Rd_near.E : Env := [((65, []), spec_l1Rd_below.s), ((131, []), spec_l1Rd_word.s)]
def spec_l1Rd_near.G (k p : Nat) (avs : List AV) (H : List HE) : Option (List Int × Int × Int) := none
set_option maxRecDepth 100000 in
theorem spec_l1Rd_near.eq (k : Nat) (a0_0 : List Int) (a0_1 : Int) (a1 : Int) (a2 : Int) : fromTop Tryd.prog spec_l1Rd_near.E k spec_l1Rd_near.a (spec_l1Rd_near.G k) 1000 (bodyOf Tryd.prog 106) [.box 0 0, .v (.int .i64 a1), .v (.int .i64 a2)] [.box [.con (.int .u8) a0_0, .v (.int .i64 a0_1)]] = spec_l1Rd_near.f k a0_0 a0_1 a1 a2 := by kernel_rfl
theorem spec_l1Rd_near.E_ok : EnvOk Tryd.prog spec_l1Rd_near.E := ⟨⟨spec_l1Rd_below.sound, callable_of (by kernel_rfl)⟩, ⟨spec_l1Rd_word.sound, callable_of (by kernel_rfl)⟩, trivial⟩
theorem spec_l1Rd_near.sound : Sound Tryd.prog 106 spec_l1Rd_near.s := by
  refine func_sound (f := spec_l1Rd_near.a) (G := spec_l1Rd_near.G) (fn := Tryd.f106) (body := bodyOf Tryd.prog 106) 1000 (by kernel_rfl) spec_l1Rd_near.E_ok Tryd.func106 (by kernel_rfl) (by kernel_rfl) (by kernel_rfl) (ptsOk_of (by kernel_rfl)) ?_ ?_ ?_ ?_
  · intro r H x h
    unfold spec_l1Rd_near.a at h
    simp only at h
    split at h
    · cases h; rfl
    · cases h
  · intro q avs H; rfl
  · intro k q pt avs H x _ h; cases h
  · intro k avs H o h
    try dsimp only at h
    split at h
    · cases h; exact spec_l1Rd_near.eq _ _ _ _ _
    · cases h

def spec_l1Rd_off.a : FnA (List Int × Int × Int) := ⟨22, [.tmp 6], .val, [.box [.con (.int .u8), .val]], [], fun x H => match x, H with
  | .v (.int .i64 r), [.box [.con (.int .u8) h0_0, .v (.int .i64 h0_1)]] => some (h0_0, h0_1, r)
  | _, _ => none⟩
def spec_l1Rd_off.s : Spec := mkS [.box [.con (.int .u8), .val], .val, .val] (fun k avs H => match avs, H with
  | [.box 0 0, .v (.int .i64 a1), .v (.int .i64 a2)], [.box [.con (.int .u8) a0_0, .v (.int .i64 a0_1)]] => some (spec_l1Rd_off.f k a0_0 a0_1 a1 a2)
  | _, _ => none) (fun r => (.v (.int .i64 r.2.2), [.box [.con (.int .u8) r.1, .v (.int .i64 r.2.1)]]))
def spec_l1Rd_off.E : Env := [((63, []), spec_l1Rd_once.s), ((65, []), spec_l1Rd_below.s), ((106, []), spec_l1Rd_near.s)]
def spec_l1Rd_off.G (k p : Nat) (avs : List AV) (H : List HE) : Option (List Int × Int × Int) := none
set_option maxRecDepth 100000 in
theorem spec_l1Rd_off.eq (k : Nat) (a0_0 : List Int) (a0_1 : Int) (a1 : Int) (a2 : Int) : fromTop Tryd.prog spec_l1Rd_off.E k spec_l1Rd_off.a (spec_l1Rd_off.G k) 1000 (bodyOf Tryd.prog 66) [.box 0 0, .v (.int .i64 a1), .v (.int .i64 a2)] [.box [.con (.int .u8) a0_0, .v (.int .i64 a0_1)]] = spec_l1Rd_off.f k a0_0 a0_1 a1 a2 := by kernel_rfl
theorem spec_l1Rd_off.E_ok : EnvOk Tryd.prog spec_l1Rd_off.E := ⟨⟨spec_l1Rd_once.sound, callable_of (by kernel_rfl)⟩, ⟨spec_l1Rd_below.sound, callable_of (by kernel_rfl)⟩, ⟨spec_l1Rd_near.sound, callable_of (by kernel_rfl)⟩, trivial⟩
theorem spec_l1Rd_off.sound : Sound Tryd.prog 66 spec_l1Rd_off.s := by
  refine func_sound (f := spec_l1Rd_off.a) (G := spec_l1Rd_off.G) (fn := Tryd.f66) (body := bodyOf Tryd.prog 66) 1000 (by kernel_rfl) spec_l1Rd_off.E_ok Tryd.func66 (by kernel_rfl) (by kernel_rfl) (by kernel_rfl) (ptsOk_of (by kernel_rfl)) ?_ ?_ ?_ ?_
  · intro r H x h
    unfold spec_l1Rd_off.a at h
    simp only at h
    split at h
    · cases h; rfl
    · cases h
  · intro q avs H; rfl
  · intro k q pt avs H x _ h; cases h
  · intro k avs H o h
    try dsimp only at h
    split at h
    · cases h; exact spec_l1Rd_off.eq _ _ _ _ _
    · cases h

def spec_l1Rd_ref.a : FnA (List Int × Int × Int) := ⟨28, [.tmp 2], .val, [.box [.con (.int .u8), .val]], [], fun x H => match x, H with
  | .v (.int .i64 r), [.box [.con (.int .u8) h0_0, .v (.int .i64 h0_1)]] => some (h0_0, h0_1, r)
  | _, _ => none⟩
def spec_l1Rd_ref.s : Spec := mkS [.box [.con (.int .u8), .val]] (fun k avs H => match avs, H with
  | [.box 0 0], [.box [.con (.int .u8) a0_0, .v (.int .i64 a0_1)]] => some (spec_l1Rd_ref.f k a0_0 a0_1)
  | _, _ => none) (fun r => (.v (.int .i64 r.2.2), [.box [.con (.int .u8) r.1, .v (.int .i64 r.2.1)]]))
def spec_l1Rd_ref.E : Env := [((65, []), spec_l1Rd_below.s), ((66, []), spec_l1Rd_off.s)]
def spec_l1Rd_ref.G (k p : Nat) (avs : List AV) (H : List HE) : Option (List Int × Int × Int) := none
set_option maxRecDepth 100000 in
theorem spec_l1Rd_ref.eq (k : Nat) (a0_0 : List Int) (a0_1 : Int) : fromTop Tryd.prog spec_l1Rd_ref.E k spec_l1Rd_ref.a (spec_l1Rd_ref.G k) 1000 (bodyOf Tryd.prog 113) [.box 0 0] [.box [.con (.int .u8) a0_0, .v (.int .i64 a0_1)]] = spec_l1Rd_ref.f k a0_0 a0_1 := by kernel_rfl
theorem spec_l1Rd_ref.E_ok : EnvOk Tryd.prog spec_l1Rd_ref.E := ⟨⟨spec_l1Rd_below.sound, callable_of (by kernel_rfl)⟩, ⟨spec_l1Rd_off.sound, callable_of (by kernel_rfl)⟩, trivial⟩
theorem spec_l1Rd_ref.sound : Sound Tryd.prog 113 spec_l1Rd_ref.s := by
  refine func_sound (f := spec_l1Rd_ref.a) (G := spec_l1Rd_ref.G) (fn := Tryd.f113) (body := bodyOf Tryd.prog 113) 1000 (by kernel_rfl) spec_l1Rd_ref.E_ok Tryd.func113 (by kernel_rfl) (by kernel_rfl) (by kernel_rfl) (ptsOk_of (by kernel_rfl)) ?_ ?_ ?_ ?_
  · intro r H x h
    unfold spec_l1Rd_ref.a at h
    simp only at h
    split at h
    · cases h; rfl
    · cases h
  · intro q avs H; rfl
  · intro k q pt avs H x _ h; cases h
  · intro k avs H o h
    try dsimp only at h
    split at h
    · cases h; exact spec_l1Rd_ref.eq _ _ _
    · cases h

def spec_l1Rd_obj.a : FnA (List Int × Int × List ByteArray × Int × List Int) := ⟨80, [.cell 4 49], .agg [.val, .con (.int .i64)], [.box [.con (.int .u8), .val], .keep], [⟨8, [0, 1, 4, 5, 6], [.box [], .row 9 .str, .box [.val, .val], .box [.val, .row 2 (.int .i64)], .val], [.box [.con (.int .u8), .val], .keep]⟩], fun x H => match x, H with
  | .agg [.v (.int .i64 r_0), .con (.int .i64) r_1], [.box [.con (.int .u8) h0_0, .v (.int .i64 h0_1)], .row 9 .str h1] => some (h0_0, h0_1, h1, r_0, r_1)
  | _, _ => none⟩
def spec_l1Rd_obj.s : Spec := mkS [.box [.con (.int .u8), .val], .row 9 .str] (fun k avs H => match avs, H with
  | [.box 0 0, .own 1], [.box [.con (.int .u8) a0_0, .v (.int .i64 a0_1)], .row 9 .str a1] => some (spec_l1Rd_obj.f k a0_0 a0_1 a1)
  | _, _ => none) (fun r => (.agg [.v (.int .i64 r.2.2.2.1), .con (.int .i64) r.2.2.2.2], [.box [.con (.int .u8) r.1, .v (.int .i64 r.2.1)], .row 9 .str r.2.2.1]))
def spec_l1Rd_obj.E : Env := [((65, []), spec_l1Rd_below.s), ((112, []), spec_l1Rd_odd.s), ((66, []), spec_l1Rd_off.s), ((113, []), spec_l1Rd_ref.s)]
def spec_l1Rd_obj.G8 (k : Nat) (avs : List AV) (H : List HE) : Option (List Int × Int × List ByteArray × Int × List Int) := match avs, H with
  | [.box 0 0, .own 1, .box 2 0, .box 3 0, .v (.int .i64 x6)], [.box [.con (.int .u8) h0_0, .v (.int .i64 h0_1)], .row 9 .str h1, .box [.v (.int .i64 x4_0), .v (.slice none 0 0)], .box [.v (.int .i64 x5_0), .own 4], .row 2 (.int .i64) x5_1] => spec_l1Rd_obj.p8 k h0_0 h0_1 h1 x4_0 x5_0 x5_1 x6
  | _, _ => none
def spec_l1Rd_obj.G (k p : Nat) (avs : List AV) (H : List HE) : Option (List Int × Int × List ByteArray × Int × List Int) := (pick1 8 (spec_l1Rd_obj.G8 k avs H) none p)
set_option maxRecDepth 100000 in
theorem spec_l1Rd_obj.eq (k : Nat) (a0_0 : List Int) (a0_1 : Int) (a1 : List ByteArray) : fromTop Tryd.prog spec_l1Rd_obj.E k spec_l1Rd_obj.a (spec_l1Rd_obj.G k) 1000 (bodyOf Tryd.prog 74) [.box 0 0, .own 1] [.box [.con (.int .u8) a0_0, .v (.int .i64 a0_1)], .row 9 .str a1] = spec_l1Rd_obj.f k a0_0 a0_1 a1 := by kernel_rfl
set_option maxRecDepth 100000 in
theorem spec_l1Rd_obj.eq8 (k : Nat) (h0_0 : List Int) (h0_1 : Int) (h1 : List ByteArray) (x4_0 : Int) (x5_0 : Int) (x5_1 : List Int) (x6 : Int) : fromPt Tryd.prog spec_l1Rd_obj.E k spec_l1Rd_obj.a (spec_l1Rd_obj.G k) 1000 (bodyOf Tryd.prog 74) 8 [.box 0 0, .own 1, .box 2 0, .box 3 0, .v (.int .i64 x6)] [.box [.con (.int .u8) h0_0, .v (.int .i64 h0_1)], .row 9 .str h1, .box [.v (.int .i64 x4_0), .v (.slice none 0 0)], .box [.v (.int .i64 x5_0), .own 4], .row 2 (.int .i64) x5_1] = spec_l1Rd_obj.p8 (k + 1) h0_0 h0_1 h1 x4_0 x5_0 x5_1 x6 := by kernel_rfl
theorem spec_l1Rd_obj.G8_0 {avs : List AV} {H : List HE} : spec_l1Rd_obj.G8 0 avs H = none := by unfold spec_l1Rd_obj.G8; split <;> rfl
theorem spec_l1Rd_obj.G8_s (k : Nat) {avs : List AV} {H : List HE} {x : List Int × Int × List ByteArray × Int × List Int} (h : spec_l1Rd_obj.G8 (k + 1) avs H = some x) : fromPt Tryd.prog spec_l1Rd_obj.E k spec_l1Rd_obj.a (spec_l1Rd_obj.G k) 1000 (bodyOf Tryd.prog 74) 8 avs H = some x := by
  unfold spec_l1Rd_obj.G8 at h
  split at h
  · rw [← h]; exact spec_l1Rd_obj.eq8 _ _ _ _ _ _ _ _
  · cases h
theorem spec_l1Rd_obj.E_ok : EnvOk Tryd.prog spec_l1Rd_obj.E := ⟨⟨spec_l1Rd_below.sound, callable_of (by kernel_rfl)⟩, ⟨spec_l1Rd_odd.sound, callable_of (by kernel_rfl)⟩, ⟨spec_l1Rd_off.sound, callable_of (by kernel_rfl)⟩, ⟨spec_l1Rd_ref.sound, callable_of (by kernel_rfl)⟩, trivial⟩
theorem spec_l1Rd_obj.sound : Sound Tryd.prog 74 spec_l1Rd_obj.s := by
  refine func_sound (f := spec_l1Rd_obj.a) (G := spec_l1Rd_obj.G) (fn := Tryd.f74) (body := bodyOf Tryd.prog 74) 1000 (by kernel_rfl) spec_l1Rd_obj.E_ok Tryd.func74 (by kernel_rfl) (by kernel_rfl) (by kernel_rfl) (ptsOk_of (by kernel_rfl)) ?_ ?_ ?_ ?_
  · intro r H x h
    unfold spec_l1Rd_obj.a at h
    simp only at h
    split at h
    · cases h; rfl
    · cases h
  · exact fun q avs H => pick1_none spec_l1Rd_obj.G8_0 (rfl)
  · intro k q pt avs H x _ h
    rcases pick1_some h with ⟨rfl, h⟩ | h
    · exact spec_l1Rd_obj.G8_s _ h
    cases h
  · intro k avs H o h
    try dsimp only at h
    split at h
    · cases h; exact spec_l1Rd_obj.eq _ _ _ _
    · cases h

def spec_l1Rd_hurtTypes.a : FnA (List Int × Int × List ByteArray) := ⟨47, [.tmp 4], .row 9 .str, [.box [.con (.int .u8), .val], .drop], [⟨30, [0, 1, 5], [.box [], .row 9 .str, .val], [.box [.con (.int .u8), .val], .drop]⟩], fun x H => match x, H with
  | .own 2, [.box [.con (.int .u8) h0_0, .v (.int .i64 h0_1)], .gone, .row 9 .str r] => some (h0_0, h0_1, r)
  | _, _ => none⟩
def spec_l1Rd_hurtTypes.s : Spec := mkS [.box [.con (.int .u8), .val], .row 9 .str] (fun k avs H => match avs, H with
  | [.box 0 0, .own 1], [.box [.con (.int .u8) a0_0, .v (.int .i64 a0_1)], .row 9 .str a1] => some (spec_l1Rd_hurtTypes.f k a0_0 a0_1 a1)
  | _, _ => none) (fun r => (.own 2, [.box [.con (.int .u8) r.1, .v (.int .i64 r.2.1)], .gone, .row 9 .str r.2.2]))
def spec_l1Rd_hurtTypes.E : Env := [((65, []), spec_l1Rd_below.s), ((111, []), spec_l1Rd_kinds.s)]
def spec_l1Rd_hurtTypes.G30 (k : Nat) (avs : List AV) (H : List HE) : Option (List Int × Int × List ByteArray) := match avs, H with
  | [.box 0 0, .own 2, .v (.int .i64 x5)], [.box [.con (.int .u8) h0_0, .v (.int .i64 h0_1)], .gone, .row 9 .str x1] => spec_l1Rd_hurtTypes.p30 k h0_0 h0_1 x1 x5
  | _, _ => none
def spec_l1Rd_hurtTypes.G (k p : Nat) (avs : List AV) (H : List HE) : Option (List Int × Int × List ByteArray) := (pick1 30 (spec_l1Rd_hurtTypes.G30 k avs H) none p)
set_option maxRecDepth 100000 in
theorem spec_l1Rd_hurtTypes.eq (k : Nat) (a0_0 : List Int) (a0_1 : Int) (a1 : List ByteArray) : fromTop Tryd.prog spec_l1Rd_hurtTypes.E k spec_l1Rd_hurtTypes.a (spec_l1Rd_hurtTypes.G k) 1000 (bodyOf Tryd.prog 109) [.box 0 0, .own 1] [.box [.con (.int .u8) a0_0, .v (.int .i64 a0_1)], .row 9 .str a1] = spec_l1Rd_hurtTypes.f k a0_0 a0_1 a1 := by kernel_rfl
set_option maxRecDepth 100000 in
theorem spec_l1Rd_hurtTypes.eq30 (k : Nat) (h0_0 : List Int) (h0_1 : Int) (x1 : List ByteArray) (x5 : Int) : fromPt Tryd.prog spec_l1Rd_hurtTypes.E k spec_l1Rd_hurtTypes.a (spec_l1Rd_hurtTypes.G k) 1000 (bodyOf Tryd.prog 109) 30 [.box 0 0, .own 2, .v (.int .i64 x5)] [.box [.con (.int .u8) h0_0, .v (.int .i64 h0_1)], .gone, .row 9 .str x1] = spec_l1Rd_hurtTypes.p30 (k + 1) h0_0 h0_1 x1 x5 := by kernel_rfl
theorem spec_l1Rd_hurtTypes.G30_0 {avs : List AV} {H : List HE} : spec_l1Rd_hurtTypes.G30 0 avs H = none := by unfold spec_l1Rd_hurtTypes.G30; split <;> rfl
theorem spec_l1Rd_hurtTypes.G30_s (k : Nat) {avs : List AV} {H : List HE} {x : List Int × Int × List ByteArray} (h : spec_l1Rd_hurtTypes.G30 (k + 1) avs H = some x) : fromPt Tryd.prog spec_l1Rd_hurtTypes.E k spec_l1Rd_hurtTypes.a (spec_l1Rd_hurtTypes.G k) 1000 (bodyOf Tryd.prog 109) 30 avs H = some x := by
  unfold spec_l1Rd_hurtTypes.G30 at h
  split at h
  · rw [← h]; exact spec_l1Rd_hurtTypes.eq30 _ _ _ _ _
  · cases h
theorem spec_l1Rd_hurtTypes.E_ok : EnvOk Tryd.prog spec_l1Rd_hurtTypes.E := ⟨⟨spec_l1Rd_below.sound, callable_of (by kernel_rfl)⟩, ⟨spec_l1Rd_kinds.sound, callable_of (by kernel_rfl)⟩, trivial⟩
theorem spec_l1Rd_hurtTypes.sound : Sound Tryd.prog 109 spec_l1Rd_hurtTypes.s := by
  refine func_sound (f := spec_l1Rd_hurtTypes.a) (G := spec_l1Rd_hurtTypes.G) (fn := Tryd.f109) (body := bodyOf Tryd.prog 109) 1000 (by kernel_rfl) spec_l1Rd_hurtTypes.E_ok Tryd.func109 (by kernel_rfl) (by kernel_rfl) (by kernel_rfl) (ptsOk_of (by kernel_rfl)) ?_ ?_ ?_ ?_
  · intro r H x h
    unfold spec_l1Rd_hurtTypes.a at h
    simp only at h
    split at h
    · cases h; rfl
    · cases h
  · exact fun q avs H => pick1_none spec_l1Rd_hurtTypes.G30_0 (rfl)
  · intro k q pt avs H x _ h
    rcases pick1_some h with ⟨rfl, h⟩ | h
    · exact spec_l1Rd_hurtTypes.G30_s _ h
    cases h
  · intro k avs H o h
    try dsimp only at h
    split at h
    · cases h; exact spec_l1Rd_hurtTypes.eq _ _ _ _
    · cases h

def spec_DrawObjOk.a : FnA (List ByteArray × Int × List Int) := ⟨18, [.tmp 2, .cell 3 49], .tup [.row 9 .str, .agg [.val, .con (.int .i64)]], [], [], fun x H => match x, H with
  | .tup [.own 0, .agg [.v (.int .i64 r_1_0), .con (.int .i64) r_1_1]], [.row 9 .str r_0] => some (r_0, r_1_0, r_1_1)
  | _, _ => none⟩
def spec_DrawObjOk.s : Spec := mkS [.con (.int .u8)] (fun k avs H => match avs, H with
  | [.con (.int .u8) a0], [] => some (spec_DrawObjOk.f k a0)
  | _, _ => none) (fun r => (.tup [.own 0, .agg [.v (.int .i64 r.2.1), .con (.int .i64) r.2.2]], [.row 9 .str r.1]))
def spec_DrawObjOk.E : Env := [((60, []), spec_l1Open.s), ((73, []), spec_l1Rd_types.s), ((74, []), spec_l1Rd_obj.s), ((109, []), spec_l1Rd_hurtTypes.s)]
def spec_DrawObjOk.G (k p : Nat) (avs : List AV) (H : List HE) : Option (List ByteArray × Int × List Int) := none
set_option maxRecDepth 100000 in
theorem spec_DrawObjOk.eq (k : Nat) (a0 : List Int) : fromTop Tryd.prog spec_DrawObjOk.E k spec_DrawObjOk.a (spec_DrawObjOk.G k) 1000 (bodyOf Tryd.prog 71) [.con (.int .u8) a0] [] = spec_DrawObjOk.f k a0 := by kernel_rfl
theorem spec_DrawObjOk.E_ok : EnvOk Tryd.prog spec_DrawObjOk.E := ⟨⟨spec_l1Open.sound, callable_of (by kernel_rfl)⟩, ⟨spec_l1Rd_types.sound, callable_of (by kernel_rfl)⟩, ⟨spec_l1Rd_obj.sound, callable_of (by kernel_rfl)⟩, ⟨spec_l1Rd_hurtTypes.sound, callable_of (by kernel_rfl)⟩, trivial⟩
theorem spec_DrawObjOk.sound : Sound Tryd.prog 71 spec_DrawObjOk.s := by
  refine func_sound (f := spec_DrawObjOk.a) (G := spec_DrawObjOk.G) (fn := Tryd.f71) (body := bodyOf Tryd.prog 71) 1000 (by kernel_rfl) spec_DrawObjOk.E_ok Tryd.func71 (by kernel_rfl) (by kernel_rfl) (by kernel_rfl) (ptsOk_of (by kernel_rfl)) ?_ ?_ ?_ ?_
  · intro r H x h
    unfold spec_DrawObjOk.a at h
    simp only at h
    split at h
    · cases h; rfl
    · cases h
  · intro q avs H; rfl
  · intro k q pt avs H x _ h; cases h
  · intro k avs H o h
    try dsimp only at h
    split at h
    · cases h; exact spec_DrawObjOk.eq _ _
    · cases h

def spec_DrawObjectBytes.a : FnA (List ByteArray × Int × List Int) := ⟨8, [.tmp 2, .cell 3 49], .tup [.row 9 .str, .agg [.val, .con (.int .i64)]], [], [], fun x H => match x, H with
  | .tup [.own 0, .agg [.v (.int .i64 r_1_0), .con (.int .i64) r_1_1]], [.row 9 .str r_0] => some (r_0, r_1_0, r_1_1)
  | _, _ => none⟩
def spec_DrawObjectBytes.s : Spec := mkS [.con (.int .u8)] (fun k avs H => match avs, H with
  | [.con (.int .u8) a0], [] => some (spec_DrawObjectBytes.f k a0)
  | _, _ => none) (fun r => (.tup [.own 0, .agg [.v (.int .i64 r.2.1), .con (.int .i64) r.2.2]], [.row 9 .str r.1]))
def spec_DrawObjectBytes.E : Env := [((71, []), spec_DrawObjOk.s)]
def spec_DrawObjectBytes.G (k p : Nat) (avs : List AV) (H : List HE) : Option (List ByteArray × Int × List Int) := none
set_option maxRecDepth 100000 in
theorem spec_DrawObjectBytes.eq (k : Nat) (a0 : List Int) : fromTop Tryd.prog spec_DrawObjectBytes.E k spec_DrawObjectBytes.a (spec_DrawObjectBytes.G k) 1000 (bodyOf Tryd.prog 27) [.con (.int .u8) a0] [] = spec_DrawObjectBytes.f k a0 := by kernel_rfl
theorem spec_DrawObjectBytes.E_ok : EnvOk Tryd.prog spec_DrawObjectBytes.E := ⟨⟨spec_DrawObjOk.sound, callable_of (by kernel_rfl)⟩, trivial⟩
theorem spec_DrawObjectBytes.sound : Sound Tryd.prog 27 spec_DrawObjectBytes.s := by
  refine func_sound (f := spec_DrawObjectBytes.a) (G := spec_DrawObjectBytes.G) (fn := Tryd.f27) (body := bodyOf Tryd.prog 27) 1000 (by kernel_rfl) spec_DrawObjectBytes.E_ok Tryd.func27 (by kernel_rfl) (by kernel_rfl) (by kernel_rfl) (ptsOk_of (by kernel_rfl)) ?_ ?_ ?_ ?_
  · intro r H x h
    unfold spec_DrawObjectBytes.a at h
    simp only at h
    split at h
    · cases h; rfl
    · cases h
  · intro q avs H; rfl
  · intro k q pt avs H x _ h; cases h
  · intro k avs H o h
    try dsimp only at h
    split at h
    · cases h; exact spec_DrawObjectBytes.eq _ _
    · cases h

def impl_size_string.a : FnA (Int) := ⟨5, [.tmp 2], .val, [], [], fun x H => match x, H with
  | .v (.int .i64 r), [] => some r
  | _, _ => none⟩
def impl_size_string.s : Spec := mkS [.con .str] (fun k avs H => match avs, H with
  | [.con .str a0], [] => some (impl_size_string.f a0)
  | _, _ => none) (fun r => (.v (.int .i64 r), []))
def impl_size_string.E : Env := []
def impl_size_string.G (k p : Nat) (avs : List AV) (H : List HE) : Option (Int) := none
set_option maxRecDepth 100000 in
theorem impl_size_string.eq (k : Nat) (a0 : List ByteArray) : fromTop Tryd.prog impl_size_string.E k impl_size_string.a (impl_size_string.G k) 1000 (bodyOf Tryd.prog 52) [.con .str a0] [] = impl_size_string.f a0 := by kernel_rfl
theorem impl_size_string.E_ok : EnvOk Tryd.prog impl_size_string.E := trivial
theorem impl_size_string.sound : Sound Tryd.prog 52 impl_size_string.s := by
  refine func_sound (f := impl_size_string.a) (G := impl_size_string.G) (fn := Tryd.f52) (body := bodyOf Tryd.prog 52) 1000 (by kernel_rfl) impl_size_string.E_ok Tryd.func52 (by kernel_rfl) (by kernel_rfl) (by kernel_rfl) (ptsOk_of (by kernel_rfl)) ?_ ?_ ?_ ?_
  · intro r H x h
    unfold impl_size_string.a at h
    simp only at h
    split at h
    · cases h; rfl
    · cases h
  · intro q avs H; rfl
  · intro k q pt avs H x _ h; cases h
  · intro k avs H o h
    try dsimp only at h
    split at h
    · cases h; exact impl_size_string.eq _ _
    · cases h

def impl_within.a : FnA (Bool) := ⟨15, [.tmp 6], .bool, [], [], fun x H => match x, H with
  | .bs false r, [] => some r
  | _, _ => none⟩
def impl_within.s : Spec := mkS [.val, .val, .val] (fun k avs H => match avs, H with
  | [.v (.int .i64 a0), .v (.int .i64 a1), .v (.int .i64 a2)], [] => some (impl_within.f a0 a1 a2)
  | _, _ => none) (fun r => (.bs false r, []))
def impl_within.E : Env := []
def impl_within.G (k p : Nat) (avs : List AV) (H : List HE) : Option (Bool) := none
set_option maxRecDepth 100000 in
theorem impl_within.eq (k : Nat) (a0 : Int) (a1 : Int) (a2 : Int) : fromTop Tryd.prog impl_within.E k impl_within.a (impl_within.G k) 1000 (bodyOf Tryd.prog 51) [.v (.int .i64 a0), .v (.int .i64 a1), .v (.int .i64 a2)] [] = impl_within.f a0 a1 a2 := by kernel_rfl
theorem impl_within.E_ok : EnvOk Tryd.prog impl_within.E := trivial
theorem impl_within.sound : Sound Tryd.prog 51 impl_within.s := by
  refine func_sound (f := impl_within.a) (G := impl_within.G) (fn := Tryd.f51) (body := bodyOf Tryd.prog 51) 1000 (by kernel_rfl) impl_within.E_ok Tryd.func51 (by kernel_rfl) (by kernel_rfl) (by kernel_rfl) (ptsOk_of (by kernel_rfl)) ?_ ?_ ?_ ?_
  · intro r H x h
    unfold impl_within.a at h
    simp only at h
    split at h
    · cases h; rfl
    · cases h
  · intro q avs H; rfl
  · intro k q pt avs H x _ h; cases h
  · intro k avs H o h
    try dsimp only at h
    split at h
    · cases h; exact impl_within.eq _ _ _ _
    · cases h

def strings_Trim.s : Spec := mkS [.val, .val] (fun _ avs H => match avs, H with
  | [.v (.string a0), .v (.string a1)], [] => some (strings_Trim.f a0 a1)
  | _, _ => none) (fun r => (.v (.string r), []))
theorem strings_Trim.sound : Sound Tryd.prog 107 strings_Trim.s := by
  refine sound_plain (emb := fun r => .v (.string r)) ?_
  intro k avs H o x h hx
  split at h
  case h_2 => cases h
  rename_i a0 a1
  cases h
  refine ⟨rfl, fun M w ρ hp vals hr => ?_⟩
  obtain ⟨v0, q0, rfl, rfl, v1, q1, rfl, rfl, rfl⟩ := hr
  unfold strings_Trim.f at hx
  split at hx
  case isFalse => cases hx
  rename_i h0
  split at hx
  case isFalse => cases hx
  rename_i h1
  split at hx
  case isFalse => cases hx
  rename_i h2
  cases hx
  refine (Go.Proofs.Any.strings_Trim_laid Go.Proofs.Tryd.lays160 (by kernel_rfl) a0 a1 w h0 (by omega) (Go.Proofs.ascii_of_all h2)).mono ?_
  rintro e w' ⟨rfl, hb⟩
  exact ⟨_, rfl, hb, fun _ _ _ _ => rfl⟩

def impl_isType.a : FnA (Bool) := ⟨11, [.tmp 2], .bool, [], [], fun x H => match x, H with
  | .bs false r, [] => some r
  | _, _ => none⟩
def impl_isType.s : Spec := mkS [.val] (fun k avs H => match avs, H with
  | [.v (.string a0)], [] => some (impl_isType.f a0)
  | _, _ => none) (fun r => (.bs false r, []))
def impl_isType.E : Env := [((51, []), impl_within.s), ((107, []), strings_Trim.s)]
def impl_isType.G (k p : Nat) (avs : List AV) (H : List HE) : Option (Bool) := none
set_option maxRecDepth 100000 in
theorem impl_isType.eq (k : Nat) (a0 : ByteArray) : fromTop Tryd.prog impl_isType.E k impl_isType.a (impl_isType.G k) 1000 (bodyOf Tryd.prog 67) [.v (.string a0)] [] = impl_isType.f a0 := by kernel_rfl
theorem impl_isType.E_ok : EnvOk Tryd.prog impl_isType.E := ⟨⟨impl_within.sound, callable_of (by kernel_rfl)⟩, ⟨strings_Trim.sound, callable_of (by kernel_rfl)⟩, trivial⟩
theorem impl_isType.sound : Sound Tryd.prog 67 impl_isType.s := by
  refine func_sound (f := impl_isType.a) (G := impl_isType.G) (fn := Tryd.f67) (body := bodyOf Tryd.prog 67) 1000 (by kernel_rfl) impl_isType.E_ok Tryd.func67 (by kernel_rfl) (by kernel_rfl) (by kernel_rfl) (ptsOk_of (by kernel_rfl)) ?_ ?_ ?_ ?_
  · intro r H x h
    unfold impl_isType.a at h
    simp only at h
    split at h
    · cases h; rfl
    · cases h
  · intro q avs H; rfl
  · intro k q pt avs H x _ h; cases h
  · intro k avs H o h
    try dsimp only at h
    split at h
    · cases h; exact impl_isType.eq _ _
    · cases h

def impl_TypesOk_1.a : FnA (Bool) := ⟨6, [.tmp 2], .bool, [], [], fun x H => match x, H with
  | .bs false r, [] => some r
  | _, _ => none⟩
def impl_TypesOk_1.s : Spec := mkS [.val] (fun k avs H => match avs, H with
  | [.v (.string a0)], [] => some (impl_TypesOk_1.f a0)
  | _, _ => none) (fun r => (.bs false r, []))
def impl_TypesOk_1.E : Env := [((67, []), impl_isType.s)]
def impl_TypesOk_1.G (k p : Nat) (avs : List AV) (H : List HE) : Option (Bool) := none
set_option maxRecDepth 100000 in
theorem impl_TypesOk_1.eq (k : Nat) (a0 : ByteArray) : fromTop Tryd.prog impl_TypesOk_1.E k impl_TypesOk_1.a (impl_TypesOk_1.G k) 1000 (bodyOf Tryd.prog 115) [.v (.string a0)] [] = impl_TypesOk_1.f a0 := by kernel_rfl
theorem impl_TypesOk_1.E_ok : EnvOk Tryd.prog impl_TypesOk_1.E := ⟨⟨impl_isType.sound, callable_of (by kernel_rfl)⟩, trivial⟩
theorem impl_TypesOk_1.sound : Sound Tryd.prog 115 impl_TypesOk_1.s := by
  refine func_sound (f := impl_TypesOk_1.a) (G := impl_TypesOk_1.G) (fn := Tryd.f115) (body := bodyOf Tryd.prog 115) 1000 (by kernel_rfl) impl_TypesOk_1.E_ok Tryd.func115 (by kernel_rfl) (by kernel_rfl) (by kernel_rfl) (ptsOk_of (by kernel_rfl)) ?_ ?_ ?_ ?_
  · intro r H x h
    unfold impl_TypesOk_1.a at h
    simp only at h
    split at h
    · cases h; rfl
    · cases h
  · intro q avs H; rfl
  · intro k q pt avs H x _ h; cases h
  · intro k avs H o h
    try dsimp only at h
    split at h
    · cases h; exact impl_TypesOk_1.eq _ _
    · cases h

def slices_IndexFunc_string_at_impl_TypesOk_1.a : FnA (Int) := ⟨19, [.tmp 4], .val, [], [⟨6, [0, 1, 7, 8], [.con .str, .fn 115 0 [], .val, .val], []⟩], fun x H => match x, H with
  | .v (.int .i64 r), [] => some r
  | _, _ => none⟩
def slices_IndexFunc_string_at_impl_TypesOk_1.s : Spec := mkS [.con .str, .fn 115 0 []] (fun k avs H => match avs, H with
  | [.con .str a0, .fn 115 0 []], [] => some (slices_IndexFunc_string_at_impl_TypesOk_1.f k a0)
  | _, _ => none) (fun r => (.v (.int .i64 r), []))
def slices_IndexFunc_string_at_impl_TypesOk_1.E : Env := [((115, []), impl_TypesOk_1.s)]
def slices_IndexFunc_string_at_impl_TypesOk_1.G6 (k : Nat) (avs : List AV) (H : List HE) : Option (Int) := match avs, H with
  | [.con .str x0, .fn 115 0 [], .v (.int .i64 x7), .v (.int .i64 x8)], [] => slices_IndexFunc_string_at_impl_TypesOk_1.p6 k x0 x7 x8
  | _, _ => none
def slices_IndexFunc_string_at_impl_TypesOk_1.G (k p : Nat) (avs : List AV) (H : List HE) : Option (Int) := (pick1 6 (slices_IndexFunc_string_at_impl_TypesOk_1.G6 k avs H) none p)
set_option maxRecDepth 100000 in
theorem slices_IndexFunc_string_at_impl_TypesOk_1.eq (k : Nat) (a0 : List ByteArray) : fromTop Tryd.prog slices_IndexFunc_string_at_impl_TypesOk_1.E k slices_IndexFunc_string_at_impl_TypesOk_1.a (slices_IndexFunc_string_at_impl_TypesOk_1.G k) 1000 (bodyOf Tryd.prog 140) [.con .str a0, .fn 115 0 []] [] = slices_IndexFunc_string_at_impl_TypesOk_1.f k a0 := by kernel_rfl
set_option maxRecDepth 100000 in
theorem slices_IndexFunc_string_at_impl_TypesOk_1.eq6 (k : Nat) (x0 : List ByteArray) (x7 : Int) (x8 : Int) : fromPt Tryd.prog slices_IndexFunc_string_at_impl_TypesOk_1.E k slices_IndexFunc_string_at_impl_TypesOk_1.a (slices_IndexFunc_string_at_impl_TypesOk_1.G k) 1000 (bodyOf Tryd.prog 140) 6 [.con .str x0, .fn 115 0 [], .v (.int .i64 x7), .v (.int .i64 x8)] [] = slices_IndexFunc_string_at_impl_TypesOk_1.p6 (k + 1) x0 x7 x8 := by kernel_rfl
theorem slices_IndexFunc_string_at_impl_TypesOk_1.G6_0 {avs : List AV} {H : List HE} : slices_IndexFunc_string_at_impl_TypesOk_1.G6 0 avs H = none := by unfold slices_IndexFunc_string_at_impl_TypesOk_1.G6; split <;> rfl
theorem slices_IndexFunc_string_at_impl_TypesOk_1.G6_s (k : Nat) {avs : List AV} {H : List HE} {x : Int} (h : slices_IndexFunc_string_at_impl_TypesOk_1.G6 (k + 1) avs H = some x) : fromPt Tryd.prog slices_IndexFunc_string_at_impl_TypesOk_1.E k slices_IndexFunc_string_at_impl_TypesOk_1.a (slices_IndexFunc_string_at_impl_TypesOk_1.G k) 1000 (bodyOf Tryd.prog 140) 6 avs H = some x := by
  unfold slices_IndexFunc_string_at_impl_TypesOk_1.G6 at h
  split at h
  · rw [← h]; exact slices_IndexFunc_string_at_impl_TypesOk_1.eq6 _ _ _ _
  · cases h
theorem slices_IndexFunc_string_at_impl_TypesOk_1.E_ok : EnvOk Tryd.prog slices_IndexFunc_string_at_impl_TypesOk_1.E := ⟨⟨impl_TypesOk_1.sound, callable_of (by kernel_rfl)⟩, trivial⟩
theorem slices_IndexFunc_string_at_impl_TypesOk_1.sound : Sound Tryd.prog 140 slices_IndexFunc_string_at_impl_TypesOk_1.s := by
  refine func_sound (f := slices_IndexFunc_string_at_impl_TypesOk_1.a) (G := slices_IndexFunc_string_at_impl_TypesOk_1.G) (fn := Tryd.f140) (body := bodyOf Tryd.prog 140) 1000 (by kernel_rfl) slices_IndexFunc_string_at_impl_TypesOk_1.E_ok Tryd.func140 (by kernel_rfl) (by kernel_rfl) (by kernel_rfl) (ptsOk_of (by kernel_rfl)) ?_ ?_ ?_ ?_
  · intro r H x h
    unfold slices_IndexFunc_string_at_impl_TypesOk_1.a at h
    simp only at h
    split at h
    · cases h; rfl
    · cases h
  · exact fun q avs H => pick1_none slices_IndexFunc_string_at_impl_TypesOk_1.G6_0 (rfl)
  · intro k q pt avs H x _ h
    rcases pick1_some h with ⟨rfl, h⟩ | h
    · exact slices_IndexFunc_string_at_impl_TypesOk_1.G6_s _ h
    cases h
  · intro k avs H o h
    try dsimp only at h
    split at h
    · cases h; exact slices_IndexFunc_string_at_impl_TypesOk_1.eq _ _
    · cases h

def slices_ContainsFunc_string_at_impl_TypesOk_1.a : FnA (Bool) := ⟨9, [.tmp 4], .bool, [], [], fun x H => match x, H with
  | .bs false r, [] => some r
  | _, _ => none⟩
def slices_ContainsFunc_string_at_impl_TypesOk_1.s : Spec := mkS [.con .str, .fn 115 0 []] (fun k avs H => match avs, H with
  | [.con .str a0, .fn 115 0 []], [] => some (slices_ContainsFunc_string_at_impl_TypesOk_1.f k a0)
  | _, _ => none) (fun r => (.bs false r, []))
def slices_ContainsFunc_string_at_impl_TypesOk_1.E : Env := [((140, [115]), slices_IndexFunc_string_at_impl_TypesOk_1.s)]
def slices_ContainsFunc_string_at_impl_TypesOk_1.G (k p : Nat) (avs : List AV) (H : List HE) : Option (Bool) := none
set_option maxRecDepth 100000 in
theorem slices_ContainsFunc_string_at_impl_TypesOk_1.eq (k : Nat) (a0 : List ByteArray) : fromTop Tryd.prog slices_ContainsFunc_string_at_impl_TypesOk_1.E k slices_ContainsFunc_string_at_impl_TypesOk_1.a (slices_ContainsFunc_string_at_impl_TypesOk_1.G k) 1000 (bodyOf Tryd.prog 114) [.con .str a0, .fn 115 0 []] [] = slices_ContainsFunc_string_at_impl_TypesOk_1.f k a0 := by kernel_rfl
theorem slices_ContainsFunc_string_at_impl_TypesOk_1.E_ok : EnvOk Tryd.prog slices_ContainsFunc_string_at_impl_TypesOk_1.E := ⟨⟨slices_IndexFunc_string_at_impl_TypesOk_1.sound, callable_of (by kernel_rfl)⟩, trivial⟩
theorem slices_ContainsFunc_string_at_impl_TypesOk_1.sound : Sound Tryd.prog 114 slices_ContainsFunc_string_at_impl_TypesOk_1.s := by
  refine func_sound (f := slices_ContainsFunc_string_at_impl_TypesOk_1.a) (G := slices_ContainsFunc_string_at_impl_TypesOk_1.G) (fn := Tryd.f114) (body := bodyOf Tryd.prog 114) 1000 (by kernel_rfl) slices_ContainsFunc_string_at_impl_TypesOk_1.E_ok Tryd.func114 (by kernel_rfl) (by kernel_rfl) (by kernel_rfl) (ptsOk_of (by kernel_rfl)) ?_ ?_ ?_ ?_
  · intro r H x h
    unfold slices_ContainsFunc_string_at_impl_TypesOk_1.a at h
    simp only at h
    split at h
    · cases h; rfl
    · cases h
  · intro q avs H; rfl
  · intro k q pt avs H x _ h; cases h
  · intro k avs H o h
    try dsimp only at h
    split at h
    · cases h; exact slices_ContainsFunc_string_at_impl_TypesOk_1.eq _ _
    · cases h

def impl_TypesOk.a : FnA (Bool) := ⟨11, [.tmp 2], .bool, [], [], fun x H => match x, H with
  | .bs false r, [] => some r
  | _, _ => none⟩
def impl_TypesOk.s : Spec := mkS [.con .str] (fun k avs H => match avs, H with
  | [.con .str a0], [] => some (impl_TypesOk.f k a0)
  | _, _ => none) (fun r => (.bs false r, []))
def impl_TypesOk.E : Env := [((52, []), impl_size_string.s), ((51, []), impl_within.s), ((114, [115]), slices_ContainsFunc_string_at_impl_TypesOk_1.s)]
def impl_TypesOk.G (k p : Nat) (avs : List AV) (H : List HE) : Option (Bool) := none
set_option maxRecDepth 100000 in
theorem impl_TypesOk.eq (k : Nat) (a0 : List ByteArray) : fromTop Tryd.prog impl_TypesOk.E k impl_TypesOk.a (impl_TypesOk.G k) 1000 (bodyOf Tryd.prog 77) [.con .str a0] [] = impl_TypesOk.f k a0 := by kernel_rfl
theorem impl_TypesOk.E_ok : EnvOk Tryd.prog impl_TypesOk.E := ⟨⟨impl_size_string.sound, callable_of (by kernel_rfl)⟩, ⟨impl_within.sound, callable_of (by kernel_rfl)⟩, ⟨slices_ContainsFunc_string_at_impl_TypesOk_1.sound, callable_of (by kernel_rfl)⟩, trivial⟩
theorem impl_TypesOk.sound : Sound Tryd.prog 77 impl_TypesOk.s := by
  refine func_sound (f := impl_TypesOk.a) (G := impl_TypesOk.G) (fn := Tryd.f77) (body := bodyOf Tryd.prog 77) 1000 (by kernel_rfl) impl_TypesOk.E_ok Tryd.func77 (by kernel_rfl) (by kernel_rfl) (by kernel_rfl) (ptsOk_of (by kernel_rfl)) ?_ ?_ ?_ ?_
  · intro r H x h
    unfold impl_TypesOk.a at h
    simp only at h
    split at h
    · cases h; rfl
    · cases h
  · intro q avs H; rfl
  · intro k q pt avs H x _ h; cases h
  · intro k avs H o h
    try dsimp only at h
    split at h
    · cases h; exact impl_TypesOk.eq _ _
    · cases h

def impl_RefKind.a : FnA (Int) := ⟨22, [.tmp 2], .val, [], [], fun x H => match x, H with
  | .v (.int .i64 r), [] => some r
  | _, _ => none⟩
def impl_RefKind.s : Spec := mkS [.val] (fun k avs H => match avs, H with
  | [.v (.int .i64 a0)], [] => some (impl_RefKind.f a0)
  | _, _ => none) (fun r => (.v (.int .i64 r), []))
def impl_RefKind.E : Env := [((51, []), impl_within.s)]
def impl_RefKind.G (k p : Nat) (avs : List AV) (H : List HE) : Option (Int) := none
set_option maxRecDepth 100000 in
theorem impl_RefKind.eq (k : Nat) (a0 : Int) : fromTop Tryd.prog impl_RefKind.E k impl_RefKind.a (impl_RefKind.G k) 1000 (bodyOf Tryd.prog 87) [.v (.int .i64 a0)] [] = impl_RefKind.f a0 := by kernel_rfl
theorem impl_RefKind.E_ok : EnvOk Tryd.prog impl_RefKind.E := ⟨⟨impl_within.sound, callable_of (by kernel_rfl)⟩, trivial⟩
theorem impl_RefKind.sound : Sound Tryd.prog 87 impl_RefKind.s := by
  refine func_sound (f := impl_RefKind.a) (G := impl_RefKind.G) (fn := Tryd.f87) (body := bodyOf Tryd.prog 87) 1000 (by kernel_rfl) impl_RefKind.E_ok Tryd.func87 (by kernel_rfl) (by kernel_rfl) (by kernel_rfl) (ptsOk_of (by kernel_rfl)) ?_ ?_ ?_ ?_
  · intro r H x h
    unfold impl_RefKind.a at h
    simp only at h
    split at h
    · cases h; rfl
    · cases h
  · intro q avs H; rfl
  · intro k q pt avs H x _ h; cases h
  · intro k avs H o h
    try dsimp only at h
    split at h
    · cases h; exact impl_RefKind.eq _ _
    · cases h

def impl_ObjOk_1.a : FnA (Bool) := ⟨6, [.tmp 2], .bool, [], [], fun x H => match x, H with
  | .bs false r, [] => some r
  | _, _ => none⟩
def impl_ObjOk_1.s : Spec := mkS [.val] (fun k avs H => match avs, H with
  | [.v (.int .i64 a0)], [] => some (impl_ObjOk_1.f a0)
  | _, _ => none) (fun r => (.bs false r, []))
def impl_ObjOk_1.E : Env := [((87, []), impl_RefKind.s)]
def impl_ObjOk_1.G (k p : Nat) (avs : List AV) (H : List HE) : Option (Bool) := none
set_option maxRecDepth 100000 in
theorem impl_ObjOk_1.eq (k : Nat) (a0 : Int) : fromTop Tryd.prog impl_ObjOk_1.E k impl_ObjOk_1.a (impl_ObjOk_1.G k) 1000 (bodyOf Tryd.prog 86) [.v (.int .i64 a0)] [] = impl_ObjOk_1.f a0 := by kernel_rfl
theorem impl_ObjOk_1.E_ok : EnvOk Tryd.prog impl_ObjOk_1.E := ⟨⟨impl_RefKind.sound, callable_of (by kernel_rfl)⟩, trivial⟩
theorem impl_ObjOk_1.sound : Sound Tryd.prog 86 impl_ObjOk_1.s := by
  refine func_sound (f := impl_ObjOk_1.a) (G := impl_ObjOk_1.G) (fn := Tryd.f86) (body := bodyOf Tryd.prog 86) 1000 (by kernel_rfl) impl_ObjOk_1.E_ok Tryd.func86 (by kernel_rfl) (by kernel_rfl) (by kernel_rfl) (ptsOk_of (by kernel_rfl)) ?_ ?_ ?_ ?_
  · intro r H x h
    unfold impl_ObjOk_1.a at h
    simp only at h
    split at h
    · cases h; rfl
    · cases h
  · intro q avs H; rfl
  · intro k q pt avs H x _ h; cases h
  · intro k avs H o h
    try dsimp only at h
    split at h
    · cases h; exact impl_ObjOk_1.eq _ _
    · cases h

def impl_isObject_at_impl_ObjOk_1.a : FnA (Bool) := ⟨51, [.tmp 6], .bool, [], [⟨14, [0, 2, 4, 29, 30, 31], [.con .str, .fn 86 0 [], .box [.val, .con (.int .i64)], .con (.int .i64), .val, .val], []⟩], fun x H => match x, H with
  | .bs false r, [] => some r
  | _, _ => none⟩
def impl_isObject_at_impl_ObjOk_1.s : Spec := mkS [.con .str, .agg [.val, .con (.int .i64)], .fn 86 0 []] (fun k avs H => match avs, H with
  | [.con .str a0, .agg [.v (.int .i64 a1_0), .con (.int .i64) a1_1], .fn 86 0 []], [] => some (impl_isObject_at_impl_ObjOk_1.f k a0 a1_0 a1_1)
  | _, _ => none) (fun r => (.bs false r, []))
def impl_isObject_at_impl_ObjOk_1.E : Env := [((52, []), impl_size_string.s), ((51, []), impl_within.s), ((86, []), impl_ObjOk_1.s)]
def impl_isObject_at_impl_ObjOk_1.G14 (k : Nat) (avs : List AV) (H : List HE) : Option (Bool) := match avs, H with
  | [.con .str x0, .fn 86 0 [], .box 0 0, .con (.int .i64) x29, .v (.int .i64 x30), .v (.int .i64 x31)], [.box [.v (.int .i64 x4_0), .con (.int .i64) x4_1]] => impl_isObject_at_impl_ObjOk_1.p14 k x0 x4_0 x4_1 x29 x30 x31
  | _, _ => none
def impl_isObject_at_impl_ObjOk_1.G (k p : Nat) (avs : List AV) (H : List HE) : Option (Bool) := (pick1 14 (impl_isObject_at_impl_ObjOk_1.G14 k avs H) none p)
set_option maxRecDepth 100000 in
theorem impl_isObject_at_impl_ObjOk_1.eq (k : Nat) (a0 : List ByteArray) (a1_0 : Int) (a1_1 : List Int) : fromTop Tryd.prog impl_isObject_at_impl_ObjOk_1.E k impl_isObject_at_impl_ObjOk_1.a (impl_isObject_at_impl_ObjOk_1.G k) 1000 (bodyOf Tryd.prog 85) [.con .str a0, .agg [.v (.int .i64 a1_0), .con (.int .i64) a1_1], .fn 86 0 []] [] = impl_isObject_at_impl_ObjOk_1.f k a0 a1_0 a1_1 := by kernel_rfl
set_option maxRecDepth 100000 in
theorem impl_isObject_at_impl_ObjOk_1.eq14 (k : Nat) (x0 : List ByteArray) (x4_0 : Int) (x4_1 : List Int) (x29 : List Int) (x30 : Int) (x31 : Int) : fromPt Tryd.prog impl_isObject_at_impl_ObjOk_1.E k impl_isObject_at_impl_ObjOk_1.a (impl_isObject_at_impl_ObjOk_1.G k) 1000 (bodyOf Tryd.prog 85) 14 [.con .str x0, .fn 86 0 [], .box 0 0, .con (.int .i64) x29, .v (.int .i64 x30), .v (.int .i64 x31)] [.box [.v (.int .i64 x4_0), .con (.int .i64) x4_1]] = impl_isObject_at_impl_ObjOk_1.p14 (k + 1) x0 x4_0 x4_1 x29 x30 x31 := by kernel_rfl
theorem impl_isObject_at_impl_ObjOk_1.G14_0 {avs : List AV} {H : List HE} : impl_isObject_at_impl_ObjOk_1.G14 0 avs H = none := by unfold impl_isObject_at_impl_ObjOk_1.G14; split <;> rfl
theorem impl_isObject_at_impl_ObjOk_1.G14_s (k : Nat) {avs : List AV} {H : List HE} {x : Bool} (h : impl_isObject_at_impl_ObjOk_1.G14 (k + 1) avs H = some x) : fromPt Tryd.prog impl_isObject_at_impl_ObjOk_1.E k impl_isObject_at_impl_ObjOk_1.a (impl_isObject_at_impl_ObjOk_1.G k) 1000 (bodyOf Tryd.prog 85) 14 avs H = some x := by
  unfold impl_isObject_at_impl_ObjOk_1.G14 at h
  split at h
  · rw [← h]; exact impl_isObject_at_impl_ObjOk_1.eq14 _ _ _ _ _ _ _
  · cases h
theorem impl_isObject_at_impl_ObjOk_1.E_ok : EnvOk Tryd.prog impl_isObject_at_impl_ObjOk_1.E := ⟨⟨impl_size_string.sound, callable_of (by kernel_rfl)⟩, ⟨impl_within.sound, callable_of (by kernel_rfl)⟩, ⟨impl_ObjOk_1.sound, callable_of (by kernel_rfl)⟩, trivial⟩
theorem impl_isObject_at_impl_ObjOk_1.sound : Sound Tryd.prog 85 impl_isObject_at_impl_ObjOk_1.s := by
  refine func_sound (f := impl_isObject_at_impl_ObjOk_1.a) (G := impl_isObject_at_impl_ObjOk_1.G) (fn := Tryd.f85) (body := bodyOf Tryd.prog 85) 1000 (by kernel_rfl) impl_isObject_at_impl_ObjOk_1.E_ok Tryd.func85 (by kernel_rfl) (by kernel_rfl) (by kernel_rfl) (ptsOk_of (by kernel_rfl)) ?_ ?_ ?_ ?_
  · intro r H x h
    unfold impl_isObject_at_impl_ObjOk_1.a at h
    simp only at h
    split at h
    · cases h; rfl
    · cases h
  · exact fun q avs H => pick1_none impl_isObject_at_impl_ObjOk_1.G14_0 (rfl)
  · intro k q pt avs H x _ h
    rcases pick1_some h with ⟨rfl, h⟩ | h
    · exact impl_isObject_at_impl_ObjOk_1.G14_s _ h
    cases h
  · intro k avs H o h
    try dsimp only at h
    split at h
    · cases h; exact impl_isObject_at_impl_ObjOk_1.eq _ _ _ _
    · cases h

def impl_ObjOk.a : FnA (Bool) := ⟨12, [.tmp 4], .bool, [], [], fun x H => match x, H with
  | .bs false r, [] => some r
  | _, _ => none⟩
def impl_ObjOk.s : Spec := mkS [.con .str, .agg [.val, .con (.int .i64)]] (fun k avs H => match avs, H with
  | [.con .str a0, .agg [.v (.int .i64 a1_0), .con (.int .i64) a1_1]], [] => some (impl_ObjOk.f k a0 a1_0 a1_1)
  | _, _ => none) (fun r => (.bs false r, []))
def impl_ObjOk.E : Env := [((77, []), impl_TypesOk.s), ((85, [86]), impl_isObject_at_impl_ObjOk_1.s)]
def impl_ObjOk.G (k p : Nat) (avs : List AV) (H : List HE) : Option (Bool) := none
set_option maxRecDepth 100000 in
theorem impl_ObjOk.eq (k : Nat) (a0 : List ByteArray) (a1_0 : Int) (a1_1 : List Int) : fromTop Tryd.prog impl_ObjOk.E k impl_ObjOk.a (impl_ObjOk.G k) 1000 (bodyOf Tryd.prog 35) [.con .str a0, .agg [.v (.int .i64 a1_0), .con (.int .i64) a1_1]] [] = impl_ObjOk.f k a0 a1_0 a1_1 := by kernel_rfl
theorem impl_ObjOk.E_ok : EnvOk Tryd.prog impl_ObjOk.E := ⟨⟨impl_TypesOk.sound, callable_of (by kernel_rfl)⟩, ⟨impl_isObject_at_impl_ObjOk_1.sound, callable_of (by kernel_rfl)⟩, trivial⟩
theorem impl_ObjOk.sound : Sound Tryd.prog 35 impl_ObjOk.s := by
  refine func_sound (f := impl_ObjOk.a) (G := impl_ObjOk.G) (fn := Tryd.f35) (body := bodyOf Tryd.prog 35) 1000 (by kernel_rfl) impl_ObjOk.E_ok Tryd.func35 (by kernel_rfl) (by kernel_rfl) (by kernel_rfl) (ptsOk_of (by kernel_rfl)) ?_ ?_ ?_ ?_
  · intro r H x h
    unfold impl_ObjOk.a at h
    simp only at h
    split at h
    · cases h; rfl
    · cases h
  · intro q avs H; rfl
  · intro k q pt avs H x _ h; cases h
  · intro k avs H o h
    try dsimp only at h
    split at h
    · cases h; exact impl_ObjOk.eq _ _ _ _
    · cases h

def impl_bigBytes.a : FnA (ByteArray) := ⟨27, [.tmp 4], .val, [], [⟨8, [0, 1, 5, 10, 11], [.val, .val, .row 5 (.int .u8), .val, .val], []⟩], fun x H => match x, H with
  | .v (.string r), [] => some r
  | _, _ => none⟩
def impl_bigBytes.s : Spec := mkS [.val, .val] (fun k avs H => match avs, H with
  | [.v (.int .u64 a0), .v (.int .i64 a1)], [] => some (impl_bigBytes.f k a0 a1)
  | _, _ => none) (fun r => (.v (.string r), []))
def impl_bigBytes.E : Env := []
def impl_bigBytes.G8 (k : Nat) (avs : List AV) (H : List HE) : Option (ByteArray) := match avs, H with
  | [.v (.int .u64 x0), .v (.int .i64 x1), .own 0, .v (.int .i64 x10), .v (.int .i64 x11)], [.row 5 (.int .u8) x5] => impl_bigBytes.p8 k x0 x1 x5 x10 x11
  | _, _ => none
def impl_bigBytes.G (k p : Nat) (avs : List AV) (H : List HE) : Option (ByteArray) := (pick1 8 (impl_bigBytes.G8 k avs H) none p)
set_option maxRecDepth 100000 in
theorem impl_bigBytes.eq (k : Nat) (a0 : Int) (a1 : Int) : fromTop Tryd.prog impl_bigBytes.E k impl_bigBytes.a (impl_bigBytes.G k) 1000 (bodyOf Tryd.prog 139) [.v (.int .u64 a0), .v (.int .i64 a1)] [] = impl_bigBytes.f k a0 a1 := by kernel_rfl
set_option maxRecDepth 100000 in
theorem impl_bigBytes.eq8 (k : Nat) (x0 : Int) (x1 : Int) (x5 : List Int) (x10 : Int) (x11 : Int) : fromPt Tryd.prog impl_bigBytes.E k impl_bigBytes.a (impl_bigBytes.G k) 1000 (bodyOf Tryd.prog 139) 8 [.v (.int .u64 x0), .v (.int .i64 x1), .own 0, .v (.int .i64 x10), .v (.int .i64 x11)] [.row 5 (.int .u8) x5] = impl_bigBytes.p8 (k + 1) x0 x1 x5 x10 x11 := by kernel_rfl
theorem impl_bigBytes.G8_0 {avs : List AV} {H : List HE} : impl_bigBytes.G8 0 avs H = none := by unfold impl_bigBytes.G8; split <;> rfl
theorem impl_bigBytes.G8_s (k : Nat) {avs : List AV} {H : List HE} {x : ByteArray} (h : impl_bigBytes.G8 (k + 1) avs H = some x) : fromPt Tryd.prog impl_bigBytes.E k impl_bigBytes.a (impl_bigBytes.G k) 1000 (bodyOf Tryd.prog 139) 8 avs H = some x := by
  unfold impl_bigBytes.G8 at h
  split at h
  · rw [← h]; exact impl_bigBytes.eq8 _ _ _ _ _ _
  · cases h
theorem impl_bigBytes.E_ok : EnvOk Tryd.prog impl_bigBytes.E := trivial
theorem impl_bigBytes.sound : Sound Tryd.prog 139 impl_bigBytes.s := by
  refine func_sound (f := impl_bigBytes.a) (G := impl_bigBytes.G) (fn := Tryd.f139) (body := bodyOf Tryd.prog 139) 1000 (by kernel_rfl) impl_bigBytes.E_ok Tryd.func139 (by kernel_rfl) (by kernel_rfl) (by kernel_rfl) (ptsOk_of (by kernel_rfl)) ?_ ?_ ?_ ?_
  · intro r H x h
    unfold impl_bigBytes.a at h
    simp only at h
    split at h
    · cases h; rfl
    · cases h
  · exact fun q avs H => pick1_none impl_bigBytes.G8_0 (rfl)
  · intro k q pt avs H x _ h
    rcases pick1_some h with ⟨rfl, h⟩ | h
    · exact impl_bigBytes.G8_s _ h
    cases h
  · intro k avs H o h
    try dsimp only at h
    split at h
    · cases h; exact impl_bigBytes.eq _ _ _
    · cases h

def impl_WordBytes.a : FnA (ByteArray) := ⟨6, [.tmp 2], .val, [], [], fun x H => match x, H with
  | .v (.string r), [] => some r
  | _, _ => none⟩
def impl_WordBytes.s : Spec := mkS [.val] (fun k avs H => match avs, H with
  | [.v (.int .i64 a0)], [] => some (impl_WordBytes.f k a0)
  | _, _ => none) (fun r => (.v (.string r), []))
def impl_WordBytes.E : Env := [((139, []), impl_bigBytes.s)]
def impl_WordBytes.G (k p : Nat) (avs : List AV) (H : List HE) : Option (ByteArray) := none
set_option maxRecDepth 100000 in
theorem impl_WordBytes.eq (k : Nat) (a0 : Int) : fromTop Tryd.prog impl_WordBytes.E k impl_WordBytes.a (impl_WordBytes.G k) 1000 (bodyOf Tryd.prog 110) [.v (.int .i64 a0)] [] = impl_WordBytes.f k a0 := by kernel_rfl
theorem impl_WordBytes.E_ok : EnvOk Tryd.prog impl_WordBytes.E := ⟨⟨impl_bigBytes.sound, callable_of (by kernel_rfl)⟩, trivial⟩
theorem impl_WordBytes.sound : Sound Tryd.prog 110 impl_WordBytes.s := by
  refine func_sound (f := impl_WordBytes.a) (G := impl_WordBytes.G) (fn := Tryd.f110) (body := bodyOf Tryd.prog 110) 1000 (by kernel_rfl) impl_WordBytes.E_ok Tryd.func110 (by kernel_rfl) (by kernel_rfl) (by kernel_rfl) (ptsOk_of (by kernel_rfl)) ?_ ?_ ?_ ?_
  · intro r H x h
    unfold impl_WordBytes.a at h
    simp only at h
    split at h
    · cases h; rfl
    · cases h
  · intro q avs H; rfl
  · intro k q pt avs H x _ h; cases h
  · intro k avs H o h
    try dsimp only at h
    split at h
    · cases h; exact impl_WordBytes.eq _ _
    · cases h

def impl_runOf.a : FnA (Int) := ⟨7, [.tmp 2], .val, [], [], fun x H => match x, H with
  | .v (.int .i64 r), [] => some r
  | _, _ => none⟩
def impl_runOf.s : Spec := mkS [.val] (fun k avs H => match avs, H with
  | [.v (.string a0)], [] => some (impl_runOf.f a0)
  | _, _ => none) (fun r => (.v (.int .i64 r), []))
def impl_runOf.E : Env := []
def impl_runOf.G (k p : Nat) (avs : List AV) (H : List HE) : Option (Int) := none
set_option maxRecDepth 100000 in
theorem impl_runOf.eq (k : Nat) (a0 : ByteArray) : fromTop Tryd.prog impl_runOf.E k impl_runOf.a (impl_runOf.G k) 1000 (bodyOf Tryd.prog 68) [.v (.string a0)] [] = impl_runOf.f a0 := by kernel_rfl
theorem impl_runOf.E_ok : EnvOk Tryd.prog impl_runOf.E := trivial
theorem impl_runOf.sound : Sound Tryd.prog 68 impl_runOf.s := by
  refine func_sound (f := impl_runOf.a) (G := impl_runOf.G) (fn := Tryd.f68) (body := bodyOf Tryd.prog 68) 1000 (by kernel_rfl) impl_runOf.E_ok Tryd.func68 (by kernel_rfl) (by kernel_rfl) (by kernel_rfl) (ptsOk_of (by kernel_rfl)) ?_ ?_ ?_ ?_
  · intro r H x h
    unfold impl_runOf.a at h
    simp only at h
    split at h
    · cases h; rfl
    · cases h
  · intro q avs H; rfl
  · intro k q pt avs H x _ h; cases h
  · intro k avs H o h
    try dsimp only at h
    split at h
    · cases h; exact impl_runOf.eq _ _
    · cases h

def strings_Repeat.s : Spec := mkS [.val, .val] (fun _ avs H => match avs, H with
  | [.v (.string a0), .v (.int .i64 a1)], [] => some (strings_Repeat.f a0 a1)
  | _, _ => none) (fun r => (.v (.string r), []))
theorem strings_Repeat.sound : Sound Tryd.prog 124 strings_Repeat.s := by
  refine sound_plain (emb := fun r => .v (.string r)) ?_
  intro k avs H o x h hx
  split at h
  case h_2 => cases h
  rename_i a0 a1
  cases h
  refine ⟨rfl, fun M w ρ hp vals hr => ?_⟩
  obtain ⟨v0, q0, rfl, rfl, v1, q1, rfl, rfl, rfl⟩ := hr
  unfold strings_Repeat.f at hx
  split at hx
  case isFalse => cases hx
  rename_i h0
  split at hx
  case isFalse => cases hx
  rename_i h1
  split at hx
  case isFalse => cases hx
  rename_i h2
  cases hx
  obtain ⟨c, rfl⟩ := Int.eq_ofNat_of_zero_le h0
  rw [Int.toNat_natCast]
  have hb : a0.size * c ≤ 1048576 * 1048576 := Nat.mul_le_mul h2 (by omega)
  refine (Go.Proofs.Tryd.strings_Repeat a0 c w (by omega) (by omega)).mono ?_
  rintro e w' ⟨rfl, hb⟩
  exact ⟨_, rfl, hb, fun _ _ _ _ => rfl⟩

def impl_zeros.a : FnA (ByteArray) := ⟨5, [.tmp 2], .val, [], [], fun x H => match x, H with
  | .v (.string r), [] => some r
  | _, _ => none⟩
def impl_zeros.s : Spec := mkS [.val] (fun k avs H => match avs, H with
  | [.v (.int .i64 a0)], [] => some (impl_zeros.f a0)
  | _, _ => none) (fun r => (.v (.string r), []))
def impl_zeros.E : Env := [((124, []), strings_Repeat.s)]
def impl_zeros.G (k p : Nat) (avs : List AV) (H : List HE) : Option (ByteArray) := none
set_option maxRecDepth 100000 in
theorem impl_zeros.eq (k : Nat) (a0 : Int) : fromTop Tryd.prog impl_zeros.E k impl_zeros.a (impl_zeros.G k) 1000 (bodyOf Tryd.prog 94) [.v (.int .i64 a0)] [] = impl_zeros.f a0 := by kernel_rfl
theorem impl_zeros.E_ok : EnvOk Tryd.prog impl_zeros.E := ⟨⟨strings_Repeat.sound, callable_of (by kernel_rfl)⟩, trivial⟩
theorem impl_zeros.sound : Sound Tryd.prog 94 impl_zeros.s := by
  refine func_sound (f := impl_zeros.a) (G := impl_zeros.G) (fn := Tryd.f94) (body := bodyOf Tryd.prog 94) 1000 (by kernel_rfl) impl_zeros.E_ok Tryd.func94 (by kernel_rfl) (by kernel_rfl) (by kernel_rfl) (ptsOk_of (by kernel_rfl)) ?_ ?_ ?_ ?_
  · intro r H x h
    unfold impl_zeros.a at h
    simp only at h
    split at h
    · cases h; rfl
    · cases h
  · intro q avs H; rfl
  · intro k q pt avs H x _ h; cases h
  · intro k avs H o h
    try dsimp only at h
    split at h
    · cases h; exact impl_zeros.eq _ _
    · cases h

def impl_objectBytes.a : FnA (ByteArray) := ⟨37, [.tmp 4], .val, [], [⟨8, [0, 3, 5, 13, 14, 15], [.con .str, .box [.val, .con (.int .i64)], .val, .con (.int .i64), .val, .val], []⟩], fun x H => match x, H with
  | .v (.string r), [] => some r
  | _, _ => none⟩
def impl_objectBytes.s : Spec := mkS [.con .str, .agg [.val, .con (.int .i64)]] (fun k avs H => match avs, H with
  | [.con .str a0, .agg [.v (.int .i64 a1_0), .con (.int .i64) a1_1]], [] => some (impl_objectBytes.f k a0 a1_0 a1_1)
  | _, _ => none) (fun r => (.v (.string r), []))
def impl_objectBytes.E : Env := [((110, []), impl_WordBytes.s), ((68, []), impl_runOf.s), ((94, []), impl_zeros.s)]
def impl_objectBytes.G8 (k : Nat) (avs : List AV) (H : List HE) : Option (ByteArray) := match avs, H with
  | [.con .str x0, .box 0 0, .v (.string x5), .con (.int .i64) x13, .v (.int .i64 x14), .v (.int .i64 x15)], [.box [.v (.int .i64 x3_0), .con (.int .i64) x3_1]] => impl_objectBytes.p8 k x0 x3_0 x3_1 x5 x13 x14 x15
  | _, _ => none
def impl_objectBytes.G (k p : Nat) (avs : List AV) (H : List HE) : Option (ByteArray) := (pick1 8 (impl_objectBytes.G8 k avs H) none p)
set_option maxRecDepth 100000 in
theorem impl_objectBytes.eq (k : Nat) (a0 : List ByteArray) (a1_0 : Int) (a1_1 : List Int) : fromTop Tryd.prog impl_objectBytes.E k impl_objectBytes.a (impl_objectBytes.G k) 1000 (bodyOf Tryd.prog 72) [.con .str a0, .agg [.v (.int .i64 a1_0), .con (.int .i64) a1_1]] [] = impl_objectBytes.f k a0 a1_0 a1_1 := by kernel_rfl
set_option maxRecDepth 100000 in
theorem impl_objectBytes.eq8 (k : Nat) (x0 : List ByteArray) (x3_0 : Int) (x3_1 : List Int) (x5 : ByteArray) (x13 : List Int) (x14 : Int) (x15 : Int) : fromPt Tryd.prog impl_objectBytes.E k impl_objectBytes.a (impl_objectBytes.G k) 1000 (bodyOf Tryd.prog 72) 8 [.con .str x0, .box 0 0, .v (.string x5), .con (.int .i64) x13, .v (.int .i64 x14), .v (.int .i64 x15)] [.box [.v (.int .i64 x3_0), .con (.int .i64) x3_1]] = impl_objectBytes.p8 (k + 1) x0 x3_0 x3_1 x5 x13 x14 x15 := by kernel_rfl
theorem impl_objectBytes.G8_0 {avs : List AV} {H : List HE} : impl_objectBytes.G8 0 avs H = none := by unfold impl_objectBytes.G8; split <;> rfl
theorem impl_objectBytes.G8_s (k : Nat) {avs : List AV} {H : List HE} {x : ByteArray} (h : impl_objectBytes.G8 (k + 1) avs H = some x) : fromPt Tryd.prog impl_objectBytes.E k impl_objectBytes.a (impl_objectBytes.G k) 1000 (bodyOf Tryd.prog 72) 8 avs H = some x := by
  unfold impl_objectBytes.G8 at h
  split at h
  · rw [← h]; exact impl_objectBytes.eq8 _ _ _ _ _ _ _ _
  · cases h
theorem impl_objectBytes.E_ok : EnvOk Tryd.prog impl_objectBytes.E := ⟨⟨impl_WordBytes.sound, callable_of (by kernel_rfl)⟩, ⟨impl_runOf.sound, callable_of (by kernel_rfl)⟩, ⟨impl_zeros.sound, callable_of (by kernel_rfl)⟩, trivial⟩
theorem impl_objectBytes.sound : Sound Tryd.prog 72 impl_objectBytes.s := by
  refine func_sound (f := impl_objectBytes.a) (G := impl_objectBytes.G) (fn := Tryd.f72) (body := bodyOf Tryd.prog 72) 1000 (by kernel_rfl) impl_objectBytes.E_ok Tryd.func72 (by kernel_rfl) (by kernel_rfl) (by kernel_rfl) (ptsOk_of (by kernel_rfl)) ?_ ?_ ?_ ?_
  · intro r H x h
    unfold impl_objectBytes.a at h
    simp only at h
    split at h
    · cases h; rfl
    · cases h
  · exact fun q avs H => pick1_none impl_objectBytes.G8_0 (rfl)
  · intro k q pt avs H x _ h
    rcases pick1_some h with ⟨rfl, h⟩ | h
    · exact impl_objectBytes.G8_s _ h
    cases h
  · intro k avs H o h
    try dsimp only at h
    split at h
    · cases h; exact impl_objectBytes.eq _ _ _ _
    · cases h

def impl_ObjectBytes.a : FnA (ByteArray) := ⟨12, [.tmp 4], .val, [], [], fun x H => match x, H with
  | .v (.string r), [] => some r
  | _, _ => none⟩
def impl_ObjectBytes.s : Spec := mkS [.con .str, .agg [.val, .con (.int .i64)]] (fun k avs H => match avs, H with
  | [.con .str a0, .agg [.v (.int .i64 a1_0), .con (.int .i64) a1_1]], [] => some (impl_ObjectBytes.f k a0 a1_0 a1_1)
  | _, _ => none) (fun r => (.v (.string r), []))
def impl_ObjectBytes.E : Env := [((35, []), impl_ObjOk.s), ((72, []), impl_objectBytes.s)]
def impl_ObjectBytes.G (k p : Nat) (avs : List AV) (H : List HE) : Option (ByteArray) := none
set_option maxRecDepth 100000 in
theorem impl_ObjectBytes.eq (k : Nat) (a0 : List ByteArray) (a1_0 : Int) (a1_1 : List Int) : fromTop Tryd.prog impl_ObjectBytes.E k impl_ObjectBytes.a (impl_ObjectBytes.G k) 1000 (bodyOf Tryd.prog 28) [.con .str a0, .agg [.v (.int .i64 a1_0), .con (.int .i64) a1_1]] [] = impl_ObjectBytes.f k a0 a1_0 a1_1 := by kernel_rfl
theorem impl_ObjectBytes.E_ok : EnvOk Tryd.prog impl_ObjectBytes.E := ⟨⟨impl_ObjOk.sound, callable_of (by kernel_rfl)⟩, ⟨impl_objectBytes.sound, callable_of (by kernel_rfl)⟩, trivial⟩
theorem impl_ObjectBytes.sound : Sound Tryd.prog 28 impl_ObjectBytes.s := by
  refine func_sound (f := impl_ObjectBytes.a) (G := impl_ObjectBytes.G) (fn := Tryd.f28) (body := bodyOf Tryd.prog 28) 1000 (by kernel_rfl) impl_ObjectBytes.E_ok Tryd.func28 (by kernel_rfl) (by kernel_rfl) (by kernel_rfl) (ptsOk_of (by kernel_rfl)) ?_ ?_ ?_ ?_
  · intro r H x h
    unfold impl_ObjectBytes.a at h
    simp only at h
    split at h
    · cases h; rfl
    · cases h
  · intro q avs H; rfl
  · intro k q pt avs H x _ h; cases h
  · intro k avs H o h
    try dsimp only at h
    split at h
    · cases h; exact impl_ObjectBytes.eq _ _ _ _
    · cases h

def spec_l1In.a : FnA (Bool) := ⟨15, [.tmp 6], .bool, [], [], fun x H => match x, H with
  | .bs false r, [] => some r
  | _, _ => none⟩
def spec_l1In.s : Spec := mkS [.val, .val, .val] (fun k avs H => match avs, H with
  | [.v (.int .i64 a0), .v (.int .i64 a1), .v (.int .i64 a2)], [] => some (spec_l1In.f a0 a1 a2)
  | _, _ => none) (fun r => (.bs false r, []))
def spec_l1In.E : Env := []
def spec_l1In.G (k p : Nat) (avs : List AV) (H : List HE) : Option (Bool) := none
set_option maxRecDepth 100000 in
theorem spec_l1In.eq (k : Nat) (a0 : Int) (a1 : Int) (a2 : Int) : fromTop Tryd.prog spec_l1In.E k spec_l1In.a (spec_l1In.G k) 1000 (bodyOf Tryd.prog 44) [.v (.int .i64 a0), .v (.int .i64 a1), .v (.int .i64 a2)] [] = spec_l1In.f a0 a1 a2 := by kernel_rfl
theorem spec_l1In.E_ok : EnvOk Tryd.prog spec_l1In.E := trivial
theorem spec_l1In.sound : Sound Tryd.prog 44 spec_l1In.s := by
  refine func_sound (f := spec_l1In.a) (G := spec_l1In.G) (fn := Tryd.f44) (body := bodyOf Tryd.prog 44) 1000 (by kernel_rfl) spec_l1In.E_ok Tryd.func44 (by kernel_rfl) (by kernel_rfl) (by kernel_rfl) (ptsOk_of (by kernel_rfl)) ?_ ?_ ?_ ?_
  · intro r H x h
    unfold spec_l1In.a at h
    simp only at h
    split at h
    · cases h; rfl
    · cases h
  · intro q avs H; rfl
  · intro k q pt avs H x _ h; cases h
  · intro k avs H o h
    try dsimp only at h
    split at h
    · cases h; exact spec_l1In.eq _ _ _ _
    · cases h

def spec_l3Type.a : FnA (Bool) := ⟨23, [.tmp 2], .bool, [], [⟨6, [0, 3], [.val, .val], []⟩], fun x H => match x, H with
  | .bs false r, [] => some r
  | _, _ => none⟩
def spec_l3Type.s : Spec := mkS [.val] (fun k avs H => match avs, H with
  | [.v (.string a0)], [] => some (spec_l3Type.f k a0)
  | _, _ => none) (fun r => (.bs false r, []))
def spec_l3Type.E : Env := [((44, []), spec_l1In.s)]
def spec_l3Type.G6 (k : Nat) (avs : List AV) (H : List HE) : Option (Bool) := match avs, H with
  | [.v (.string x0), .v (.int .i64 x3)], [] => spec_l3Type.p6 k x0 x3
  | _, _ => none
def spec_l3Type.G (k p : Nat) (avs : List AV) (H : List HE) : Option (Bool) := (pick1 6 (spec_l3Type.G6 k avs H) none p)
set_option maxRecDepth 100000 in
theorem spec_l3Type.eq (k : Nat) (a0 : ByteArray) : fromTop Tryd.prog spec_l3Type.E k spec_l3Type.a (spec_l3Type.G k) 1000 (bodyOf Tryd.prog 116) [.v (.string a0)] [] = spec_l3Type.f k a0 := by kernel_rfl
set_option maxRecDepth 100000 in
theorem spec_l3Type.eq6 (k : Nat) (x0 : ByteArray) (x3 : Int) : fromPt Tryd.prog spec_l3Type.E k spec_l3Type.a (spec_l3Type.G k) 1000 (bodyOf Tryd.prog 116) 6 [.v (.string x0), .v (.int .i64 x3)] [] = spec_l3Type.p6 (k + 1) x0 x3 := by kernel_rfl
theorem spec_l3Type.G6_0 {avs : List AV} {H : List HE} : spec_l3Type.G6 0 avs H = none := by unfold spec_l3Type.G6; split <;> rfl
theorem spec_l3Type.G6_s (k : Nat) {avs : List AV} {H : List HE} {x : Bool} (h : spec_l3Type.G6 (k + 1) avs H = some x) : fromPt Tryd.prog spec_l3Type.E k spec_l3Type.a (spec_l3Type.G k) 1000 (bodyOf Tryd.prog 116) 6 avs H = some x := by
  unfold spec_l3Type.G6 at h
  split at h
  · rw [← h]; exact spec_l3Type.eq6 _ _ _
  · cases h
theorem spec_l3Type.E_ok : EnvOk Tryd.prog spec_l3Type.E := ⟨⟨spec_l1In.sound, callable_of (by kernel_rfl)⟩, trivial⟩
theorem spec_l3Type.sound : Sound Tryd.prog 116 spec_l3Type.s := by
  refine func_sound (f := spec_l3Type.a) (G := spec_l3Type.G) (fn := Tryd.f116) (body := bodyOf Tryd.prog 116) 1000 (by kernel_rfl) spec_l3Type.E_ok Tryd.func116 (by kernel_rfl) (by kernel_rfl) (by kernel_rfl) (ptsOk_of (by kernel_rfl)) ?_ ?_ ?_ ?_
  · intro r H x h
    unfold spec_l3Type.a at h
    simp only at h
    split at h
    · cases h; rfl
    · cases h
  · exact fun q avs H => pick1_none spec_l3Type.G6_0 (rfl)
  · intro k q pt avs H x _ h
    rcases pick1_some h with ⟨rfl, h⟩ | h
    · exact spec_l3Type.G6_s _ h
    cases h
  · intro k avs H o h
    try dsimp only at h
    split at h
    · cases h; exact spec_l3Type.eq _ _
    · cases h

def spec_TypesOk.a : FnA (Bool) := ⟨20, [.tmp 2], .bool, [], [⟨14, [0, 3], [.con .str, .val], []⟩], fun x H => match x, H with
  | .bs false r, [] => some r
  | _, _ => none⟩
def spec_TypesOk.s : Spec := mkS [.con .str] (fun k avs H => match avs, H with
  | [.con .str a0], [] => some (spec_TypesOk.f k a0)
  | _, _ => none) (fun r => (.bs false r, []))
def spec_TypesOk.E : Env := [((44, []), spec_l1In.s), ((116, []), spec_l3Type.s)]
def spec_TypesOk.G14 (k : Nat) (avs : List AV) (H : List HE) : Option (Bool) := match avs, H with
  | [.con .str x0, .v (.int .i64 x3)], [] => spec_TypesOk.p14 k x0 x3
  | _, _ => none
def spec_TypesOk.G (k p : Nat) (avs : List AV) (H : List HE) : Option (Bool) := (pick1 14 (spec_TypesOk.G14 k avs H) none p)
set_option maxRecDepth 100000 in
theorem spec_TypesOk.eq (k : Nat) (a0 : List ByteArray) : fromTop Tryd.prog spec_TypesOk.E k spec_TypesOk.a (spec_TypesOk.G k) 1000 (bodyOf Tryd.prog 80) [.con .str a0] [] = spec_TypesOk.f k a0 := by kernel_rfl
set_option maxRecDepth 100000 in
theorem spec_TypesOk.eq14 (k : Nat) (x0 : List ByteArray) (x3 : Int) : fromPt Tryd.prog spec_TypesOk.E k spec_TypesOk.a (spec_TypesOk.G k) 1000 (bodyOf Tryd.prog 80) 14 [.con .str x0, .v (.int .i64 x3)] [] = spec_TypesOk.p14 (k + 1) x0 x3 := by kernel_rfl
theorem spec_TypesOk.G14_0 {avs : List AV} {H : List HE} : spec_TypesOk.G14 0 avs H = none := by unfold spec_TypesOk.G14; split <;> rfl
theorem spec_TypesOk.G14_s (k : Nat) {avs : List AV} {H : List HE} {x : Bool} (h : spec_TypesOk.G14 (k + 1) avs H = some x) : fromPt Tryd.prog spec_TypesOk.E k spec_TypesOk.a (spec_TypesOk.G k) 1000 (bodyOf Tryd.prog 80) 14 avs H = some x := by
  unfold spec_TypesOk.G14 at h
  split at h
  · rw [← h]; exact spec_TypesOk.eq14 _ _ _
  · cases h
theorem spec_TypesOk.E_ok : EnvOk Tryd.prog spec_TypesOk.E := ⟨⟨spec_l1In.sound, callable_of (by kernel_rfl)⟩, ⟨spec_l3Type.sound, callable_of (by kernel_rfl)⟩, trivial⟩
theorem spec_TypesOk.sound : Sound Tryd.prog 80 spec_TypesOk.s := by
  refine func_sound (f := spec_TypesOk.a) (G := spec_TypesOk.G) (fn := Tryd.f80) (body := bodyOf Tryd.prog 80) 1000 (by kernel_rfl) spec_TypesOk.E_ok Tryd.func80 (by kernel_rfl) (by kernel_rfl) (by kernel_rfl) (ptsOk_of (by kernel_rfl)) ?_ ?_ ?_ ?_
  · intro r H x h
    unfold spec_TypesOk.a at h
    simp only at h
    split at h
    · cases h; rfl
    · cases h
  · exact fun q avs H => pick1_none spec_TypesOk.G14_0 (rfl)
  · intro k q pt avs H x _ h
    rcases pick1_some h with ⟨rfl, h⟩ | h
    · exact spec_TypesOk.G14_s _ h
    cases h
  · intro k avs H o h
    try dsimp only at h
    split at h
    · cases h; exact spec_TypesOk.eq _ _
    · cases h

def spec_RefKind.a : FnA (Int) := ⟨22, [.tmp 2], .val, [], [], fun x H => match x, H with
  | .v (.int .i64 r), [] => some r
  | _, _ => none⟩
def spec_RefKind.s : Spec := mkS [.val] (fun k avs H => match avs, H with
  | [.v (.int .i64 a0)], [] => some (spec_RefKind.f a0)
  | _, _ => none) (fun r => (.v (.int .i64 r), []))
def spec_RefKind.E : Env := [((44, []), spec_l1In.s)]
def spec_RefKind.G (k p : Nat) (avs : List AV) (H : List HE) : Option (Int) := none
set_option maxRecDepth 100000 in
theorem spec_RefKind.eq (k : Nat) (a0 : Int) : fromTop Tryd.prog spec_RefKind.E k spec_RefKind.a (spec_RefKind.G k) 1000 (bodyOf Tryd.prog 84) [.v (.int .i64 a0)] [] = spec_RefKind.f a0 := by kernel_rfl
theorem spec_RefKind.E_ok : EnvOk Tryd.prog spec_RefKind.E := ⟨⟨spec_l1In.sound, callable_of (by kernel_rfl)⟩, trivial⟩
theorem spec_RefKind.sound : Sound Tryd.prog 84 spec_RefKind.s := by
  refine func_sound (f := spec_RefKind.a) (G := spec_RefKind.G) (fn := Tryd.f84) (body := bodyOf Tryd.prog 84) 1000 (by kernel_rfl) spec_RefKind.E_ok Tryd.func84 (by kernel_rfl) (by kernel_rfl) (by kernel_rfl) (ptsOk_of (by kernel_rfl)) ?_ ?_ ?_ ?_
  · intro r H x h
    unfold spec_RefKind.a at h
    simp only at h
    split at h
    · cases h; rfl
    · cases h
  · intro q avs H; rfl
  · intro k q pt avs H x _ h; cases h
  · intro k avs H o h
    try dsimp only at h
    split at h
    · cases h; exact spec_RefKind.eq _ _
    · cases h

def spec_ObjOk.a : FnA (Bool) := ⟨54, [.tmp 4], .bool, [], [⟨14, [0, 3, 5], [.con .str, .box [.val, .con (.int .i64)], .val], []⟩], fun x H => match x, H with
  | .bs false r, [] => some r
  | _, _ => none⟩
def spec_ObjOk.s : Spec := mkS [.con .str, .agg [.val, .con (.int .i64)]] (fun k avs H => match avs, H with
  | [.con .str a0, .agg [.v (.int .i64 a1_0), .con (.int .i64) a1_1]], [] => some (spec_ObjOk.f k a0 a1_0 a1_1)
  | _, _ => none) (fun r => (.bs false r, []))
def spec_ObjOk.E : Env := [((80, []), spec_TypesOk.s), ((44, []), spec_l1In.s), ((84, []), spec_RefKind.s)]
def spec_ObjOk.G14 (k : Nat) (avs : List AV) (H : List HE) : Option (Bool) := match avs, H with
  | [.con .str x0, .box 0 0, .v (.int .i64 x5)], [.box [.v (.int .i64 x3_0), .con (.int .i64) x3_1]] => spec_ObjOk.p14 k x0 x3_0 x3_1 x5
  | _, _ => none
def spec_ObjOk.G (k p : Nat) (avs : List AV) (H : List HE) : Option (Bool) := (pick1 14 (spec_ObjOk.G14 k avs H) none p)
set_option maxRecDepth 100000 in
theorem spec_ObjOk.eq (k : Nat) (a0 : List ByteArray) (a1_0 : Int) (a1_1 : List Int) : fromTop Tryd.prog spec_ObjOk.E k spec_ObjOk.a (spec_ObjOk.G k) 1000 (bodyOf Tryd.prog 34) [.con .str a0, .agg [.v (.int .i64 a1_0), .con (.int .i64) a1_1]] [] = spec_ObjOk.f k a0 a1_0 a1_1 := by kernel_rfl
set_option maxRecDepth 100000 in
theorem spec_ObjOk.eq14 (k : Nat) (x0 : List ByteArray) (x3_0 : Int) (x3_1 : List Int) (x5 : Int) : fromPt Tryd.prog spec_ObjOk.E k spec_ObjOk.a (spec_ObjOk.G k) 1000 (bodyOf Tryd.prog 34) 14 [.con .str x0, .box 0 0, .v (.int .i64 x5)] [.box [.v (.int .i64 x3_0), .con (.int .i64) x3_1]] = spec_ObjOk.p14 (k + 1) x0 x3_0 x3_1 x5 := by kernel_rfl
theorem spec_ObjOk.G14_0 {avs : List AV} {H : List HE} : spec_ObjOk.G14 0 avs H = none := by unfold spec_ObjOk.G14; split <;> rfl
theorem spec_ObjOk.G14_s (k : Nat) {avs : List AV} {H : List HE} {x : Bool} (h : spec_ObjOk.G14 (k + 1) avs H = some x) : fromPt Tryd.prog spec_ObjOk.E k spec_ObjOk.a (spec_ObjOk.G k) 1000 (bodyOf Tryd.prog 34) 14 avs H = some x := by
  unfold spec_ObjOk.G14 at h
  split at h
  · rw [← h]; exact spec_ObjOk.eq14 _ _ _ _ _
  · cases h
theorem spec_ObjOk.E_ok : EnvOk Tryd.prog spec_ObjOk.E := ⟨⟨spec_TypesOk.sound, callable_of (by kernel_rfl)⟩, ⟨spec_l1In.sound, callable_of (by kernel_rfl)⟩, ⟨spec_RefKind.sound, callable_of (by kernel_rfl)⟩, trivial⟩
theorem spec_ObjOk.sound : Sound Tryd.prog 34 spec_ObjOk.s := by
  refine func_sound (f := spec_ObjOk.a) (G := spec_ObjOk.G) (fn := Tryd.f34) (body := bodyOf Tryd.prog 34) 1000 (by kernel_rfl) spec_ObjOk.E_ok Tryd.func34 (by kernel_rfl) (by kernel_rfl) (by kernel_rfl) (ptsOk_of (by kernel_rfl)) ?_ ?_ ?_ ?_
  · intro r H x h
    unfold spec_ObjOk.a at h
    simp only at h
    split at h
    · cases h; rfl
    · cases h
  · exact fun q avs H => pick1_none spec_ObjOk.G14_0 (rfl)
  · intro k q pt avs H x _ h
    rcases pick1_some h with ⟨rfl, h⟩ | h
    · exact spec_ObjOk.G14_s _ h
    cases h
  · intro k avs H o h
    try dsimp only at h
    split at h
    · cases h; exact spec_ObjOk.eq _ _ _ _
    · cases h

def spec_WordBytes.a : FnA (ByteArray) := ⟨23, [.tmp 2], .val, [], [⟨8, [0, 3, 4], [.val, .row 5 (.int .u8), .val], []⟩], fun x H => match x, H with
  | .v (.string r), [] => some r
  | _, _ => none⟩
def spec_WordBytes.s : Spec := mkS [.val] (fun k avs H => match avs, H with
  | [.v (.int .i64 a0)], [] => some (spec_WordBytes.f k a0)
  | _, _ => none) (fun r => (.v (.string r), []))
def spec_WordBytes.E : Env := []
def spec_WordBytes.G8 (k : Nat) (avs : List AV) (H : List HE) : Option (ByteArray) := match avs, H with
  | [.v (.int .i64 x0), .own 0, .v (.int .i64 x4)], [.row 5 (.int .u8) x3] => spec_WordBytes.p8 k x0 x3 x4
  | _, _ => none
def spec_WordBytes.G (k p : Nat) (avs : List AV) (H : List HE) : Option (ByteArray) := (pick1 8 (spec_WordBytes.G8 k avs H) none p)
set_option maxRecDepth 100000 in
theorem spec_WordBytes.eq (k : Nat) (a0 : Int) : fromTop Tryd.prog spec_WordBytes.E k spec_WordBytes.a (spec_WordBytes.G k) 1000 (bodyOf Tryd.prog 83) [.v (.int .i64 a0)] [] = spec_WordBytes.f k a0 := by kernel_rfl
set_option maxRecDepth 100000 in
theorem spec_WordBytes.eq8 (k : Nat) (x0 : Int) (x3 : List Int) (x4 : Int) : fromPt Tryd.prog spec_WordBytes.E k spec_WordBytes.a (spec_WordBytes.G k) 1000 (bodyOf Tryd.prog 83) 8 [.v (.int .i64 x0), .own 0, .v (.int .i64 x4)] [.row 5 (.int .u8) x3] = spec_WordBytes.p8 (k + 1) x0 x3 x4 := by kernel_rfl
theorem spec_WordBytes.G8_0 {avs : List AV} {H : List HE} : spec_WordBytes.G8 0 avs H = none := by unfold spec_WordBytes.G8; split <;> rfl
theorem spec_WordBytes.G8_s (k : Nat) {avs : List AV} {H : List HE} {x : ByteArray} (h : spec_WordBytes.G8 (k + 1) avs H = some x) : fromPt Tryd.prog spec_WordBytes.E k spec_WordBytes.a (spec_WordBytes.G k) 1000 (bodyOf Tryd.prog 83) 8 avs H = some x := by
  unfold spec_WordBytes.G8 at h
  split at h
  · rw [← h]; exact spec_WordBytes.eq8 _ _ _ _
  · cases h
theorem spec_WordBytes.E_ok : EnvOk Tryd.prog spec_WordBytes.E := trivial
theorem spec_WordBytes.sound : Sound Tryd.prog 83 spec_WordBytes.s := by
  refine func_sound (f := spec_WordBytes.a) (G := spec_WordBytes.G) (fn := Tryd.f83) (body := bodyOf Tryd.prog 83) 1000 (by kernel_rfl) spec_WordBytes.E_ok Tryd.func83 (by kernel_rfl) (by kernel_rfl) (by kernel_rfl) (ptsOk_of (by kernel_rfl)) ?_ ?_ ?_ ?_
  · intro r H x h
    unfold spec_WordBytes.a at h
    simp only at h
    split at h
    · cases h; rfl
    · cases h
  · exact fun q avs H => pick1_none spec_WordBytes.G8_0 (rfl)
  · intro k q pt avs H x _ h
    rcases pick1_some h with ⟨rfl, h⟩ | h
    · exact spec_WordBytes.G8_s _ h
    cases h
  · intro k avs H o h
    try dsimp only at h
    split at h
    · cases h; exact spec_WordBytes.eq _ _
    · cases h

def spec_RunOf.a : FnA (Int) := ⟨11, [.tmp 2], .val, [], [], fun x H => match x, H with
  | .v (.int .i64 r), [] => some r
  | _, _ => none⟩
def spec_RunOf.s : Spec := mkS [.val] (fun k avs H => match avs, H with
  | [.v (.string a0)], [] => some (spec_RunOf.f k a0)
  | _, _ => none) (fun r => (.v (.int .i64 r), []))
def spec_RunOf.E : Env := [((116, []), spec_l3Type.s)]
def spec_RunOf.G (k p : Nat) (avs : List AV) (H : List HE) : Option (Int) := none
set_option maxRecDepth 100000 in
theorem spec_RunOf.eq (k : Nat) (a0 : ByteArray) : fromTop Tryd.prog spec_RunOf.E k spec_RunOf.a (spec_RunOf.G k) 1000 (bodyOf Tryd.prog 82) [.v (.string a0)] [] = spec_RunOf.f k a0 := by kernel_rfl
theorem spec_RunOf.E_ok : EnvOk Tryd.prog spec_RunOf.E := ⟨⟨spec_l3Type.sound, callable_of (by kernel_rfl)⟩, trivial⟩
theorem spec_RunOf.sound : Sound Tryd.prog 82 spec_RunOf.s := by
  refine func_sound (f := spec_RunOf.a) (G := spec_RunOf.G) (fn := Tryd.f82) (body := bodyOf Tryd.prog 82) 1000 (by kernel_rfl) spec_RunOf.E_ok Tryd.func82 (by kernel_rfl) (by kernel_rfl) (by kernel_rfl) (ptsOk_of (by kernel_rfl)) ?_ ?_ ?_ ?_
  · intro r H x h
    unfold spec_RunOf.a at h
    simp only at h
    split at h
    · cases h; rfl
    · cases h
  · intro q avs H; rfl
  · intro k q pt avs H x _ h; cases h
  · intro k avs H o h
    try dsimp only at h
    split at h
    · cases h; exact spec_RunOf.eq _ _
    · cases h

def spec_l1Zeros.a : FnA (ByteArray) := ⟨6, [.tmp 2], .val, [], [], fun x H => match x, H with
  | .v (.string r), [] => some r
  | _, _ => none⟩
def spec_l1Zeros.s : Spec := mkS [.val] (fun k avs H => match avs, H with
  | [.v (.int .i64 a0)], [] => some (spec_l1Zeros.f a0)
  | _, _ => none) (fun r => (.v (.string r), []))
def spec_l1Zeros.E : Env := []
def spec_l1Zeros.G (k p : Nat) (avs : List AV) (H : List HE) : Option (ByteArray) := none
set_option maxRecDepth 100000 in
theorem spec_l1Zeros.eq (k : Nat) (a0 : Int) : fromTop Tryd.prog spec_l1Zeros.E k spec_l1Zeros.a (spec_l1Zeros.G k) 1000 (bodyOf Tryd.prog 64) [.v (.int .i64 a0)] [] = spec_l1Zeros.f a0 := by kernel_rfl
theorem spec_l1Zeros.E_ok : EnvOk Tryd.prog spec_l1Zeros.E := trivial
theorem spec_l1Zeros.sound : Sound Tryd.prog 64 spec_l1Zeros.s := by
  refine func_sound (f := spec_l1Zeros.a) (G := spec_l1Zeros.G) (fn := Tryd.f64) (body := bodyOf Tryd.prog 64) 1000 (by kernel_rfl) spec_l1Zeros.E_ok Tryd.func64 (by kernel_rfl) (by kernel_rfl) (by kernel_rfl) (ptsOk_of (by kernel_rfl)) ?_ ?_ ?_ ?_
  · intro r H x h
    unfold spec_l1Zeros.a at h
    simp only at h
    split at h
    · cases h; rfl
    · cases h
  · intro q avs H; rfl
  · intro k q pt avs H x _ h; cases h
  · intro k avs H o h
    try dsimp only at h
    split at h
    · cases h; exact spec_l1Zeros.eq _ _
    · cases h

def spec_ObjectBytes.a : FnA (ByteArray) := ⟨43, [.tmp 4], .val, [], [⟨16, [0, 3, 5, 6], [.con .str, .box [.val, .con (.int .i64)], .val, .val], []⟩], fun x H => match x, H with
  | .v (.string r), [] => some r
  | _, _ => none⟩
def spec_ObjectBytes.s : Spec := mkS [.con .str, .agg [.val, .con (.int .i64)]] (fun k avs H => match avs, H with
  | [.con .str a0, .agg [.v (.int .i64 a1_0), .con (.int .i64) a1_1]], [] => some (spec_ObjectBytes.f k a0 a1_0 a1_1)
  | _, _ => none) (fun r => (.v (.string r), []))
def spec_ObjectBytes.E : Env := [((34, []), spec_ObjOk.s), ((83, []), spec_WordBytes.s), ((82, []), spec_RunOf.s), ((64, []), spec_l1Zeros.s)]
def spec_ObjectBytes.G16 (k : Nat) (avs : List AV) (H : List HE) : Option (ByteArray) := match avs, H with
  | [.con .str x0, .box 0 0, .v (.string x5), .v (.int .i64 x6)], [.box [.v (.int .i64 x3_0), .con (.int .i64) x3_1]] => spec_ObjectBytes.p16 k x0 x3_0 x3_1 x5 x6
  | _, _ => none
def spec_ObjectBytes.G (k p : Nat) (avs : List AV) (H : List HE) : Option (ByteArray) := (pick1 16 (spec_ObjectBytes.G16 k avs H) none p)
set_option maxRecDepth 100000 in
theorem spec_ObjectBytes.eq (k : Nat) (a0 : List ByteArray) (a1_0 : Int) (a1_1 : List Int) : fromTop Tryd.prog spec_ObjectBytes.E k spec_ObjectBytes.a (spec_ObjectBytes.G k) 1000 (bodyOf Tryd.prog 32) [.con .str a0, .agg [.v (.int .i64 a1_0), .con (.int .i64) a1_1]] [] = spec_ObjectBytes.f k a0 a1_0 a1_1 := by kernel_rfl
set_option maxRecDepth 100000 in
theorem spec_ObjectBytes.eq16 (k : Nat) (x0 : List ByteArray) (x3_0 : Int) (x3_1 : List Int) (x5 : ByteArray) (x6 : Int) : fromPt Tryd.prog spec_ObjectBytes.E k spec_ObjectBytes.a (spec_ObjectBytes.G k) 1000 (bodyOf Tryd.prog 32) 16 [.con .str x0, .box 0 0, .v (.string x5), .v (.int .i64 x6)] [.box [.v (.int .i64 x3_0), .con (.int .i64) x3_1]] = spec_ObjectBytes.p16 (k + 1) x0 x3_0 x3_1 x5 x6 := by kernel_rfl
theorem spec_ObjectBytes.G16_0 {avs : List AV} {H : List HE} : spec_ObjectBytes.G16 0 avs H = none := by unfold spec_ObjectBytes.G16; split <;> rfl
theorem spec_ObjectBytes.G16_s (k : Nat) {avs : List AV} {H : List HE} {x : ByteArray} (h : spec_ObjectBytes.G16 (k + 1) avs H = some x) : fromPt Tryd.prog spec_ObjectBytes.E k spec_ObjectBytes.a (spec_ObjectBytes.G k) 1000 (bodyOf Tryd.prog 32) 16 avs H = some x := by
  unfold spec_ObjectBytes.G16 at h
  split at h
  · rw [← h]; exact spec_ObjectBytes.eq16 _ _ _ _ _ _
  · cases h
theorem spec_ObjectBytes.E_ok : EnvOk Tryd.prog spec_ObjectBytes.E := ⟨⟨spec_ObjOk.sound, callable_of (by kernel_rfl)⟩, ⟨spec_WordBytes.sound, callable_of (by kernel_rfl)⟩, ⟨spec_RunOf.sound, callable_of (by kernel_rfl)⟩, ⟨spec_l1Zeros.sound, callable_of (by kernel_rfl)⟩, trivial⟩
theorem spec_ObjectBytes.sound : Sound Tryd.prog 32 spec_ObjectBytes.s := by
  refine func_sound (f := spec_ObjectBytes.a) (G := spec_ObjectBytes.G) (fn := Tryd.f32) (body := bodyOf Tryd.prog 32) 1000 (by kernel_rfl) spec_ObjectBytes.E_ok Tryd.func32 (by kernel_rfl) (by kernel_rfl) (by kernel_rfl) (ptsOk_of (by kernel_rfl)) ?_ ?_ ?_ ?_
  · intro r H x h
    unfold spec_ObjectBytes.a at h
    simp only at h
    split at h
    · cases h; rfl
    · cases h
  · exact fun q avs H => pick1_none spec_ObjectBytes.G16_0 (rfl)
  · intro k q pt avs H x _ h
    rcases pick1_some h with ⟨rfl, h⟩ | h
    · exact spec_ObjectBytes.G16_s _ h
    cases h
  · intro k avs H o h
    try dsimp only at h
    split at h
    · cases h; exact spec_ObjectBytes.eq _ _ _ _
    · cases h

def spec_l1Rd_hurt.a : FnA (List Int × Int × ByteArray) := ⟨50, [.tmp 4], .val, [.box [.con (.int .u8), .val]], [], fun x H => match x, H with
  | .v (.string r), [.box [.con (.int .u8) h0_0, .v (.int .i64 h0_1)]] => some (h0_0, h0_1, r)
  | _, _ => none⟩
def spec_l1Rd_hurt.s : Spec := mkS [.box [.con (.int .u8), .val], .val] (fun k avs H => match avs, H with
  | [.box 0 0, .v (.string a1)], [.box [.con (.int .u8) a0_0, .v (.int .i64 a0_1)]] => some (spec_l1Rd_hurt.f a0_0 a0_1 a1)
  | _, _ => none) (fun r => (.v (.string r.2.2), [.box [.con (.int .u8) r.1, .v (.int .i64 r.2.1)]]))
def spec_l1Rd_hurt.E : Env := [((65, []), spec_l1Rd_below.s)]
def spec_l1Rd_hurt.G (k p : Nat) (avs : List AV) (H : List HE) : Option (List Int × Int × ByteArray) := none
set_option maxRecDepth 100000 in
theorem spec_l1Rd_hurt.eq (k : Nat) (a0_0 : List Int) (a0_1 : Int) (a1 : ByteArray) : fromTop Tryd.prog spec_l1Rd_hurt.E k spec_l1Rd_hurt.a (spec_l1Rd_hurt.G k) 1000 (bodyOf Tryd.prog 75) [.box 0 0, .v (.string a1)] [.box [.con (.int .u8) a0_0, .v (.int .i64 a0_1)]] = spec_l1Rd_hurt.f a0_0 a0_1 a1 := by kernel_rfl
theorem spec_l1Rd_hurt.E_ok : EnvOk Tryd.prog spec_l1Rd_hurt.E := ⟨⟨spec_l1Rd_below.sound, callable_of (by kernel_rfl)⟩, trivial⟩
theorem spec_l1Rd_hurt.sound : Sound Tryd.prog 75 spec_l1Rd_hurt.s := by
  refine func_sound (f := spec_l1Rd_hurt.a) (G := spec_l1Rd_hurt.G) (fn := Tryd.f75) (body := bodyOf Tryd.prog 75) 1000 (by kernel_rfl) spec_l1Rd_hurt.E_ok Tryd.func75 (by kernel_rfl) (by kernel_rfl) (by kernel_rfl) (ptsOk_of (by kernel_rfl)) ?_ ?_ ?_ ?_
  · intro r H x h
    unfold spec_l1Rd_hurt.a at h
    simp only at h
    split at h
    · cases h; rfl
    · cases h
  · intro q avs H; rfl
  · intro k q pt avs H x _ h; cases h
  · intro k avs H o h
    try dsimp only at h
    split at h
    · cases h; exact spec_l1Rd_hurt.eq _ _ _ _
    · cases h

def spec_l2With.a : FnA (ByteArray) := ⟨19, [.tmp 6], .val, [], [], fun x H => match x, H with
  | .v (.string r), [] => some r
  | _, _ => none⟩
def spec_l2With.s : Spec := mkS [.val, .val, .val] (fun k avs H => match avs, H with
  | [.v (.string a0), .v (.int .i64 a1), .v (.string a2)], [] => some (spec_l2With.f a0 a1 a2)
  | _, _ => none) (fun r => (.v (.string r), []))
def spec_l2With.E : Env := []
def spec_l2With.G (k p : Nat) (avs : List AV) (H : List HE) : Option (ByteArray) := none
set_option maxRecDepth 100000 in
theorem spec_l2With.eq (k : Nat) (a0 : ByteArray) (a1 : Int) (a2 : ByteArray) : fromTop Tryd.prog spec_l2With.E k spec_l2With.a (spec_l2With.G k) 1000 (bodyOf Tryd.prog 76) [.v (.string a0), .v (.int .i64 a1), .v (.string a2)] [] = spec_l2With.f a0 a1 a2 := by kernel_rfl
theorem spec_l2With.E_ok : EnvOk Tryd.prog spec_l2With.E := trivial
theorem spec_l2With.sound : Sound Tryd.prog 76 spec_l2With.s := by
  refine func_sound (f := spec_l2With.a) (G := spec_l2With.G) (fn := Tryd.f76) (body := bodyOf Tryd.prog 76) 1000 (by kernel_rfl) spec_l2With.E_ok Tryd.func76 (by kernel_rfl) (by kernel_rfl) (by kernel_rfl) (ptsOk_of (by kernel_rfl)) ?_ ?_ ?_ ?_
  · intro r H x h
    unfold spec_l2With.a at h
    simp only at h
    split at h
    · cases h; rfl
    · cases h
  · intro q avs H; rfl
  · intro k q pt avs H x _ h; cases h
  · intro k avs H o h
    try dsimp only at h
    split at h
    · cases h; exact spec_l2With.eq _ _ _ _
    · cases h

def spec_DrawReadObject.a : FnA (List ByteArray × ByteArray) := ⟨48, [.tmp 2, .tmp 3], .tup [.row 9 .str, .val], [], [], fun x H => match x, H with
  | .tup [.own 0, .v (.string r_1)], [.row 9 .str r_0] => some (r_0, r_1)
  | _, _ => none⟩
def spec_DrawReadObject.s : Spec := mkS [.con (.int .u8)] (fun k avs H => match avs, H with
  | [.con (.int .u8) a0], [] => some (spec_DrawReadObject.f k a0)
  | _, _ => none) (fun r => (.tup [.own 0, .v (.string r.2)], [.row 9 .str r.1]))
def spec_DrawReadObject.E : Env := [((60, []), spec_l1Open.s), ((73, []), spec_l1Rd_types.s), ((74, []), spec_l1Rd_obj.s), ((32, []), spec_ObjectBytes.s), ((65, []), spec_l1Rd_below.s), ((75, []), spec_l1Rd_hurt.s), ((76, []), spec_l2With.s), ((64, []), spec_l1Zeros.s)]
def spec_DrawReadObject.G (k p : Nat) (avs : List AV) (H : List HE) : Option (List ByteArray × ByteArray) := none
set_option maxRecDepth 100000 in
theorem spec_DrawReadObject.eq (k : Nat) (a0 : List Int) : fromTop Tryd.prog spec_DrawReadObject.E k spec_DrawReadObject.a (spec_DrawReadObject.G k) 1000 (bodyOf Tryd.prog 29) [.con (.int .u8) a0] [] = spec_DrawReadObject.f k a0 := by kernel_rfl
theorem spec_DrawReadObject.E_ok : EnvOk Tryd.prog spec_DrawReadObject.E := ⟨⟨spec_l1Open.sound, callable_of (by kernel_rfl)⟩, ⟨spec_l1Rd_types.sound, callable_of (by kernel_rfl)⟩, ⟨spec_l1Rd_obj.sound, callable_of (by kernel_rfl)⟩, ⟨spec_ObjectBytes.sound, callable_of (by kernel_rfl)⟩, ⟨spec_l1Rd_below.sound, callable_of (by kernel_rfl)⟩, ⟨spec_l1Rd_hurt.sound, callable_of (by kernel_rfl)⟩, ⟨spec_l2With.sound, callable_of (by kernel_rfl)⟩, ⟨spec_l1Zeros.sound, callable_of (by kernel_rfl)⟩, trivial⟩
theorem spec_DrawReadObject.sound : Sound Tryd.prog 29 spec_DrawReadObject.s := by
  refine func_sound (f := spec_DrawReadObject.a) (G := spec_DrawReadObject.G) (fn := Tryd.f29) (body := bodyOf Tryd.prog 29) 1000 (by kernel_rfl) spec_DrawReadObject.E_ok Tryd.func29 (by kernel_rfl) (by kernel_rfl) (by kernel_rfl) (ptsOk_of (by kernel_rfl)) ?_ ?_ ?_ ?_
  · intro r H x h
    unfold spec_DrawReadObject.a at h
    simp only at h
    split at h
    · cases h; rfl
    · cases h
  · intro q avs H; rfl
  · intro k q pt avs H x _ h; cases h
  · intro k avs H o h
    try dsimp only at h
    split at h
    · cases h; exact spec_DrawReadObject.eq _ _
    · cases h

def impl_wordAt.a : FnA (Int) := ⟨21, [.tmp 4], .val, [], [⟨8, [0, 1, 5, 7], [.val, .val, .val, .val], []⟩], fun x H => match x, H with
  | .v (.int .i64 r), [] => some r
  | _, _ => none⟩
def impl_wordAt.s : Spec := mkS [.val, .val] (fun k avs H => match avs, H with
  | [.v (.string a0), .v (.int .i64 a1)], [] => some (impl_wordAt.f k a0 a1)
  | _, _ => none) (fun r => (.v (.int .i64 r), []))
def impl_wordAt.E : Env := []
def impl_wordAt.G8 (k : Nat) (avs : List AV) (H : List HE) : Option (Int) := match avs, H with
  | [.v (.string x0), .v (.int .i64 x1), .v (.int .i64 x5), .v (.int .i64 x7)], [] => impl_wordAt.p8 k x0 x1 x5 x7
  | _, _ => none
def impl_wordAt.G (k p : Nat) (avs : List AV) (H : List HE) : Option (Int) := (pick1 8 (impl_wordAt.G8 k avs H) none p)
set_option maxRecDepth 100000 in
theorem impl_wordAt.eq (k : Nat) (a0 : ByteArray) (a1 : Int) : fromTop Tryd.prog impl_wordAt.E k impl_wordAt.a (impl_wordAt.G k) 1000 (bodyOf Tryd.prog 78) [.v (.string a0), .v (.int .i64 a1)] [] = impl_wordAt.f k a0 a1 := by kernel_rfl
set_option maxRecDepth 100000 in
theorem impl_wordAt.eq8 (k : Nat) (x0 : ByteArray) (x1 : Int) (x5 : Int) (x7 : Int) : fromPt Tryd.prog impl_wordAt.E k impl_wordAt.a (impl_wordAt.G k) 1000 (bodyOf Tryd.prog 78) 8 [.v (.string x0), .v (.int .i64 x1), .v (.int .i64 x5), .v (.int .i64 x7)] [] = impl_wordAt.p8 (k + 1) x0 x1 x5 x7 := by kernel_rfl
theorem impl_wordAt.G8_0 {avs : List AV} {H : List HE} : impl_wordAt.G8 0 avs H = none := by unfold impl_wordAt.G8; split <;> rfl
theorem impl_wordAt.G8_s (k : Nat) {avs : List AV} {H : List HE} {x : Int} (h : impl_wordAt.G8 (k + 1) avs H = some x) : fromPt Tryd.prog impl_wordAt.E k impl_wordAt.a (impl_wordAt.G k) 1000 (bodyOf Tryd.prog 78) 8 avs H = some x := by
  unfold impl_wordAt.G8 at h
  split at h
  · rw [← h]; exact impl_wordAt.eq8 _ _ _ _ _
  · cases h
theorem impl_wordAt.E_ok : EnvOk Tryd.prog impl_wordAt.E := trivial
theorem impl_wordAt.sound : Sound Tryd.prog 78 impl_wordAt.s := by
  refine func_sound (f := impl_wordAt.a) (G := impl_wordAt.G) (fn := Tryd.f78) (body := bodyOf Tryd.prog 78) 1000 (by kernel_rfl) impl_wordAt.E_ok Tryd.func78 (by kernel_rfl) (by kernel_rfl) (by kernel_rfl) (ptsOk_of (by kernel_rfl)) ?_ ?_ ?_ ?_
  · intro r H x h
    unfold impl_wordAt.a at h
    simp only at h
    split at h
    · cases h; rfl
    · cases h
  · exact fun q avs H => pick1_none impl_wordAt.G8_0 (rfl)
  · intro k q pt avs H x _ h
    rcases pick1_some h with ⟨rfl, h⟩ | h
    · exact impl_wordAt.G8_s _ h
    cases h
  · intro k avs H o h
    try dsimp only at h
    split at h
    · cases h; exact impl_wordAt.eq _ _ _
    · cases h

def impl_objectOf.a : FnA (Int × List Int) := ⟨31, [.cell 6 49], .agg [.val, .row 2 (.int .i64)], [], [⟨8, [2, 6, 7, 15, 16], [.val, .box [.val, .val], .box [.val, .row 2 (.int .i64)], .val, .val], []⟩], fun x H => match x, H with
  | .agg [.v (.int .i64 r_0), .own 0], [.row 2 (.int .i64) r_1] => some (r_0, r_1)
  | _, _ => none⟩
def impl_objectOf.s : Spec := mkS [.con .str, .val, .val] (fun k avs H => match avs, H with
  | [.con .str a0, .v (.int .i64 a1), .v (.string a2)], [] => some (impl_objectOf.f k a0 a1 a2)
  | _, _ => none) (fun r => (.agg [.v (.int .i64 r.1), .own 0], [.row 2 (.int .i64) r.2]))
def impl_objectOf.E : Env := [((78, []), impl_wordAt.s)]
def impl_objectOf.G8 (k : Nat) (avs : List AV) (H : List HE) : Option (Int × List Int) := match avs, H with
  | [.v (.string x2), .box 0 0, .box 1 0, .v (.int .i64 x15), .v (.int .i64 x16)], [.box [.v (.int .i64 x6_0), .v (.slice none 0 0)], .box [.v (.int .i64 x7_0), .own 2], .row 2 (.int .i64) x7_1] => impl_objectOf.p8 k x2 x6_0 x7_0 x7_1 x15 x16
  | _, _ => none
def impl_objectOf.G (k p : Nat) (avs : List AV) (H : List HE) : Option (Int × List Int) := (pick1 8 (impl_objectOf.G8 k avs H) none p)
set_option maxRecDepth 100000 in
theorem impl_objectOf.eq (k : Nat) (a0 : List ByteArray) (a1 : Int) (a2 : ByteArray) : fromTop Tryd.prog impl_objectOf.E k impl_objectOf.a (impl_objectOf.G k) 1000 (bodyOf Tryd.prog 79) [.con .str a0, .v (.int .i64 a1), .v (.string a2)] [] = impl_objectOf.f k a0 a1 a2 := by kernel_rfl
set_option maxRecDepth 100000 in
theorem impl_objectOf.eq8 (k : Nat) (x2 : ByteArray) (x6_0 : Int) (x7_0 : Int) (x7_1 : List Int) (x15 : Int) (x16 : Int) : fromPt Tryd.prog impl_objectOf.E k impl_objectOf.a (impl_objectOf.G k) 1000 (bodyOf Tryd.prog 79) 8 [.v (.string x2), .box 0 0, .box 1 0, .v (.int .i64 x15), .v (.int .i64 x16)] [.box [.v (.int .i64 x6_0), .v (.slice none 0 0)], .box [.v (.int .i64 x7_0), .own 2], .row 2 (.int .i64) x7_1] = impl_objectOf.p8 (k + 1) x2 x6_0 x7_0 x7_1 x15 x16 := by kernel_rfl
theorem impl_objectOf.G8_0 {avs : List AV} {H : List HE} : impl_objectOf.G8 0 avs H = none := by unfold impl_objectOf.G8; split <;> rfl
theorem impl_objectOf.G8_s (k : Nat) {avs : List AV} {H : List HE} {x : Int × List Int} (h : impl_objectOf.G8 (k + 1) avs H = some x) : fromPt Tryd.prog impl_objectOf.E k impl_objectOf.a (impl_objectOf.G k) 1000 (bodyOf Tryd.prog 79) 8 avs H = some x := by
  unfold impl_objectOf.G8 at h
  split at h
  · rw [← h]; exact impl_objectOf.eq8 _ _ _ _ _ _ _
  · cases h
theorem impl_objectOf.E_ok : EnvOk Tryd.prog impl_objectOf.E := ⟨⟨impl_wordAt.sound, callable_of (by kernel_rfl)⟩, trivial⟩
theorem impl_objectOf.sound : Sound Tryd.prog 79 impl_objectOf.s := by
  refine func_sound (f := impl_objectOf.a) (G := impl_objectOf.G) (fn := Tryd.f79) (body := bodyOf Tryd.prog 79) 1000 (by kernel_rfl) impl_objectOf.E_ok Tryd.func79 (by kernel_rfl) (by kernel_rfl) (by kernel_rfl) (ptsOk_of (by kernel_rfl)) ?_ ?_ ?_ ?_
  · intro r H x h
    unfold impl_objectOf.a at h
    simp only at h
    split at h
    · cases h; rfl
    · cases h
  · exact fun q avs H => pick1_none impl_objectOf.G8_0 (rfl)
  · intro k q pt avs H x _ h
    rcases pick1_some h with ⟨rfl, h⟩ | h
    · exact impl_objectOf.G8_s _ h
    cases h
  · intro k avs H o h
    try dsimp only at h
    split at h
    · cases h; exact impl_objectOf.eq _ _ _ _
    · cases h

def impl_ReadObject.a : FnA (Int × List Int × Bool) := ⟨49, [.cell 4 49, .tmp 5], .tup [.agg [.val, .row 2 (.int .i64)], .bool], [], [⟨5, [0, 1, 4, 15], [.con .str, .val, .box [.val, .val], .bool], []⟩, ⟨15, [0, 1, 4, 6, 35], [.con .str, .val, .box [.val, .val], .val, .bool], []⟩], fun x H => match x, H with
  | .tup [.agg [.v (.int .i64 r_0_0), .own 0], .bs false r_1], [.row 2 (.int .i64) r_0_1] => some (r_0_0, r_0_1, r_1)
  | _, _ => none⟩
def impl_ReadObject.s : Spec := mkS [.con .str, .val] (fun k avs H => match avs, H with
  | [.con .str a0, .v (.string a1)], [] => some (impl_ReadObject.f k a0 a1)
  | _, _ => none) (fun r => (.tup [.agg [.v (.int .i64 r.1), .own 0], .bs false r.2.2], [.row 2 (.int .i64) r.2.1]))
def impl_ReadObject.E : Env := [((77, []), impl_TypesOk.s), ((79, []), impl_objectOf.s), ((28, []), impl_ObjectBytes.s), ((78, []), impl_wordAt.s), ((52, []), impl_size_string.s), ((51, []), impl_within.s), ((68, []), impl_runOf.s)]
def impl_ReadObject.G5 (k : Nat) (avs : List AV) (H : List HE) : Option (Int × List Int × Bool) := match avs, H with
  | [.con .str x0, .v (.string x1), .box 0 0, .bs false x15], [.box [.v (.int .i64 x4_0), .v (.slice none 0 0)]] => impl_ReadObject.p5 k x0 x1 x4_0 x15
  | _, _ => none
def impl_ReadObject.G15 (k : Nat) (avs : List AV) (H : List HE) : Option (Int × List Int × Bool) := match avs, H with
  | [.con .str x0, .v (.string x1), .box 0 0, .v (.int .i64 x6), .bs false x35], [.box [.v (.int .i64 x4_0), .v (.slice none 0 0)]] => impl_ReadObject.p15 k x0 x1 x4_0 x6 x35
  | _, _ => none
def impl_ReadObject.G (k p : Nat) (avs : List AV) (H : List HE) : Option (Int × List Int × Bool) := (pick1 5 (impl_ReadObject.G5 k avs H) (pick1 15 (impl_ReadObject.G15 k avs H) none p) p)
set_option maxRecDepth 100000 in
theorem impl_ReadObject.eq (k : Nat) (a0 : List ByteArray) (a1 : ByteArray) : fromTop Tryd.prog impl_ReadObject.E k impl_ReadObject.a (impl_ReadObject.G k) 1000 (bodyOf Tryd.prog 30) [.con .str a0, .v (.string a1)] [] = impl_ReadObject.f k a0 a1 := by kernel_rfl
set_option maxRecDepth 100000 in
theorem impl_ReadObject.eq5 (k : Nat) (x0 : List ByteArray) (x1 : ByteArray) (x4_0 : Int) (x15 : Bool) : fromPt Tryd.prog impl_ReadObject.E k impl_ReadObject.a (impl_ReadObject.G k) 1000 (bodyOf Tryd.prog 30) 5 [.con .str x0, .v (.string x1), .box 0 0, .bs false x15] [.box [.v (.int .i64 x4_0), .v (.slice none 0 0)]] = impl_ReadObject.p5 (k + 1) x0 x1 x4_0 x15 := by kernel_rfl
theorem impl_ReadObject.G5_0 {avs : List AV} {H : List HE} : impl_ReadObject.G5 0 avs H = none := by unfold impl_ReadObject.G5; split <;> rfl
theorem impl_ReadObject.G5_s (k : Nat) {avs : List AV} {H : List HE} {x : Int × List Int × Bool} (h : impl_ReadObject.G5 (k + 1) avs H = some x) : fromPt Tryd.prog impl_ReadObject.E k impl_ReadObject.a (impl_ReadObject.G k) 1000 (bodyOf Tryd.prog 30) 5 avs H = some x := by
  unfold impl_ReadObject.G5 at h
  split at h
  · rw [← h]; exact impl_ReadObject.eq5 _ _ _ _ _
  · cases h
set_option maxRecDepth 100000 in
theorem impl_ReadObject.eq15 (k : Nat) (x0 : List ByteArray) (x1 : ByteArray) (x4_0 : Int) (x6 : Int) (x35 : Bool) : fromPt Tryd.prog impl_ReadObject.E k impl_ReadObject.a (impl_ReadObject.G k) 1000 (bodyOf Tryd.prog 30) 15 [.con .str x0, .v (.string x1), .box 0 0, .v (.int .i64 x6), .bs false x35] [.box [.v (.int .i64 x4_0), .v (.slice none 0 0)]] = impl_ReadObject.p15 (k + 1) x0 x1 x4_0 x6 x35 := by kernel_rfl
theorem impl_ReadObject.G15_0 {avs : List AV} {H : List HE} : impl_ReadObject.G15 0 avs H = none := by unfold impl_ReadObject.G15; split <;> rfl
theorem impl_ReadObject.G15_s (k : Nat) {avs : List AV} {H : List HE} {x : Int × List Int × Bool} (h : impl_ReadObject.G15 (k + 1) avs H = some x) : fromPt Tryd.prog impl_ReadObject.E k impl_ReadObject.a (impl_ReadObject.G k) 1000 (bodyOf Tryd.prog 30) 15 avs H = some x := by
  unfold impl_ReadObject.G15 at h
  split at h
  · rw [← h]; exact impl_ReadObject.eq15 _ _ _ _ _ _
  · cases h
theorem impl_ReadObject.E_ok : EnvOk Tryd.prog impl_ReadObject.E := ⟨⟨impl_TypesOk.sound, callable_of (by kernel_rfl)⟩, ⟨impl_objectOf.sound, callable_of (by kernel_rfl)⟩, ⟨impl_ObjectBytes.sound, callable_of (by kernel_rfl)⟩, ⟨impl_wordAt.sound, callable_of (by kernel_rfl)⟩, ⟨impl_size_string.sound, callable_of (by kernel_rfl)⟩, ⟨impl_within.sound, callable_of (by kernel_rfl)⟩, ⟨impl_runOf.sound, callable_of (by kernel_rfl)⟩, trivial⟩
theorem impl_ReadObject.sound : Sound Tryd.prog 30 impl_ReadObject.s := by
  refine func_sound (f := impl_ReadObject.a) (G := impl_ReadObject.G) (fn := Tryd.f30) (body := bodyOf Tryd.prog 30) 1000 (by kernel_rfl) impl_ReadObject.E_ok Tryd.func30 (by kernel_rfl) (by kernel_rfl) (by kernel_rfl) (ptsOk_of (by kernel_rfl)) ?_ ?_ ?_ ?_
  · intro r H x h
    unfold impl_ReadObject.a at h
    simp only at h
    split at h
    · cases h; rfl
    · cases h
  · exact fun q avs H => pick1_none impl_ReadObject.G5_0 (pick1_none impl_ReadObject.G15_0 (rfl))
  · intro k q pt avs H x _ h
    rcases pick1_some h with ⟨rfl, h⟩ | h
    · exact impl_ReadObject.G5_s _ h
    rcases pick1_some h with ⟨rfl, h⟩ | h
    · exact impl_ReadObject.G15_s _ h
    cases h
  · intro k avs H o h
    try dsimp only at h
    split at h
    · cases h; exact impl_ReadObject.eq _ _ _
    · cases h

def spec_ReadWord.a : FnA (Int × Bool) := ⟨22, [.tmp 2, .tmp 3], .tup [.val, .bool], [], [⟨16, [0, 4, 5], [.val, .val, .val], []⟩], fun x H => match x, H with
  | .tup [.v (.int .i64 r_0), .bs false r_1], [] => some (r_0, r_1)
  | _, _ => none⟩
def spec_ReadWord.s : Spec := mkS [.val] (fun k avs H => match avs, H with
  | [.v (.string a0)], [] => some (spec_ReadWord.f k a0)
  | _, _ => none) (fun r => (.tup [.v (.int .i64 r.1), .bs false r.2], []))
def spec_ReadWord.E : Env := []
def spec_ReadWord.G16 (k : Nat) (avs : List AV) (H : List HE) : Option (Int × Bool) := match avs, H with
  | [.v (.string x0), .v (.int .u64 x4), .v (.int .i64 x5)], [] => spec_ReadWord.p16 k x0 x4 x5
  | _, _ => none
def spec_ReadWord.G (k p : Nat) (avs : List AV) (H : List HE) : Option (Int × Bool) := (pick1 16 (spec_ReadWord.G16 k avs H) none p)
set_option maxRecDepth 100000 in
theorem spec_ReadWord.eq (k : Nat) (a0 : ByteArray) : fromTop Tryd.prog spec_ReadWord.E k spec_ReadWord.a (spec_ReadWord.G k) 1000 (bodyOf Tryd.prog 81) [.v (.string a0)] [] = spec_ReadWord.f k a0 := by kernel_rfl
set_option maxRecDepth 100000 in
theorem spec_ReadWord.eq16 (k : Nat) (x0 : ByteArray) (x4 : Int) (x5 : Int) : fromPt Tryd.prog spec_ReadWord.E k spec_ReadWord.a (spec_ReadWord.G k) 1000 (bodyOf Tryd.prog 81) 16 [.v (.string x0), .v (.int .u64 x4), .v (.int .i64 x5)] [] = spec_ReadWord.p16 (k + 1) x0 x4 x5 := by kernel_rfl
theorem spec_ReadWord.G16_0 {avs : List AV} {H : List HE} : spec_ReadWord.G16 0 avs H = none := by unfold spec_ReadWord.G16; split <;> rfl
theorem spec_ReadWord.G16_s (k : Nat) {avs : List AV} {H : List HE} {x : Int × Bool} (h : spec_ReadWord.G16 (k + 1) avs H = some x) : fromPt Tryd.prog spec_ReadWord.E k spec_ReadWord.a (spec_ReadWord.G k) 1000 (bodyOf Tryd.prog 81) 16 avs H = some x := by
  unfold spec_ReadWord.G16 at h
  split at h
  · rw [← h]; exact spec_ReadWord.eq16 _ _ _ _
  · cases h
theorem spec_ReadWord.E_ok : EnvOk Tryd.prog spec_ReadWord.E := trivial
theorem spec_ReadWord.sound : Sound Tryd.prog 81 spec_ReadWord.s := by
  refine func_sound (f := spec_ReadWord.a) (G := spec_ReadWord.G) (fn := Tryd.f81) (body := bodyOf Tryd.prog 81) 1000 (by kernel_rfl) spec_ReadWord.E_ok Tryd.func81 (by kernel_rfl) (by kernel_rfl) (by kernel_rfl) (ptsOk_of (by kernel_rfl)) ?_ ?_ ?_ ?_
  · intro r H x h
    unfold spec_ReadWord.a at h
    simp only at h
    split at h
    · cases h; rfl
    · cases h
  · exact fun q avs H => pick1_none spec_ReadWord.G16_0 (rfl)
  · intro k q pt avs H x _ h
    rcases pick1_some h with ⟨rfl, h⟩ | h
    · exact spec_ReadWord.G16_s _ h
    cases h
  · intro k avs H o h
    try dsimp only at h
    split at h
    · cases h; exact spec_ReadWord.eq _ _
    · cases h

def spec_ReadObject.a : FnA (Int × List Int × Bool) := ⟨83, [.cell 4 49, .tmp 5], .tup [.agg [.val, .row 2 (.int .i64)], .bool], [], [⟨5, [0, 1, 4, 19], [.con .str, .val, .box [.val, .val], .bool], []⟩, ⟨26, [0, 1, 4, 6, 8, 9], [.con .str, .val, .box [.val, .val], .val, .box [.val, .row 2 (.int .i64)], .val], []⟩], fun x H => match x, H with
  | .tup [.agg [.v (.int .i64 r_0_0), .own 0], .bs false r_1], [.row 2 (.int .i64) r_0_1] => some (r_0_0, r_0_1, r_1)
  | _, _ => none⟩
def spec_ReadObject.s : Spec := mkS [.con .str, .val] (fun k avs H => match avs, H with
  | [.con .str a0, .v (.string a1)], [] => some (spec_ReadObject.f k a0 a1)
  | _, _ => none) (fun r => (.tup [.agg [.v (.int .i64 r.1), .own 0], .bs false r.2.2], [.row 2 (.int .i64) r.2.1]))
def spec_ReadObject.E : Env := [((80, []), spec_TypesOk.s), ((81, []), spec_ReadWord.s), ((32, []), spec_ObjectBytes.s), ((44, []), spec_l1In.s), ((82, []), spec_RunOf.s)]
def spec_ReadObject.G5 (k : Nat) (avs : List AV) (H : List HE) : Option (Int × List Int × Bool) := match avs, H with
  | [.con .str x0, .v (.string x1), .box 0 0, .bs false x19], [.box [.v (.int .i64 x4_0), .v (.slice none 0 0)]] => spec_ReadObject.p5 k x0 x1 x4_0 x19
  | _, _ => none
def spec_ReadObject.G26 (k : Nat) (avs : List AV) (H : List HE) : Option (Int × List Int × Bool) := match avs, H with
  | [.con .str x0, .v (.string x1), .box 0 0, .v (.int .i64 x6), .box 1 0, .v (.int .i64 x9)], [.box [.v (.int .i64 x4_0), .v (.slice none 0 0)], .box [.v (.int .i64 x8_0), .own 2], .row 2 (.int .i64) x8_1] => spec_ReadObject.p26 k x0 x1 x4_0 x6 x8_0 x8_1 x9
  | _, _ => none
def spec_ReadObject.G (k p : Nat) (avs : List AV) (H : List HE) : Option (Int × List Int × Bool) := (pick1 5 (spec_ReadObject.G5 k avs H) (pick1 26 (spec_ReadObject.G26 k avs H) none p) p)
set_option maxRecDepth 100000 in
theorem spec_ReadObject.eq (k : Nat) (a0 : List ByteArray) (a1 : ByteArray) : fromTop Tryd.prog spec_ReadObject.E k spec_ReadObject.a (spec_ReadObject.G k) 1000 (bodyOf Tryd.prog 31) [.con .str a0, .v (.string a1)] [] = spec_ReadObject.f k a0 a1 := by kernel_rfl
set_option maxRecDepth 100000 in
theorem spec_ReadObject.eq5 (k : Nat) (x0 : List ByteArray) (x1 : ByteArray) (x4_0 : Int) (x19 : Bool) : fromPt Tryd.prog spec_ReadObject.E k spec_ReadObject.a (spec_ReadObject.G k) 1000 (bodyOf Tryd.prog 31) 5 [.con .str x0, .v (.string x1), .box 0 0, .bs false x19] [.box [.v (.int .i64 x4_0), .v (.slice none 0 0)]] = spec_ReadObject.p5 (k + 1) x0 x1 x4_0 x19 := by kernel_rfl
theorem spec_ReadObject.G5_0 {avs : List AV} {H : List HE} : spec_ReadObject.G5 0 avs H = none := by unfold spec_ReadObject.G5; split <;> rfl
theorem spec_ReadObject.G5_s (k : Nat) {avs : List AV} {H : List HE} {x : Int × List Int × Bool} (h : spec_ReadObject.G5 (k + 1) avs H = some x) : fromPt Tryd.prog spec_ReadObject.E k spec_ReadObject.a (spec_ReadObject.G k) 1000 (bodyOf Tryd.prog 31) 5 avs H = some x := by
  unfold spec_ReadObject.G5 at h
  split at h
  · rw [← h]; exact spec_ReadObject.eq5 _ _ _ _ _
  · cases h
set_option maxRecDepth 100000 in
theorem spec_ReadObject.eq26 (k : Nat) (x0 : List ByteArray) (x1 : ByteArray) (x4_0 : Int) (x6 : Int) (x8_0 : Int) (x8_1 : List Int) (x9 : Int) : fromPt Tryd.prog spec_ReadObject.E k spec_ReadObject.a (spec_ReadObject.G k) 1000 (bodyOf Tryd.prog 31) 26 [.con .str x0, .v (.string x1), .box 0 0, .v (.int .i64 x6), .box 1 0, .v (.int .i64 x9)] [.box [.v (.int .i64 x4_0), .v (.slice none 0 0)], .box [.v (.int .i64 x8_0), .own 2], .row 2 (.int .i64) x8_1] = spec_ReadObject.p26 (k + 1) x0 x1 x4_0 x6 x8_0 x8_1 x9 := by kernel_rfl
theorem spec_ReadObject.G26_0 {avs : List AV} {H : List HE} : spec_ReadObject.G26 0 avs H = none := by unfold spec_ReadObject.G26; split <;> rfl
theorem spec_ReadObject.G26_s (k : Nat) {avs : List AV} {H : List HE} {x : Int × List Int × Bool} (h : spec_ReadObject.G26 (k + 1) avs H = some x) : fromPt Tryd.prog spec_ReadObject.E k spec_ReadObject.a (spec_ReadObject.G k) 1000 (bodyOf Tryd.prog 31) 26 avs H = some x := by
  unfold spec_ReadObject.G26 at h
  split at h
  · rw [← h]; exact spec_ReadObject.eq26 _ _ _ _ _ _ _ _
  · cases h
theorem spec_ReadObject.E_ok : EnvOk Tryd.prog spec_ReadObject.E := ⟨⟨spec_TypesOk.sound, callable_of (by kernel_rfl)⟩, ⟨spec_ReadWord.sound, callable_of (by kernel_rfl)⟩, ⟨spec_ObjectBytes.sound, callable_of (by kernel_rfl)⟩, ⟨spec_l1In.sound, callable_of (by kernel_rfl)⟩, ⟨spec_RunOf.sound, callable_of (by kernel_rfl)⟩, trivial⟩
theorem spec_ReadObject.sound : Sound Tryd.prog 31 spec_ReadObject.s := by
  refine func_sound (f := spec_ReadObject.a) (G := spec_ReadObject.G) (fn := Tryd.f31) (body := bodyOf Tryd.prog 31) 1000 (by kernel_rfl) spec_ReadObject.E_ok Tryd.func31 (by kernel_rfl) (by kernel_rfl) (by kernel_rfl) (ptsOk_of (by kernel_rfl)) ?_ ?_ ?_ ?_
  · intro r H x h
    unfold spec_ReadObject.a at h
    simp only at h
    split at h
    · cases h; rfl
    · cases h
  · exact fun q avs H => pick1_none spec_ReadObject.G5_0 (pick1_none spec_ReadObject.G26_0 (rfl))
  · intro k q pt avs H x _ h
    rcases pick1_some h with ⟨rfl, h⟩ | h
    · exact spec_ReadObject.G5_s _ h
    rcases pick1_some h with ⟨rfl, h⟩ | h
    · exact spec_ReadObject.G26_s _ h
    cases h
  · intro k avs H o h
    try dsimp only at h
    split at h
    · cases h; exact spec_ReadObject.eq _ _ _
    · cases h

def laws_sameInts.a : FnA (Bool) := ⟨26, [.tmp 4], .bool, [], [⟨14, [0, 1, 5], [.con (.int .i64), .con (.int .i64), .val], []⟩], fun x H => match x, H with
  | .bs false r, [] => some r
  | _, _ => none⟩
def laws_sameInts.s : Spec := mkS [.con (.int .i64), .con (.int .i64)] (fun k avs H => match avs, H with
  | [.con (.int .i64) a0, .con (.int .i64) a1], [] => some (laws_sameInts.f k a0 a1)
  | _, _ => none) (fun r => (.bs false r, []))
def laws_sameInts.E : Env := []
def laws_sameInts.G14 (k : Nat) (avs : List AV) (H : List HE) : Option (Bool) := match avs, H with
  | [.con (.int .i64) x0, .con (.int .i64) x1, .v (.int .i64 x5)], [] => laws_sameInts.p14 k x0 x1 x5
  | _, _ => none
def laws_sameInts.G (k p : Nat) (avs : List AV) (H : List HE) : Option (Bool) := (pick1 14 (laws_sameInts.G14 k avs H) none p)
set_option maxRecDepth 100000 in
theorem laws_sameInts.eq (k : Nat) (a0 : List Int) (a1 : List Int) : fromTop Tryd.prog laws_sameInts.E k laws_sameInts.a (laws_sameInts.G k) 1000 (bodyOf Tryd.prog 23) [.con (.int .i64) a0, .con (.int .i64) a1] [] = laws_sameInts.f k a0 a1 := by kernel_rfl
set_option maxRecDepth 100000 in
theorem laws_sameInts.eq14 (k : Nat) (x0 : List Int) (x1 : List Int) (x5 : Int) : fromPt Tryd.prog laws_sameInts.E k laws_sameInts.a (laws_sameInts.G k) 1000 (bodyOf Tryd.prog 23) 14 [.con (.int .i64) x0, .con (.int .i64) x1, .v (.int .i64 x5)] [] = laws_sameInts.p14 (k + 1) x0 x1 x5 := by kernel_rfl
theorem laws_sameInts.G14_0 {avs : List AV} {H : List HE} : laws_sameInts.G14 0 avs H = none := by unfold laws_sameInts.G14; split <;> rfl
theorem laws_sameInts.G14_s (k : Nat) {avs : List AV} {H : List HE} {x : Bool} (h : laws_sameInts.G14 (k + 1) avs H = some x) : fromPt Tryd.prog laws_sameInts.E k laws_sameInts.a (laws_sameInts.G k) 1000 (bodyOf Tryd.prog 23) 14 avs H = some x := by
  unfold laws_sameInts.G14 at h
  split at h
  · rw [← h]; exact laws_sameInts.eq14 _ _ _ _
  · cases h
theorem laws_sameInts.E_ok : EnvOk Tryd.prog laws_sameInts.E := trivial
theorem laws_sameInts.sound : Sound Tryd.prog 23 laws_sameInts.s := by
  refine func_sound (f := laws_sameInts.a) (G := laws_sameInts.G) (fn := Tryd.f23) (body := bodyOf Tryd.prog 23) 1000 (by kernel_rfl) laws_sameInts.E_ok Tryd.func23 (by kernel_rfl) (by kernel_rfl) (by kernel_rfl) (ptsOk_of (by kernel_rfl)) ?_ ?_ ?_ ?_
  · intro r H x h
    unfold laws_sameInts.a at h
    simp only at h
    split at h
    · cases h; rfl
    · cases h
  · exact fun q avs H => pick1_none laws_sameInts.G14_0 (rfl)
  · intro k q pt avs H x _ h
    rcases pick1_some h with ⟨rfl, h⟩ | h
    · exact laws_sameInts.G14_s _ h
    cases h
  · intro k avs H o h
    try dsimp only at h
    split at h
    · cases h; exact laws_sameInts.eq _ _ _
    · cases h

def laws_sameObj.a : FnA (Bool) := ⟨17, [.tmp 4], .bool, [], [], fun x H => match x, H with
  | .bs false r, [] => some r
  | _, _ => none⟩
def laws_sameObj.s : Spec := mkS [.agg [.val, .con (.int .i64)], .agg [.val, .con (.int .i64)]] (fun k avs H => match avs, H with
  | [.agg [.v (.int .i64 a0_0), .con (.int .i64) a0_1], .agg [.v (.int .i64 a1_0), .con (.int .i64) a1_1]], [] => some (laws_sameObj.f k a0_0 a0_1 a1_0 a1_1)
  | _, _ => none) (fun r => (.bs false r, []))
def laws_sameObj.E : Env := [((23, []), laws_sameInts.s)]
def laws_sameObj.G (k p : Nat) (avs : List AV) (H : List HE) : Option (Bool) := none
set_option maxRecDepth 100000 in
theorem laws_sameObj.eq (k : Nat) (a0_0 : Int) (a0_1 : List Int) (a1_0 : Int) (a1_1 : List Int) : fromTop Tryd.prog laws_sameObj.E k laws_sameObj.a (laws_sameObj.G k) 1000 (bodyOf Tryd.prog 33) [.agg [.v (.int .i64 a0_0), .con (.int .i64) a0_1], .agg [.v (.int .i64 a1_0), .con (.int .i64) a1_1]] [] = laws_sameObj.f k a0_0 a0_1 a1_0 a1_1 := by kernel_rfl
theorem laws_sameObj.E_ok : EnvOk Tryd.prog laws_sameObj.E := ⟨⟨laws_sameInts.sound, callable_of (by kernel_rfl)⟩, trivial⟩
theorem laws_sameObj.sound : Sound Tryd.prog 33 laws_sameObj.s := by
  refine func_sound (f := laws_sameObj.a) (G := laws_sameObj.G) (fn := Tryd.f33) (body := bodyOf Tryd.prog 33) 1000 (by kernel_rfl) laws_sameObj.E_ok Tryd.func33 (by kernel_rfl) (by kernel_rfl) (by kernel_rfl) (ptsOk_of (by kernel_rfl)) ?_ ?_ ?_ ?_
  · intro r H x h
    unfold laws_sameObj.a at h
    simp only at h
    split at h
    · cases h; rfl
    · cases h
  · intro q avs H; rfl
  · intro k q pt avs H x _ h; cases h
  · intro k avs H o h
    try dsimp only at h
    split at h
    · cases h; exact laws_sameObj.eq _ _ _ _ _
    · cases h

def impl_RunOf.a : FnA (Int) := ⟨8, [.tmp 2], .val, [], [], fun x H => match x, H with
  | .v (.int .i64 r), [] => some r
  | _, _ => none⟩
def impl_RunOf.s : Spec := mkS [.val] (fun k avs H => match avs, H with
  | [.v (.string a0)], [] => some (impl_RunOf.f a0)
  | _, _ => none) (fun r => (.v (.int .i64 r), []))
def impl_RunOf.E : Env := [((67, []), impl_isType.s), ((68, []), impl_runOf.s)]
def impl_RunOf.G (k p : Nat) (avs : List AV) (H : List HE) : Option (Int) := none
set_option maxRecDepth 100000 in
theorem impl_RunOf.eq (k : Nat) (a0 : ByteArray) : fromTop Tryd.prog impl_RunOf.E k impl_RunOf.a (impl_RunOf.G k) 1000 (bodyOf Tryd.prog 24) [.v (.string a0)] [] = impl_RunOf.f a0 := by kernel_rfl
theorem impl_RunOf.E_ok : EnvOk Tryd.prog impl_RunOf.E := ⟨⟨impl_isType.sound, callable_of (by kernel_rfl)⟩, ⟨impl_runOf.sound, callable_of (by kernel_rfl)⟩, trivial⟩
theorem impl_RunOf.sound : Sound Tryd.prog 24 impl_RunOf.s := by
  refine func_sound (f := impl_RunOf.a) (G := impl_RunOf.G) (fn := Tryd.f24) (body := bodyOf Tryd.prog 24) 1000 (by kernel_rfl) impl_RunOf.E_ok Tryd.func24 (by kernel_rfl) (by kernel_rfl) (by kernel_rfl) (ptsOk_of (by kernel_rfl)) ?_ ?_ ?_ ?_
  · intro r H x h
    unfold impl_RunOf.a at h
    simp only at h
    split at h
    · cases h; rfl
    · cases h
  · intro q avs H; rfl
  · intro k q pt avs H x _ h; cases h
  · intro k avs H o h
    try dsimp only at h
    split at h
    · cases h; exact impl_RunOf.eq _ _
    · cases h

def laws_FnObjects.a : FnA (Bool) := ⟨106, [.tmp 2], .bool, [], [⟨23, [3, 4, 5, 66], [.row 9 .str, .box [.val, .con (.int .i64)], .val, .bool], []⟩], fun x H => match x, H with
  | .bs false r, [] => some r
  | _, _ => none⟩
def laws_FnObjects.s : Spec := mkS [.con (.int .u8)] (fun k avs H => match avs, H with
  | [.con (.int .u8) a0], [] => some (laws_FnObjects.f k a0)
  | _, _ => none) (fun r => (.bs false r, []))
def laws_FnObjects.E : Env := [((21, []), laws_big.s), ((27, []), spec_DrawObjectBytes.s), ((28, []), impl_ObjectBytes.s), ((29, []), spec_DrawReadObject.s), ((30, []), impl_ReadObject.s), ((31, []), spec_ReadObject.s), ((32, []), spec_ObjectBytes.s), ((33, []), laws_sameObj.s), ((34, []), spec_ObjOk.s), ((35, []), impl_ObjOk.s), ((24, []), impl_RunOf.s)]
def laws_FnObjects.G23 (k : Nat) (avs : List AV) (H : List HE) : Option (Bool) := match avs, H with
  | [.own 0, .box 1 0, .v (.string x5), .bs false x66], [.row 9 .str x3, .box [.v (.int .i64 x4_0), .con (.int .i64) x4_1]] => laws_FnObjects.p23 k x3 x4_0 x4_1 x5 x66
  | _, _ => none
def laws_FnObjects.G (k p : Nat) (avs : List AV) (H : List HE) : Option (Bool) := (pick1 23 (laws_FnObjects.G23 k avs H) none p)
set_option maxRecDepth 100000 in
theorem laws_FnObjects.eq (k : Nat) (a0 : List Int) : fromTop Tryd.prog laws_FnObjects.E k laws_FnObjects.a (laws_FnObjects.G k) 1000 (bodyOf Tryd.prog 6) [.con (.int .u8) a0] [] = laws_FnObjects.f k a0 := by kernel_rfl
set_option maxRecDepth 100000 in
theorem laws_FnObjects.eq23 (k : Nat) (x3 : List ByteArray) (x4_0 : Int) (x4_1 : List Int) (x5 : ByteArray) (x66 : Bool) : fromPt Tryd.prog laws_FnObjects.E k laws_FnObjects.a (laws_FnObjects.G k) 1000 (bodyOf Tryd.prog 6) 23 [.own 0, .box 1 0, .v (.string x5), .bs false x66] [.row 9 .str x3, .box [.v (.int .i64 x4_0), .con (.int .i64) x4_1]] = laws_FnObjects.p23 (k + 1) x3 x4_0 x4_1 x5 x66 := by kernel_rfl
theorem laws_FnObjects.G23_0 {avs : List AV} {H : List HE} : laws_FnObjects.G23 0 avs H = none := by unfold laws_FnObjects.G23; split <;> rfl
theorem laws_FnObjects.G23_s (k : Nat) {avs : List AV} {H : List HE} {x : Bool} (h : laws_FnObjects.G23 (k + 1) avs H = some x) : fromPt Tryd.prog laws_FnObjects.E k laws_FnObjects.a (laws_FnObjects.G k) 1000 (bodyOf Tryd.prog 6) 23 avs H = some x := by
  unfold laws_FnObjects.G23 at h
  split at h
  · rw [← h]; exact laws_FnObjects.eq23 _ _ _ _ _ _
  · cases h
theorem laws_FnObjects.E_ok : EnvOk Tryd.prog laws_FnObjects.E := ⟨⟨laws_big.sound, callable_of (by kernel_rfl)⟩, ⟨spec_DrawObjectBytes.sound, callable_of (by kernel_rfl)⟩, ⟨impl_ObjectBytes.sound, callable_of (by kernel_rfl)⟩, ⟨spec_DrawReadObject.sound, callable_of (by kernel_rfl)⟩, ⟨impl_ReadObject.sound, callable_of (by kernel_rfl)⟩, ⟨spec_ReadObject.sound, callable_of (by kernel_rfl)⟩, ⟨spec_ObjectBytes.sound, callable_of (by kernel_rfl)⟩, ⟨laws_sameObj.sound, callable_of (by kernel_rfl)⟩, ⟨spec_ObjOk.sound, callable_of (by kernel_rfl)⟩, ⟨impl_ObjOk.sound, callable_of (by kernel_rfl)⟩, ⟨impl_RunOf.sound, callable_of (by kernel_rfl)⟩, trivial⟩
theorem laws_FnObjects.sound : Sound Tryd.prog 6 laws_FnObjects.s := by
  refine func_sound (f := laws_FnObjects.a) (G := laws_FnObjects.G) (fn := Tryd.f6) (body := bodyOf Tryd.prog 6) 1000 (by kernel_rfl) laws_FnObjects.E_ok Tryd.func6 (by kernel_rfl) (by kernel_rfl) (by kernel_rfl) (ptsOk_of (by kernel_rfl)) ?_ ?_ ?_ ?_
  · intro r H x h
    unfold laws_FnObjects.a at h
    simp only at h
    split at h
    · cases h; rfl
    · cases h
  · exact fun q avs H => pick1_none laws_FnObjects.G23_0 (rfl)
  · intro k q pt avs H x _ h
    rcases pick1_some h with ⟨rfl, h⟩ | h
    · exact laws_FnObjects.G23_s _ h
    cases h
  · intro k avs H o h
    try dsimp only at h
    split at h
    · cases h; exact laws_FnObjects.eq _ _
    · cases h

def spec_l1Rd_config.a : FnA (List Int × Int × Int × Int × Int × List ByteArray) := ⟨34, [.cell 2 29], .agg [.val, .val, .val, .row 9 .str], [.box [.con (.int .u8), .val]], [⟨16, [2, 3], [.box [.val, .val, .val, .val], .box [.val, .val, .val, .row 9 .str]], [.box [.con (.int .u8), .val]]⟩], fun x H => match x, H with
  | .agg [.v (.int .i64 r_0), .v (.int .i64 r_1), .v (.int .i64 r_2), .own 1], [.box [.con (.int .u8) h0_0, .v (.int .i64 h0_1)], .row 9 .str r_3] => some (h0_0, h0_1, r_0, r_1, r_2, r_3)
  | _, _ => none⟩
def spec_l1Rd_config.s : Spec := mkS [.box [.con (.int .u8), .val]] (fun k avs H => match avs, H with
  | [.box 0 0], [.box [.con (.int .u8) a0_0, .v (.int .i64 a0_1)]] => some (spec_l1Rd_config.f k a0_0 a0_1)
  | _, _ => none) (fun r => (.agg [.v (.int .i64 r.2.2.1), .v (.int .i64 r.2.2.2.1), .v (.int .i64 r.2.2.2.2.1), .own 1], [.box [.con (.int .u8) r.1, .v (.int .i64 r.2.1)], .row 9 .str r.2.2.2.2.2]))
def spec_l1Rd_config.E : Env := [((65, []), spec_l1Rd_below.s), ((73, []), spec_l1Rd_types.s), ((63, []), spec_l1Rd_once.s)]
def spec_l1Rd_config.G16 (k : Nat) (avs : List AV) (H : List HE) : Option (List Int × Int × Int × Int × Int × List ByteArray) := match avs, H with
  | [.box 1 0, .box 2 0], [.box [.con (.int .u8) h0_0, .v (.int .i64 h0_1)], .box [.v (.int .i64 x2_0), .v (.int .i64 x2_1), .v (.int .i64 x2_2), .v (.slice none 0 0)], .box [.v (.int .i64 x3_0), .v (.int .i64 x3_1), .v (.int .i64 x3_2), .own 3], .row 9 .str x3_3] => spec_l1Rd_config.p16 k h0_0 h0_1 x2_0 x2_1 x2_2 x3_0 x3_1 x3_2 x3_3
  | _, _ => none
def spec_l1Rd_config.G (k p : Nat) (avs : List AV) (H : List HE) : Option (List Int × Int × Int × Int × Int × List ByteArray) := (pick1 16 (spec_l1Rd_config.G16 k avs H) none p)
set_option maxRecDepth 100000 in
theorem spec_l1Rd_config.eq (k : Nat) (a0_0 : List Int) (a0_1 : Int) : fromTop Tryd.prog spec_l1Rd_config.E k spec_l1Rd_config.a (spec_l1Rd_config.G k) 1000 (bodyOf Tryd.prog 61) [.box 0 0] [.box [.con (.int .u8) a0_0, .v (.int .i64 a0_1)]] = spec_l1Rd_config.f k a0_0 a0_1 := by kernel_rfl
set_option maxRecDepth 100000 in
theorem spec_l1Rd_config.eq16 (k : Nat) (h0_0 : List Int) (h0_1 : Int) (x2_0 : Int) (x2_1 : Int) (x2_2 : Int) (x3_0 : Int) (x3_1 : Int) (x3_2 : Int) (x3_3 : List ByteArray) : fromPt Tryd.prog spec_l1Rd_config.E k spec_l1Rd_config.a (spec_l1Rd_config.G k) 1000 (bodyOf Tryd.prog 61) 16 [.box 1 0, .box 2 0] [.box [.con (.int .u8) h0_0, .v (.int .i64 h0_1)], .box [.v (.int .i64 x2_0), .v (.int .i64 x2_1), .v (.int .i64 x2_2), .v (.slice none 0 0)], .box [.v (.int .i64 x3_0), .v (.int .i64 x3_1), .v (.int .i64 x3_2), .own 3], .row 9 .str x3_3] = spec_l1Rd_config.p16 (k + 1) h0_0 h0_1 x2_0 x2_1 x2_2 x3_0 x3_1 x3_2 x3_3 := by kernel_rfl
theorem spec_l1Rd_config.G16_0 {avs : List AV} {H : List HE} : spec_l1Rd_config.G16 0 avs H = none := by unfold spec_l1Rd_config.G16; split <;> rfl
theorem spec_l1Rd_config.G16_s (k : Nat) {avs : List AV} {H : List HE} {x : List Int × Int × Int × Int × Int × List ByteArray} (h : spec_l1Rd_config.G16 (k + 1) avs H = some x) : fromPt Tryd.prog spec_l1Rd_config.E k spec_l1Rd_config.a (spec_l1Rd_config.G k) 1000 (bodyOf Tryd.prog 61) 16 avs H = some x := by
  unfold spec_l1Rd_config.G16 at h
  split at h
  · rw [← h]; exact spec_l1Rd_config.eq16 _ _ _ _ _ _ _ _ _ _
  · cases h
theorem spec_l1Rd_config.E_ok : EnvOk Tryd.prog spec_l1Rd_config.E := ⟨⟨spec_l1Rd_below.sound, callable_of (by kernel_rfl)⟩, ⟨spec_l1Rd_types.sound, callable_of (by kernel_rfl)⟩, ⟨spec_l1Rd_once.sound, callable_of (by kernel_rfl)⟩, trivial⟩
theorem spec_l1Rd_config.sound : Sound Tryd.prog 61 spec_l1Rd_config.s := by
  refine func_sound (f := spec_l1Rd_config.a) (G := spec_l1Rd_config.G) (fn := Tryd.f61) (body := bodyOf Tryd.prog 61) 1000 (by kernel_rfl) spec_l1Rd_config.E_ok Tryd.func61 (by kernel_rfl) (by kernel_rfl) (by kernel_rfl) (ptsOk_of (by kernel_rfl)) ?_ ?_ ?_ ?_
  · intro r H x h
    unfold spec_l1Rd_config.a at h
    simp only at h
    split at h
    · cases h; rfl
    · cases h
  · exact fun q avs H => pick1_none spec_l1Rd_config.G16_0 (rfl)
  · intro k q pt avs H x _ h
    rcases pick1_some h with ⟨rfl, h⟩ | h
    · exact spec_l1Rd_config.G16_s _ h
    cases h
  · intro k avs H o h
    try dsimp only at h
    split at h
    · cases h; exact spec_l1Rd_config.eq _ _ _
    · cases h

def spec_l1Rd_lines.a : FnA (List Int × Int × List Int) := ⟨26, [.tmp 2], .row 2 (.int .i64), [.box [.con (.int .u8), .val]], [⟨10, [0, 3, 4, 5], [.box [], .row 2 (.int .i64), .val, .val], [.box [.con (.int .u8), .val]]⟩], fun x H => match x, H with
  | .own 1, [.box [.con (.int .u8) h0_0, .v (.int .i64 h0_1)], .row 2 (.int .i64) r] => some (h0_0, h0_1, r)
  | _, _ => none⟩
def spec_l1Rd_lines.s : Spec := mkS [.box [.con (.int .u8), .val]] (fun k avs H => match avs, H with
  | [.box 0 0], [.box [.con (.int .u8) a0_0, .v (.int .i64 a0_1)]] => some (spec_l1Rd_lines.f k a0_0 a0_1)
  | _, _ => none) (fun r => (.own 1, [.box [.con (.int .u8) r.1, .v (.int .i64 r.2.1)], .row 2 (.int .i64) r.2.2]))
def spec_l1Rd_lines.E : Env := [((65, []), spec_l1Rd_below.s)]
def spec_l1Rd_lines.G10 (k : Nat) (avs : List AV) (H : List HE) : Option (List Int × Int × List Int) := match avs, H with
  | [.box 0 0, .own 1, .v (.int .i64 x4), .v (.int .i64 x5)], [.box [.con (.int .u8) h0_0, .v (.int .i64 h0_1)], .row 2 (.int .i64) x3] => spec_l1Rd_lines.p10 k h0_0 h0_1 x3 x4 x5
  | _, _ => none
def spec_l1Rd_lines.G (k p : Nat) (avs : List AV) (H : List HE) : Option (List Int × Int × List Int) := (pick1 10 (spec_l1Rd_lines.G10 k avs H) none p)
set_option maxRecDepth 100000 in
theorem spec_l1Rd_lines.eq (k : Nat) (a0_0 : List Int) (a0_1 : Int) : fromTop Tryd.prog spec_l1Rd_lines.E k spec_l1Rd_lines.a (spec_l1Rd_lines.G k) 1000 (bodyOf Tryd.prog 104) [.box 0 0] [.box [.con (.int .u8) a0_0, .v (.int .i64 a0_1)]] = spec_l1Rd_lines.f k a0_0 a0_1 := by kernel_rfl
set_option maxRecDepth 100000 in
theorem spec_l1Rd_lines.eq10 (k : Nat) (h0_0 : List Int) (h0_1 : Int) (x3 : List Int) (x4 : Int) (x5 : Int) : fromPt Tryd.prog spec_l1Rd_lines.E k spec_l1Rd_lines.a (spec_l1Rd_lines.G k) 1000 (bodyOf Tryd.prog 104) 10 [.box 0 0, .own 1, .v (.int .i64 x4), .v (.int .i64 x5)] [.box [.con (.int .u8) h0_0, .v (.int .i64 h0_1)], .row 2 (.int .i64) x3] = spec_l1Rd_lines.p10 (k + 1) h0_0 h0_1 x3 x4 x5 := by kernel_rfl
theorem spec_l1Rd_lines.G10_0 {avs : List AV} {H : List HE} : spec_l1Rd_lines.G10 0 avs H = none := by unfold spec_l1Rd_lines.G10; split <;> rfl
theorem spec_l1Rd_lines.G10_s (k : Nat) {avs : List AV} {H : List HE} {x : List Int × Int × List Int} (h : spec_l1Rd_lines.G10 (k + 1) avs H = some x) : fromPt Tryd.prog spec_l1Rd_lines.E k spec_l1Rd_lines.a (spec_l1Rd_lines.G k) 1000 (bodyOf Tryd.prog 104) 10 avs H = some x := by
  unfold spec_l1Rd_lines.G10 at h
  split at h
  · rw [← h]; exact spec_l1Rd_lines.eq10 _ _ _ _ _ _
  · cases h
theorem spec_l1Rd_lines.E_ok : EnvOk Tryd.prog spec_l1Rd_lines.E := ⟨⟨spec_l1Rd_below.sound, callable_of (by kernel_rfl)⟩, trivial⟩
theorem spec_l1Rd_lines.sound : Sound Tryd.prog 104 spec_l1Rd_lines.s := by
  refine func_sound (f := spec_l1Rd_lines.a) (G := spec_l1Rd_lines.G) (fn := Tryd.f104) (body := bodyOf Tryd.prog 104) 1000 (by kernel_rfl) spec_l1Rd_lines.E_ok Tryd.func104 (by kernel_rfl) (by kernel_rfl) (by kernel_rfl) (ptsOk_of (by kernel_rfl)) ?_ ?_ ?_ ?_
  · intro r H x h
    unfold spec_l1Rd_lines.a at h
    simp only at h
    split at h
    · cases h; rfl
    · cases h
  · exact fun q avs H => pick1_none spec_l1Rd_lines.G10_0 (rfl)
  · intro k q pt avs H x _ h
    rcases pick1_some h with ⟨rfl, h⟩ | h
    · exact spec_l1Rd_lines.G10_s _ h
    cases h
  · intro k avs H o h
    try dsimp only at h
    split at h
    · cases h; exact spec_l1Rd_lines.eq _ _ _
    · cases h

def spec_l6MapOf.a : FnA (ByteArray) := ⟨31, [.tmp 2], .val, [], [⟨8, [0, 3, 4], [.con (.int .i64), .row 5 (.int .u8), .val], []⟩], fun x H => match x, H with
  | .v (.string r), [] => some r
  | _, _ => none⟩
def spec_l6MapOf.s : Spec := mkS [.con (.int .i64)] (fun k avs H => match avs, H with
  | [.con (.int .i64) a0], [] => some (spec_l6MapOf.f k a0)
  | _, _ => none) (fun r => (.v (.string r), []))
def spec_l6MapOf.E : Env := []
def spec_l6MapOf.G8 (k : Nat) (avs : List AV) (H : List HE) : Option (ByteArray) := match avs, H with
  | [.con (.int .i64) x0, .own 0, .v (.int .i64 x4)], [.row 5 (.int .u8) x3] => spec_l6MapOf.p8 k x0 x3 x4
  | _, _ => none
def spec_l6MapOf.G (k p : Nat) (avs : List AV) (H : List HE) : Option (ByteArray) := (pick1 8 (spec_l6MapOf.G8 k avs H) none p)
set_option maxRecDepth 100000 in
theorem spec_l6MapOf.eq (k : Nat) (a0 : List Int) : fromTop Tryd.prog spec_l6MapOf.E k spec_l6MapOf.a (spec_l6MapOf.G k) 1000 (bodyOf Tryd.prog 103) [.con (.int .i64) a0] [] = spec_l6MapOf.f k a0 := by kernel_rfl
set_option maxRecDepth 100000 in
theorem spec_l6MapOf.eq8 (k : Nat) (x0 : List Int) (x3 : List Int) (x4 : Int) : fromPt Tryd.prog spec_l6MapOf.E k spec_l6MapOf.a (spec_l6MapOf.G k) 1000 (bodyOf Tryd.prog 103) 8 [.con (.int .i64) x0, .own 0, .v (.int .i64 x4)] [.row 5 (.int .u8) x3] = spec_l6MapOf.p8 (k + 1) x0 x3 x4 := by kernel_rfl
theorem spec_l6MapOf.G8_0 {avs : List AV} {H : List HE} : spec_l6MapOf.G8 0 avs H = none := by unfold spec_l6MapOf.G8; split <;> rfl
theorem spec_l6MapOf.G8_s (k : Nat) {avs : List AV} {H : List HE} {x : ByteArray} (h : spec_l6MapOf.G8 (k + 1) avs H = some x) : fromPt Tryd.prog spec_l6MapOf.E k spec_l6MapOf.a (spec_l6MapOf.G k) 1000 (bodyOf Tryd.prog 103) 8 avs H = some x := by
  unfold spec_l6MapOf.G8 at h
  split at h
  · rw [← h]; exact spec_l6MapOf.eq8 _ _ _ _
  · cases h
theorem spec_l6MapOf.E_ok : EnvOk Tryd.prog spec_l6MapOf.E := trivial
theorem spec_l6MapOf.sound : Sound Tryd.prog 103 spec_l6MapOf.s := by
  refine func_sound (f := spec_l6MapOf.a) (G := spec_l6MapOf.G) (fn := Tryd.f103) (body := bodyOf Tryd.prog 103) 1000 (by kernel_rfl) spec_l6MapOf.E_ok Tryd.func103 (by kernel_rfl) (by kernel_rfl) (by kernel_rfl) (ptsOk_of (by kernel_rfl)) ?_ ?_ ?_ ?_
  · intro r H x h
    unfold spec_l6MapOf.a at h
    simp only at h
    split at h
    · cases h; rfl
    · cases h
  · exact fun q avs H => pick1_none spec_l6MapOf.G8_0 (rfl)
  · intro k q pt avs H x _ h
    rcases pick1_some h with ⟨rfl, h⟩ | h
    · exact spec_l6MapOf.G8_s _ h
    cases h
  · intro k avs H o h
    try dsimp only at h
    split at h
    · cases h; exact spec_l6MapOf.eq _ _
    · cases h

def spec_l1Rd_aMap.a : FnA (List Int × Int × ByteArray) := ⟨13, [.tmp 2], .val, [.box [.con (.int .u8), .val]], [], fun x H => match x, H with
  | .v (.string r), [.box [.con (.int .u8) h0_0, .v (.int .i64 h0_1)]] => some (h0_0, h0_1, r)
  | _, _ => none⟩
def spec_l1Rd_aMap.s : Spec := mkS [.box [.con (.int .u8), .val]] (fun k avs H => match avs, H with
  | [.box 0 0], [.box [.con (.int .u8) a0_0, .v (.int .i64 a0_1)]] => some (spec_l1Rd_aMap.f k a0_0 a0_1)
  | _, _ => none) (fun r => (.v (.string r.2.2), [.box [.con (.int .u8) r.1, .v (.int .i64 r.2.1)]]))
def spec_l1Rd_aMap.E : Env := [((104, []), spec_l1Rd_lines.s), ((103, []), spec_l6MapOf.s), ((63, []), spec_l1Rd_once.s), ((75, []), spec_l1Rd_hurt.s)]
def spec_l1Rd_aMap.G (k p : Nat) (avs : List AV) (H : List HE) : Option (List Int × Int × ByteArray) := none
set_option maxRecDepth 100000 in
theorem spec_l1Rd_aMap.eq (k : Nat) (a0_0 : List Int) (a0_1 : Int) : fromTop Tryd.prog spec_l1Rd_aMap.E k spec_l1Rd_aMap.a (spec_l1Rd_aMap.G k) 1000 (bodyOf Tryd.prog 62) [.box 0 0] [.box [.con (.int .u8) a0_0, .v (.int .i64 a0_1)]] = spec_l1Rd_aMap.f k a0_0 a0_1 := by kernel_rfl
theorem spec_l1Rd_aMap.E_ok : EnvOk Tryd.prog spec_l1Rd_aMap.E := ⟨⟨spec_l1Rd_lines.sound, callable_of (by kernel_rfl)⟩, ⟨spec_l6MapOf.sound, callable_of (by kernel_rfl)⟩, ⟨spec_l1Rd_once.sound, callable_of (by kernel_rfl)⟩, ⟨spec_l1Rd_hurt.sound, callable_of (by kernel_rfl)⟩, trivial⟩
theorem spec_l1Rd_aMap.sound : Sound Tryd.prog 62 spec_l1Rd_aMap.s := by
  refine func_sound (f := spec_l1Rd_aMap.a) (G := spec_l1Rd_aMap.G) (fn := Tryd.f62) (body := bodyOf Tryd.prog 62) 1000 (by kernel_rfl) spec_l1Rd_aMap.E_ok Tryd.func62 (by kernel_rfl) (by kernel_rfl) (by kernel_rfl) (ptsOk_of (by kernel_rfl)) ?_ ?_ ?_ ?_
  · intro r H x h
    unfold spec_l1Rd_aMap.a at h
    simp only at h
    split at h
    · cases h; rfl
    · cases h
  · intro q avs H; rfl
  · intro k q pt avs H x _ h; cases h
  · intro k avs H o h
    try dsimp only at h
    split at h
    · cases h; exact spec_l1Rd_aMap.eq _ _ _
    · cases h

def spec_DrawPlanned.a : FnA (Int × Int × Int × List ByteArray × ByteArray × List Int) := ⟨48, [.cell 2 29, .tmp 3, .tmp 4], .tup [.agg [.val, .val, .val, .row 9 .str], .val, .row 2 (.int .i64)], [], [⟨20, [2, 5, 6, 7, 8, 9], [.box [.val, .val, .val, .val], .box [.con (.int .u8), .val], .box [.val, .val, .val, .row 9 .str], .val, .row 2 (.int .i64), .val], []⟩], fun x H => match x, H with
  | .tup [.agg [.v (.int .i64 r_0_0), .v (.int .i64 r_0_1), .v (.int .i64 r_0_2), .own 0], .v (.string r_1), .own 1], [.row 9 .str r_0_3, .row 2 (.int .i64) r_2] => some (r_0_0, r_0_1, r_0_2, r_0_3, r_1, r_2)
  | _, _ => none⟩
def spec_DrawPlanned.s : Spec := mkS [.con (.int .u8)] (fun k avs H => match avs, H with
  | [.con (.int .u8) a0], [] => some (spec_DrawPlanned.f k a0)
  | _, _ => none) (fun r => (.tup [.agg [.v (.int .i64 r.1), .v (.int .i64 r.2.1), .v (.int .i64 r.2.2.1), .own 0], .v (.string r.2.2.2.2.1), .own 1], [.row 9 .str r.2.2.2.1, .row 2 (.int .i64) r.2.2.2.2.2]))
def spec_DrawPlanned.E : Env := [((60, []), spec_l1Open.s), ((61, []), spec_l1Rd_config.s), ((62, []), spec_l1Rd_aMap.s), ((63, []), spec_l1Rd_once.s), ((64, []), spec_l1Zeros.s), ((65, []), spec_l1Rd_below.s), ((66, []), spec_l1Rd_off.s)]
def spec_DrawPlanned.G20 (k : Nat) (avs : List AV) (H : List HE) : Option (Int × Int × Int × List ByteArray × ByteArray × List Int) := match avs, H with
  | [.box 0 0, .box 1 0, .box 2 0, .v (.string x7), .own 4, .v (.int .i64 x9)], [.box [.v (.int .i64 x2_0), .v (.int .i64 x2_1), .v (.int .i64 x2_2), .v (.slice none 0 0)], .box [.con (.int .u8) x5_0, .v (.int .i64 x5_1)], .box [.v (.int .i64 x6_0), .v (.int .i64 x6_1), .v (.int .i64 x6_2), .own 3], .row 9 .str x6_3, .row 2 (.int .i64) x8] => spec_DrawPlanned.p20 k x2_0 x2_1 x2_2 x5_0 x5_1 x6_0 x6_1 x6_2 x6_3 x7 x8 x9
  | _, _ => none
def spec_DrawPlanned.G (k p : Nat) (avs : List AV) (H : List HE) : Option (Int × Int × Int × List ByteArray × ByteArray × List Int) := (pick1 20 (spec_DrawPlanned.G20 k avs H) none p)
set_option maxRecDepth 100000 in
theorem spec_DrawPlanned.eq (k : Nat) (a0 : List Int) : fromTop Tryd.prog spec_DrawPlanned.E k spec_DrawPlanned.a (spec_DrawPlanned.G k) 1000 (bodyOf Tryd.prog 22) [.con (.int .u8) a0] [] = spec_DrawPlanned.f k a0 := by kernel_rfl
set_option maxRecDepth 100000 in
theorem spec_DrawPlanned.eq20 (k : Nat) (x2_0 : Int) (x2_1 : Int) (x2_2 : Int) (x5_0 : List Int) (x5_1 : Int) (x6_0 : Int) (x6_1 : Int) (x6_2 : Int) (x6_3 : List ByteArray) (x7 : ByteArray) (x8 : List Int) (x9 : Int) : fromPt Tryd.prog spec_DrawPlanned.E k spec_DrawPlanned.a (spec_DrawPlanned.G k) 1000 (bodyOf Tryd.prog 22) 20 [.box 0 0, .box 1 0, .box 2 0, .v (.string x7), .own 4, .v (.int .i64 x9)] [.box [.v (.int .i64 x2_0), .v (.int .i64 x2_1), .v (.int .i64 x2_2), .v (.slice none 0 0)], .box [.con (.int .u8) x5_0, .v (.int .i64 x5_1)], .box [.v (.int .i64 x6_0), .v (.int .i64 x6_1), .v (.int .i64 x6_2), .own 3], .row 9 .str x6_3, .row 2 (.int .i64) x8] = spec_DrawPlanned.p20 (k + 1) x2_0 x2_1 x2_2 x5_0 x5_1 x6_0 x6_1 x6_2 x6_3 x7 x8 x9 := by kernel_rfl
theorem spec_DrawPlanned.G20_0 {avs : List AV} {H : List HE} : spec_DrawPlanned.G20 0 avs H = none := by unfold spec_DrawPlanned.G20; split <;> rfl
theorem spec_DrawPlanned.G20_s (k : Nat) {avs : List AV} {H : List HE} {x : Int × Int × Int × List ByteArray × ByteArray × List Int} (h : spec_DrawPlanned.G20 (k + 1) avs H = some x) : fromPt Tryd.prog spec_DrawPlanned.E k spec_DrawPlanned.a (spec_DrawPlanned.G k) 1000 (bodyOf Tryd.prog 22) 20 avs H = some x := by
  unfold spec_DrawPlanned.G20 at h
  split at h
  · rw [← h]; exact spec_DrawPlanned.eq20 _ _ _ _ _ _ _ _ _ _ _ _ _
  · cases h
theorem spec_DrawPlanned.E_ok : EnvOk Tryd.prog spec_DrawPlanned.E := ⟨⟨spec_l1Open.sound, callable_of (by kernel_rfl)⟩, ⟨spec_l1Rd_config.sound, callable_of (by kernel_rfl)⟩, ⟨spec_l1Rd_aMap.sound, callable_of (by kernel_rfl)⟩, ⟨spec_l1Rd_once.sound, callable_of (by kernel_rfl)⟩, ⟨spec_l1Zeros.sound, callable_of (by kernel_rfl)⟩, ⟨spec_l1Rd_below.sound, callable_of (by kernel_rfl)⟩, ⟨spec_l1Rd_off.sound, callable_of (by kernel_rfl)⟩, trivial⟩
theorem spec_DrawPlanned.sound : Sound Tryd.prog 22 spec_DrawPlanned.s := by
  refine func_sound (f := spec_DrawPlanned.a) (G := spec_DrawPlanned.G) (fn := Tryd.f22) (body := bodyOf Tryd.prog 22) 1000 (by kernel_rfl) spec_DrawPlanned.E_ok Tryd.func22 (by kernel_rfl) (by kernel_rfl) (by kernel_rfl) (ptsOk_of (by kernel_rfl)) ?_ ?_ ?_ ?_
  · intro r H x h
    unfold spec_DrawPlanned.a at h
    simp only at h
    split at h
    · cases h; rfl
    · cases h
  · exact fun q avs H => pick1_none spec_DrawPlanned.G20_0 (rfl)
  · intro k q pt avs H x _ h
    rcases pick1_some h with ⟨rfl, h⟩ | h
    · exact spec_DrawPlanned.G20_s _ h
    cases h
  · intro k avs H o h
    try dsimp only at h
    split at h
    · cases h; exact spec_DrawPlanned.eq _ _
    · cases h

def impl_ConfigOk.a : FnA (Bool) := ⟨25, [.tmp 2], .bool, [], [], fun x H => match x, H with
  | .bs false r, [] => some r
  | _, _ => none⟩
def impl_ConfigOk.s : Spec := mkS [.agg [.val, .val, .val, .con .str]] (fun k avs H => match avs, H with
  | [.agg [.v (.int .i64 a0_0), .v (.int .i64 a0_1), .v (.int .i64 a0_2), .con .str a0_3]], [] => some (impl_ConfigOk.f k a0_0 a0_1 a0_2 a0_3)
  | _, _ => none) (fun r => (.bs false r, []))
def impl_ConfigOk.E : Env := [((51, []), impl_within.s), ((77, []), impl_TypesOk.s)]
def impl_ConfigOk.G (k p : Nat) (avs : List AV) (H : List HE) : Option (Bool) := none
set_option maxRecDepth 100000 in
theorem impl_ConfigOk.eq (k : Nat) (a0_0 : Int) (a0_1 : Int) (a0_2 : Int) (a0_3 : List ByteArray) : fromTop Tryd.prog impl_ConfigOk.E k impl_ConfigOk.a (impl_ConfigOk.G k) 1000 (bodyOf Tryd.prog 47) [.agg [.v (.int .i64 a0_0), .v (.int .i64 a0_1), .v (.int .i64 a0_2), .con .str a0_3]] [] = impl_ConfigOk.f k a0_0 a0_1 a0_2 a0_3 := by kernel_rfl
theorem impl_ConfigOk.E_ok : EnvOk Tryd.prog impl_ConfigOk.E := ⟨⟨impl_within.sound, callable_of (by kernel_rfl)⟩, ⟨impl_TypesOk.sound, callable_of (by kernel_rfl)⟩, trivial⟩
theorem impl_ConfigOk.sound : Sound Tryd.prog 47 impl_ConfigOk.s := by
  refine func_sound (f := impl_ConfigOk.a) (G := impl_ConfigOk.G) (fn := Tryd.f47) (body := bodyOf Tryd.prog 47) 1000 (by kernel_rfl) impl_ConfigOk.E_ok Tryd.func47 (by kernel_rfl) (by kernel_rfl) (by kernel_rfl) (ptsOk_of (by kernel_rfl)) ?_ ?_ ?_ ?_
  · intro r H x h
    unfold impl_ConfigOk.a at h
    simp only at h
    split at h
    · cases h; rfl
    · cases h
  · intro q avs H; rfl
  · intro k q pt avs H x _ h; cases h
  · intro k avs H o h
    try dsimp only at h
    split at h
    · cases h; exact impl_ConfigOk.eq _ _ _ _ _
    · cases h

def impl_isMap.a : FnA (Bool) := ⟨12, [.tmp 2], .bool, [], [], fun x H => match x, H with
  | .bs false r, [] => some r
  | _, _ => none⟩
def impl_isMap.s : Spec := mkS [.val] (fun k avs H => match avs, H with
  | [.v (.string a0)], [] => some (impl_isMap.f a0)
  | _, _ => none) (fun r => (.bs false r, []))
def impl_isMap.E : Env := [((94, []), impl_zeros.s)]
def impl_isMap.G (k p : Nat) (avs : List AV) (H : List HE) : Option (Bool) := none
set_option maxRecDepth 100000 in
theorem impl_isMap.eq (k : Nat) (a0 : ByteArray) : fromTop Tryd.prog impl_isMap.E k impl_isMap.a (impl_isMap.G k) 1000 (bodyOf Tryd.prog 48) [.v (.string a0)] [] = impl_isMap.f a0 := by kernel_rfl
theorem impl_isMap.E_ok : EnvOk Tryd.prog impl_isMap.E := ⟨⟨impl_zeros.sound, callable_of (by kernel_rfl)⟩, trivial⟩
theorem impl_isMap.sound : Sound Tryd.prog 48 impl_isMap.s := by
  refine func_sound (f := impl_isMap.a) (G := impl_isMap.G) (fn := Tryd.f48) (body := bodyOf Tryd.prog 48) 1000 (by kernel_rfl) impl_isMap.E_ok Tryd.func48 (by kernel_rfl) (by kernel_rfl) (by kernel_rfl) (ptsOk_of (by kernel_rfl)) ?_ ?_ ?_ ?_
  · intro r H x h
    unfold impl_isMap.a at h
    simp only at h
    split at h
    · cases h; rfl
    · cases h
  · intro q avs H; rfl
  · intro k q pt avs H x _ h; cases h
  · intro k avs H o h
    try dsimp only at h
    split at h
    · cases h; exact impl_isMap.eq _ _
    · cases h

def impl_Planned_1.a : FnA (Bool) := ⟨11, [.tmp 3], .bool, [], [], fun x H => match x, H with
  | .bs false r, [] => some r
  | _, _ => none⟩
def impl_Planned_1.s : Spec := mkS [.val, .elt (.pair (.int .i64) (.pair (.int .i64) (.pair (.int .i64) (.sl .str))))] (fun k avs H => match avs, H with
  | [.v (.int .i64 a0), .elt (.pair (.int .i64) (.pair (.int .i64) (.pair (.int .i64) (.sl .str)))) a1 0], [] => some (impl_Planned_1.f a0 a1)
  | _, _ => none) (fun r => (.bs false r, []))
def impl_Planned_1.E : Env := [((52, []), impl_size_string.s), ((51, []), impl_within.s)]
def impl_Planned_1.G (k p : Nat) (avs : List AV) (H : List HE) : Option (Bool) := none
set_option maxRecDepth 100000 in
theorem impl_Planned_1.eq (k : Nat) (a0 : Int) (a1 : Int × Int × Int × List ByteArray) : fromTop Tryd.prog impl_Planned_1.E k impl_Planned_1.a (impl_Planned_1.G k) 1000 (bodyOf Tryd.prog 50) [.v (.int .i64 a0), .elt (.pair (.int .i64) (.pair (.int .i64) (.pair (.int .i64) (.sl .str)))) a1 0] [] = impl_Planned_1.f a0 a1 := by kernel_rfl
theorem impl_Planned_1.E_ok : EnvOk Tryd.prog impl_Planned_1.E := ⟨⟨impl_size_string.sound, callable_of (by kernel_rfl)⟩, ⟨impl_within.sound, callable_of (by kernel_rfl)⟩, trivial⟩
theorem impl_Planned_1.sound : Sound Tryd.prog 50 impl_Planned_1.s := by
  refine func_sound (f := impl_Planned_1.a) (G := impl_Planned_1.G) (fn := Tryd.f50) (body := bodyOf Tryd.prog 50) 1000 (by kernel_rfl) impl_Planned_1.E_ok Tryd.func50 (by kernel_rfl) (by kernel_rfl) (by kernel_rfl) (ptsOk_of (by kernel_rfl)) ?_ ?_ ?_ ?_
  · intro r H x h
    unfold impl_Planned_1.a at h
    simp only at h
    split at h
    · cases h; rfl
    · cases h
  · intro q avs H; rfl
  · intro k q pt avs H x _ h; cases h
  · intro k avs H o h
    try dsimp only at h
    split at h
    · cases h; exact impl_Planned_1.eq _ _ _
    · cases h

def slices_IndexFunc_int64_at_impl_Planned_1.a : FnA (Int) := ⟨19, [.tmp 4], .val, [], [⟨6, [0, 1, 7, 8], [.con (.int .i64), .fn 50 0 [.elt (.pair (.int .i64) (.pair (.int .i64) (.pair (.int .i64) (.sl .str))))], .val, .val], []⟩], fun x H => match x, H with
  | .v (.int .i64 r), [] => some r
  | _, _ => none⟩
def slices_IndexFunc_int64_at_impl_Planned_1.s : Spec := mkS [.con (.int .i64), .fn 50 0 [.elt (.pair (.int .i64) (.pair (.int .i64) (.pair (.int .i64) (.sl .str))))]] (fun k avs H => match avs, H with
  | [.con (.int .i64) a0, .fn 50 0 [.elt (.pair (.int .i64) (.pair (.int .i64) (.pair (.int .i64) (.sl .str)))) a1_0 0]], [] => some (slices_IndexFunc_int64_at_impl_Planned_1.f k a0 a1_0)
  | _, _ => none) (fun r => (.v (.int .i64 r), []))
def slices_IndexFunc_int64_at_impl_Planned_1.E : Env := [((50, []), impl_Planned_1.s)]
def slices_IndexFunc_int64_at_impl_Planned_1.G6 (k : Nat) (avs : List AV) (H : List HE) : Option (Int) := match avs, H with
  | [.con (.int .i64) x0, .fn 50 0 [.elt (.pair (.int .i64) (.pair (.int .i64) (.pair (.int .i64) (.sl .str)))) x1_0 0], .v (.int .i64 x7), .v (.int .i64 x8)], [] => slices_IndexFunc_int64_at_impl_Planned_1.p6 k x0 x1_0 x7 x8
  | _, _ => none
def slices_IndexFunc_int64_at_impl_Planned_1.G (k p : Nat) (avs : List AV) (H : List HE) : Option (Int) := (pick1 6 (slices_IndexFunc_int64_at_impl_Planned_1.G6 k avs H) none p)
set_option maxRecDepth 100000 in
theorem slices_IndexFunc_int64_at_impl_Planned_1.eq (k : Nat) (a0 : List Int) (a1_0 : Int × Int × Int × List ByteArray) : fromTop Tryd.prog slices_IndexFunc_int64_at_impl_Planned_1.E k slices_IndexFunc_int64_at_impl_Planned_1.a (slices_IndexFunc_int64_at_impl_Planned_1.G k) 1000 (bodyOf Tryd.prog 95) [.con (.int .i64) a0, .fn 50 0 [.elt (.pair (.int .i64) (.pair (.int .i64) (.pair (.int .i64) (.sl .str)))) a1_0 0]] [] = slices_IndexFunc_int64_at_impl_Planned_1.f k a0 a1_0 := by kernel_rfl
set_option maxRecDepth 100000 in
theorem slices_IndexFunc_int64_at_impl_Planned_1.eq6 (k : Nat) (x0 : List Int) (x1_0 : Int × Int × Int × List ByteArray) (x7 : Int) (x8 : Int) : fromPt Tryd.prog slices_IndexFunc_int64_at_impl_Planned_1.E k slices_IndexFunc_int64_at_impl_Planned_1.a (slices_IndexFunc_int64_at_impl_Planned_1.G k) 1000 (bodyOf Tryd.prog 95) 6 [.con (.int .i64) x0, .fn 50 0 [.elt (.pair (.int .i64) (.pair (.int .i64) (.pair (.int .i64) (.sl .str)))) x1_0 0], .v (.int .i64 x7), .v (.int .i64 x8)] [] = slices_IndexFunc_int64_at_impl_Planned_1.p6 (k + 1) x0 x1_0 x7 x8 := by kernel_rfl
theorem slices_IndexFunc_int64_at_impl_Planned_1.G6_0 {avs : List AV} {H : List HE} : slices_IndexFunc_int64_at_impl_Planned_1.G6 0 avs H = none := by unfold slices_IndexFunc_int64_at_impl_Planned_1.G6; split <;> rfl
theorem slices_IndexFunc_int64_at_impl_Planned_1.G6_s (k : Nat) {avs : List AV} {H : List HE} {x : Int} (h : slices_IndexFunc_int64_at_impl_Planned_1.G6 (k + 1) avs H = some x) : fromPt Tryd.prog slices_IndexFunc_int64_at_impl_Planned_1.E k slices_IndexFunc_int64_at_impl_Planned_1.a (slices_IndexFunc_int64_at_impl_Planned_1.G k) 1000 (bodyOf Tryd.prog 95) 6 avs H = some x := by
  unfold slices_IndexFunc_int64_at_impl_Planned_1.G6 at h
  split at h
  · rw [← h]; exact slices_IndexFunc_int64_at_impl_Planned_1.eq6 _ _ _ _ _
  · cases h
theorem slices_IndexFunc_int64_at_impl_Planned_1.E_ok : EnvOk Tryd.prog slices_IndexFunc_int64_at_impl_Planned_1.E := ⟨⟨impl_Planned_1.sound, callable_of (by kernel_rfl)⟩, trivial⟩
theorem slices_IndexFunc_int64_at_impl_Planned_1.sound : Sound Tryd.prog 95 slices_IndexFunc_int64_at_impl_Planned_1.s := by
  refine func_sound (f := slices_IndexFunc_int64_at_impl_Planned_1.a) (G := slices_IndexFunc_int64_at_impl_Planned_1.G) (fn := Tryd.f95) (body := bodyOf Tryd.prog 95) 1000 (by kernel_rfl) slices_IndexFunc_int64_at_impl_Planned_1.E_ok Tryd.func95 (by kernel_rfl) (by kernel_rfl) (by kernel_rfl) (ptsOk_of (by kernel_rfl)) ?_ ?_ ?_ ?_
  · intro r H x h
    unfold slices_IndexFunc_int64_at_impl_Planned_1.a at h
    simp only at h
    split at h
    · cases h; rfl
    · cases h
  · exact fun q avs H => pick1_none slices_IndexFunc_int64_at_impl_Planned_1.G6_0 (rfl)
  · intro k q pt avs H x _ h
    rcases pick1_some h with ⟨rfl, h⟩ | h
    · exact slices_IndexFunc_int64_at_impl_Planned_1.G6_s _ h
    cases h
  · intro k avs H o h
    try dsimp only at h
    split at h
    · cases h; exact slices_IndexFunc_int64_at_impl_Planned_1.eq _ _ _
    · cases h

def slices_ContainsFunc_int64_at_impl_Planned_1.a : FnA (Bool) := ⟨9, [.tmp 4], .bool, [], [], fun x H => match x, H with
  | .bs false r, [] => some r
  | _, _ => none⟩
def slices_ContainsFunc_int64_at_impl_Planned_1.s : Spec := mkS [.con (.int .i64), .fn 50 0 [.elt (.pair (.int .i64) (.pair (.int .i64) (.pair (.int .i64) (.sl .str))))]] (fun k avs H => match avs, H with
  | [.con (.int .i64) a0, .fn 50 0 [.elt (.pair (.int .i64) (.pair (.int .i64) (.pair (.int .i64) (.sl .str)))) a1_0 0]], [] => some (slices_ContainsFunc_int64_at_impl_Planned_1.f k a0 a1_0)
  | _, _ => none) (fun r => (.bs false r, []))
def slices_ContainsFunc_int64_at_impl_Planned_1.E : Env := [((95, [50]), slices_IndexFunc_int64_at_impl_Planned_1.s)]
def slices_ContainsFunc_int64_at_impl_Planned_1.G (k p : Nat) (avs : List AV) (H : List HE) : Option (Bool) := none
set_option maxRecDepth 100000 in
theorem slices_ContainsFunc_int64_at_impl_Planned_1.eq (k : Nat) (a0 : List Int) (a1_0 : Int × Int × Int × List ByteArray) : fromTop Tryd.prog slices_ContainsFunc_int64_at_impl_Planned_1.E k slices_ContainsFunc_int64_at_impl_Planned_1.a (slices_ContainsFunc_int64_at_impl_Planned_1.G k) 1000 (bodyOf Tryd.prog 49) [.con (.int .i64) a0, .fn 50 0 [.elt (.pair (.int .i64) (.pair (.int .i64) (.pair (.int .i64) (.sl .str)))) a1_0 0]] [] = slices_ContainsFunc_int64_at_impl_Planned_1.f k a0 a1_0 := by kernel_rfl
theorem slices_ContainsFunc_int64_at_impl_Planned_1.E_ok : EnvOk Tryd.prog slices_ContainsFunc_int64_at_impl_Planned_1.E := ⟨⟨slices_IndexFunc_int64_at_impl_Planned_1.sound, callable_of (by kernel_rfl)⟩, trivial⟩
theorem slices_ContainsFunc_int64_at_impl_Planned_1.sound : Sound Tryd.prog 49 slices_ContainsFunc_int64_at_impl_Planned_1.s := by
  refine func_sound (f := slices_ContainsFunc_int64_at_impl_Planned_1.a) (G := slices_ContainsFunc_int64_at_impl_Planned_1.G) (fn := Tryd.f49) (body := bodyOf Tryd.prog 49) 1000 (by kernel_rfl) slices_ContainsFunc_int64_at_impl_Planned_1.E_ok Tryd.func49 (by kernel_rfl) (by kernel_rfl) (by kernel_rfl) (ptsOk_of (by kernel_rfl)) ?_ ?_ ?_ ?_
  · intro r H x h
    unfold slices_ContainsFunc_int64_at_impl_Planned_1.a at h
    simp only at h
    split at h
    · cases h; rfl
    · cases h
  · intro q avs H; rfl
  · intro k q pt avs H x _ h; cases h
  · intro k avs H o h
    try dsimp only at h
    split at h
    · cases h; exact slices_ContainsFunc_int64_at_impl_Planned_1.eq _ _ _
    · cases h

def impl_isArea.a : FnA (Bool) := ⟨22, [.tmp 6], .bool, [], [], fun x H => match x, H with
  | .bs false r, [] => some r
  | _, _ => none⟩
def impl_isArea.s : Spec := mkS [.val, .val, .val] (fun k avs H => match avs, H with
  | [.v (.string a0), .v (.int .i64 a1), .v (.int .i64 a2)], [] => some (impl_isArea.f a0 a1 a2)
  | _, _ => none) (fun r => (.bs false r, []))
def impl_isArea.E : Env := [((48, []), impl_isMap.s)]
def impl_isArea.G (k p : Nat) (avs : List AV) (H : List HE) : Option (Bool) := none
set_option maxRecDepth 100000 in
theorem impl_isArea.eq (k : Nat) (a0 : ByteArray) (a1 : Int) (a2 : Int) : fromTop Tryd.prog impl_isArea.E k impl_isArea.a (impl_isArea.G k) 1000 (bodyOf Tryd.prog 125) [.v (.string a0), .v (.int .i64 a1), .v (.int .i64 a2)] [] = impl_isArea.f a0 a1 a2 := by kernel_rfl
theorem impl_isArea.E_ok : EnvOk Tryd.prog impl_isArea.E := ⟨⟨impl_isMap.sound, callable_of (by kernel_rfl)⟩, trivial⟩
theorem impl_isArea.sound : Sound Tryd.prog 125 impl_isArea.s := by
  refine func_sound (f := impl_isArea.a) (G := impl_isArea.G) (fn := Tryd.f125) (body := bodyOf Tryd.prog 125) 1000 (by kernel_rfl) impl_isArea.E_ok Tryd.func125 (by kernel_rfl) (by kernel_rfl) (by kernel_rfl) (ptsOk_of (by kernel_rfl)) ?_ ?_ ?_ ?_
  · intro r H x h
    unfold impl_isArea.a at h
    simp only at h
    split at h
    · cases h; rfl
    · cases h
  · intro q avs H; rfl
  · intro k q pt avs H x _ h; cases h
  · intro k avs H o h
    try dsimp only at h
    split at h
    · cases h; exact impl_isArea.eq _ _ _ _
    · cases h

def impl_isTaken.a : FnA (Bool) := ⟨14, [.tmp 4], .bool, [], [], fun x H => match x, H with
  | .bs false r, [] => some r
  | _, _ => none⟩
def impl_isTaken.s : Spec := mkS [.val, .val] (fun k avs H => match avs, H with
  | [.v (.string a0), .v (.int .i64 a1)], [] => some (impl_isTaken.f a0 a1)
  | _, _ => none) (fun r => (.bs false r, []))
def impl_isTaken.E : Env := []
def impl_isTaken.G (k p : Nat) (avs : List AV) (H : List HE) : Option (Bool) := none
set_option maxRecDepth 100000 in
theorem impl_isTaken.eq (k : Nat) (a0 : ByteArray) (a1 : Int) : fromTop Tryd.prog impl_isTaken.E k impl_isTaken.a (impl_isTaken.G k) 1000 (bodyOf Tryd.prog 108) [.v (.string a0), .v (.int .i64 a1)] [] = impl_isTaken.f a0 a1 := by kernel_rfl
theorem impl_isTaken.E_ok : EnvOk Tryd.prog impl_isTaken.E := trivial
theorem impl_isTaken.sound : Sound Tryd.prog 108 impl_isTaken.s := by
  refine func_sound (f := impl_isTaken.a) (G := impl_isTaken.G) (fn := Tryd.f108) (body := bodyOf Tryd.prog 108) 1000 (by kernel_rfl) impl_isTaken.E_ok Tryd.func108 (by kernel_rfl) (by kernel_rfl) (by kernel_rfl) (ptsOk_of (by kernel_rfl)) ?_ ?_ ?_ ?_
  · intro r H x h
    unfold impl_isTaken.a at h
    simp only at h
    split at h
    · cases h; rfl
    · cases h
  · intro q avs H; rfl
  · intro k q pt avs H x _ h; cases h
  · intro k avs H o h
    try dsimp only at h
    split at h
    · cases h; exact impl_isTaken.eq _ _ _
    · cases h

def impl_gaps.a : FnA (List (Int × Int)) := ⟨54, [.tmp 6], .row 117 (.pair (.int .i64) (.int .i64)), [], [⟨8, [0, 2, 7, 8], [.val, .val, .row 117 (.pair (.int .i64) (.int .i64)), .val], []⟩, ⟨27, [0, 2, 7, 8, 9, 39], [.val, .val, .row 117 (.pair (.int .i64) (.int .i64)), .val, .val, .bool], []⟩], fun x H => match x, H with
  | .own 0, [.row 117 (.pair (.int .i64) (.int .i64)) r] => some r
  | _, _ => none⟩
def impl_gaps.s : Spec := mkS [.val, .val, .val] (fun k avs H => match avs, H with
  | [.v (.string a0), .v (.int .i64 a1), .v (.int .i64 a2)], [] => some (impl_gaps.f k a0 a1 a2)
  | _, _ => none) (fun r => (.own 0, [.row 117 (.pair (.int .i64) (.int .i64)) r]))
def impl_gaps.E : Env := [((108, []), impl_isTaken.s)]
def impl_gaps.G8 (k : Nat) (avs : List AV) (H : List HE) : Option (List (Int × Int)) := match avs, H with
  | [.v (.string x0), .v (.int .i64 x2), .own 0, .v (.int .i64 x8)], [.row 117 (.pair (.int .i64) (.int .i64)) x7] => impl_gaps.p8 k x0 x2 x7 x8
  | _, _ => none
def impl_gaps.G27 (k : Nat) (avs : List AV) (H : List HE) : Option (List (Int × Int)) := match avs, H with
  | [.v (.string x0), .v (.int .i64 x2), .own 0, .v (.int .i64 x8), .v (.int .i64 x9), .bs false x39], [.row 117 (.pair (.int .i64) (.int .i64)) x7] => impl_gaps.p27 k x0 x2 x7 x8 x9 x39
  | _, _ => none
def impl_gaps.G (k p : Nat) (avs : List AV) (H : List HE) : Option (List (Int × Int)) := (pick1 8 (impl_gaps.G8 k avs H) (pick1 27 (impl_gaps.G27 k avs H) none p) p)
set_option maxRecDepth 100000 in
theorem impl_gaps.eq (k : Nat) (a0 : ByteArray) (a1 : Int) (a2 : Int) : fromTop Tryd.prog impl_gaps.E k impl_gaps.a (impl_gaps.G k) 1000 (bodyOf Tryd.prog 126) [.v (.string a0), .v (.int .i64 a1), .v (.int .i64 a2)] [] = impl_gaps.f k a0 a1 a2 := by kernel_rfl
set_option maxRecDepth 100000 in
theorem impl_gaps.eq8 (k : Nat) (x0 : ByteArray) (x2 : Int) (x7 : List (Int × Int)) (x8 : Int) : fromPt Tryd.prog impl_gaps.E k impl_gaps.a (impl_gaps.G k) 1000 (bodyOf Tryd.prog 126) 8 [.v (.string x0), .v (.int .i64 x2), .own 0, .v (.int .i64 x8)] [.row 117 (.pair (.int .i64) (.int .i64)) x7] = impl_gaps.p8 (k + 1) x0 x2 x7 x8 := by kernel_rfl
theorem impl_gaps.G8_0 {avs : List AV} {H : List HE} : impl_gaps.G8 0 avs H = none := by unfold impl_gaps.G8; split <;> rfl
theorem impl_gaps.G8_s (k : Nat) {avs : List AV} {H : List HE} {x : List (Int × Int)} (h : impl_gaps.G8 (k + 1) avs H = some x) : fromPt Tryd.prog impl_gaps.E k impl_gaps.a (impl_gaps.G k) 1000 (bodyOf Tryd.prog 126) 8 avs H = some x := by
  unfold impl_gaps.G8 at h
  split at h
  · rw [← h]; exact impl_gaps.eq8 _ _ _ _ _
  · cases h
set_option maxRecDepth 100000 in
theorem impl_gaps.eq27 (k : Nat) (x0 : ByteArray) (x2 : Int) (x7 : List (Int × Int)) (x8 : Int) (x9 : Int) (x39 : Bool) : fromPt Tryd.prog impl_gaps.E k impl_gaps.a (impl_gaps.G k) 1000 (bodyOf Tryd.prog 126) 27 [.v (.string x0), .v (.int .i64 x2), .own 0, .v (.int .i64 x8), .v (.int .i64 x9), .bs false x39] [.row 117 (.pair (.int .i64) (.int .i64)) x7] = impl_gaps.p27 (k + 1) x0 x2 x7 x8 x9 x39 := by kernel_rfl
theorem impl_gaps.G27_0 {avs : List AV} {H : List HE} : impl_gaps.G27 0 avs H = none := by unfold impl_gaps.G27; split <;> rfl
theorem impl_gaps.G27_s (k : Nat) {avs : List AV} {H : List HE} {x : List (Int × Int)} (h : impl_gaps.G27 (k + 1) avs H = some x) : fromPt Tryd.prog impl_gaps.E k impl_gaps.a (impl_gaps.G k) 1000 (bodyOf Tryd.prog 126) 27 avs H = some x := by
  unfold impl_gaps.G27 at h
  split at h
  · rw [← h]; exact impl_gaps.eq27 _ _ _ _ _ _ _
  · cases h
theorem impl_gaps.E_ok : EnvOk Tryd.prog impl_gaps.E := ⟨⟨impl_isTaken.sound, callable_of (by kernel_rfl)⟩, trivial⟩
theorem impl_gaps.sound : Sound Tryd.prog 126 impl_gaps.s := by
  refine func_sound (f := impl_gaps.a) (G := impl_gaps.G) (fn := Tryd.f126) (body := bodyOf Tryd.prog 126) 1000 (by kernel_rfl) impl_gaps.E_ok Tryd.func126 (by kernel_rfl) (by kernel_rfl) (by kernel_rfl) (ptsOk_of (by kernel_rfl)) ?_ ?_ ?_ ?_
  · intro r H x h
    unfold impl_gaps.a at h
    simp only at h
    split at h
    · cases h; rfl
    · cases h
  · exact fun q avs H => pick1_none impl_gaps.G8_0 (pick1_none impl_gaps.G27_0 (rfl))
  · intro k q pt avs H x _ h
    rcases pick1_some h with ⟨rfl, h⟩ | h
    · exact impl_gaps.G8_s _ h
    rcases pick1_some h with ⟨rfl, h⟩ | h
    · exact impl_gaps.G27_s _ h
    cases h
  · intro k avs H o h
    try dsimp only at h
    split at h
    · cases h; exact impl_gaps.eq _ _ _ _
    · cases h

def impl_FindRun.a : FnA (Int) := ⟨37, [.tmp 8], .val, [], [⟨14, [3, 24, 25, 26], [.val, .row 117 (.pair (.int .i64) (.int .i64)), .val, .val], []⟩], fun x H => match x, H with
  | .v (.int .i64 r), [] => some r
  | _, _ => none⟩
def impl_FindRun.s : Spec := mkS [.val, .val, .val, .val] (fun k avs H => match avs, H with
  | [.v (.string a0), .v (.int .i64 a1), .v (.int .i64 a2), .v (.int .i64 a3)], [] => some (impl_FindRun.f k a0 a1 a2 a3)
  | _, _ => none) (fun r => (.v (.int .i64 r), []))
def impl_FindRun.E : Env := [((125, []), impl_isArea.s), ((51, []), impl_within.s), ((126, []), impl_gaps.s)]
def impl_FindRun.G14 (k : Nat) (avs : List AV) (H : List HE) : Option (Int) := match avs, H with
  | [.v (.int .i64 x3), .own 0, .v (.int .i64 x25), .v (.int .i64 x26)], [.row 117 (.pair (.int .i64) (.int .i64)) x24] => impl_FindRun.p14 k x3 x24 x25 x26
  | _, _ => none
def impl_FindRun.G (k p : Nat) (avs : List AV) (H : List HE) : Option (Int) := (pick1 14 (impl_FindRun.G14 k avs H) none p)
set_option maxRecDepth 100000 in
theorem impl_FindRun.eq (k : Nat) (a0 : ByteArray) (a1 : Int) (a2 : Int) (a3 : Int) : fromTop Tryd.prog impl_FindRun.E k impl_FindRun.a (impl_FindRun.G k) 1000 (bodyOf Tryd.prog 96) [.v (.string a0), .v (.int .i64 a1), .v (.int .i64 a2), .v (.int .i64 a3)] [] = impl_FindRun.f k a0 a1 a2 a3 := by kernel_rfl
set_option maxRecDepth 100000 in
theorem impl_FindRun.eq14 (k : Nat) (x3 : Int) (x24 : List (Int × Int)) (x25 : Int) (x26 : Int) : fromPt Tryd.prog impl_FindRun.E k impl_FindRun.a (impl_FindRun.G k) 1000 (bodyOf Tryd.prog 96) 14 [.v (.int .i64 x3), .own 0, .v (.int .i64 x25), .v (.int .i64 x26)] [.row 117 (.pair (.int .i64) (.int .i64)) x24] = impl_FindRun.p14 (k + 1) x3 x24 x25 x26 := by kernel_rfl
theorem impl_FindRun.G14_0 {avs : List AV} {H : List HE} : impl_FindRun.G14 0 avs H = none := by unfold impl_FindRun.G14; split <;> rfl
theorem impl_FindRun.G14_s (k : Nat) {avs : List AV} {H : List HE} {x : Int} (h : impl_FindRun.G14 (k + 1) avs H = some x) : fromPt Tryd.prog impl_FindRun.E k impl_FindRun.a (impl_FindRun.G k) 1000 (bodyOf Tryd.prog 96) 14 avs H = some x := by
  unfold impl_FindRun.G14 at h
  split at h
  · rw [← h]; exact impl_FindRun.eq14 _ _ _ _ _
  · cases h
theorem impl_FindRun.E_ok : EnvOk Tryd.prog impl_FindRun.E := ⟨⟨impl_isArea.sound, callable_of (by kernel_rfl)⟩, ⟨impl_within.sound, callable_of (by kernel_rfl)⟩, ⟨impl_gaps.sound, callable_of (by kernel_rfl)⟩, trivial⟩
theorem impl_FindRun.sound : Sound Tryd.prog 96 impl_FindRun.s := by
  refine func_sound (f := impl_FindRun.a) (G := impl_FindRun.G) (fn := Tryd.f96) (body := bodyOf Tryd.prog 96) 1000 (by kernel_rfl) impl_FindRun.E_ok Tryd.func96 (by kernel_rfl) (by kernel_rfl) (by kernel_rfl) (ptsOk_of (by kernel_rfl)) ?_ ?_ ?_ ?_
  · intro r H x h
    unfold impl_FindRun.a at h
    simp only at h
    split at h
    · cases h; rfl
    · cases h
  · exact fun q avs H => pick1_none impl_FindRun.G14_0 (rfl)
  · intro k q pt avs H x _ h
    rcases pick1_some h with ⟨rfl, h⟩ | h
    · exact impl_FindRun.G14_s _ h
    cases h
  · intro k avs H o h
    try dsimp only at h
    split at h
    · cases h; exact impl_FindRun.eq _ _ _ _ _
    · cases h

def impl_changedMap.a : FnA (ByteArray) := ⟨44, [.tmp 8], .val, [], [⟨8, [1, 2, 3, 9, 10], [.val, .val, .bool, .row 0 .bool, .val], []⟩, ⟨24, [1, 2, 3, 9, 10], [.val, .val, .bool, .row 0 .bool, .val], []⟩], fun x H => match x, H with
  | .v (.string r), [] => some r
  | _, _ => none⟩
def impl_changedMap.s : Spec := mkS [.val, .val, .val, .bool] (fun k avs H => match avs, H with
  | [.v (.string a0), .v (.int .i64 a1), .v (.int .i64 a2), .bs false a3], [] => some (impl_changedMap.f k a0 a1 a2 a3)
  | _, _ => none) (fun r => (.v (.string r), []))
def impl_changedMap.E : Env := []
def impl_changedMap.G8 (k : Nat) (avs : List AV) (H : List HE) : Option (ByteArray) := match avs, H with
  | [.v (.int .i64 x1), .v (.int .i64 x2), .bs false x3, .own 0, .v (.int .i64 x10)], [.bts x9] => impl_changedMap.p8 k x1 x2 x3 x9 x10
  | _, _ => none
def impl_changedMap.G24 (k : Nat) (avs : List AV) (H : List HE) : Option (ByteArray) := match avs, H with
  | [.v (.int .i64 x1), .v (.int .i64 x2), .bs false x3, .own 0, .v (.int .i64 x10)], [.bts x9] => impl_changedMap.p24 k x1 x2 x3 x9 x10
  | _, _ => none
def impl_changedMap.G (k p : Nat) (avs : List AV) (H : List HE) : Option (ByteArray) := (pick1 8 (impl_changedMap.G8 k avs H) (pick1 24 (impl_changedMap.G24 k avs H) none p) p)
set_option maxRecDepth 100000 in
theorem impl_changedMap.eq (k : Nat) (a0 : ByteArray) (a1 : Int) (a2 : Int) (a3 : Bool) : fromTop Tryd.prog impl_changedMap.E k impl_changedMap.a (impl_changedMap.G k) 1000 (bodyOf Tryd.prog 70) [.v (.string a0), .v (.int .i64 a1), .v (.int .i64 a2), .bs false a3] [] = impl_changedMap.f k a0 a1 a2 a3 := by kernel_rfl
set_option maxRecDepth 100000 in
theorem impl_changedMap.eq8 (k : Nat) (x1 : Int) (x2 : Int) (x3 : Bool) (x9 : List Int) (x10 : Int) : fromPt Tryd.prog impl_changedMap.E k impl_changedMap.a (impl_changedMap.G k) 1000 (bodyOf Tryd.prog 70) 8 [.v (.int .i64 x1), .v (.int .i64 x2), .bs false x3, .own 0, .v (.int .i64 x10)] [.bts x9] = impl_changedMap.p8 (k + 1) x1 x2 x3 x9 x10 := by kernel_rfl
theorem impl_changedMap.G8_0 {avs : List AV} {H : List HE} : impl_changedMap.G8 0 avs H = none := by unfold impl_changedMap.G8; split <;> rfl
theorem impl_changedMap.G8_s (k : Nat) {avs : List AV} {H : List HE} {x : ByteArray} (h : impl_changedMap.G8 (k + 1) avs H = some x) : fromPt Tryd.prog impl_changedMap.E k impl_changedMap.a (impl_changedMap.G k) 1000 (bodyOf Tryd.prog 70) 8 avs H = some x := by
  unfold impl_changedMap.G8 at h
  split at h
  · rw [← h]; exact impl_changedMap.eq8 _ _ _ _ _ _
  · cases h
set_option maxRecDepth 100000 in
theorem impl_changedMap.eq24 (k : Nat) (x1 : Int) (x2 : Int) (x3 : Bool) (x9 : List Int) (x10 : Int) : fromPt Tryd.prog impl_changedMap.E k impl_changedMap.a (impl_changedMap.G k) 1000 (bodyOf Tryd.prog 70) 24 [.v (.int .i64 x1), .v (.int .i64 x2), .bs false x3, .own 0, .v (.int .i64 x10)] [.bts x9] = impl_changedMap.p24 (k + 1) x1 x2 x3 x9 x10 := by kernel_rfl
theorem impl_changedMap.G24_0 {avs : List AV} {H : List HE} : impl_changedMap.G24 0 avs H = none := by unfold impl_changedMap.G24; split <;> rfl
theorem impl_changedMap.G24_s (k : Nat) {avs : List AV} {H : List HE} {x : ByteArray} (h : impl_changedMap.G24 (k + 1) avs H = some x) : fromPt Tryd.prog impl_changedMap.E k impl_changedMap.a (impl_changedMap.G k) 1000 (bodyOf Tryd.prog 70) 24 avs H = some x := by
  unfold impl_changedMap.G24 at h
  split at h
  · rw [← h]; exact impl_changedMap.eq24 _ _ _ _ _ _
  · cases h
theorem impl_changedMap.E_ok : EnvOk Tryd.prog impl_changedMap.E := trivial
theorem impl_changedMap.sound : Sound Tryd.prog 70 impl_changedMap.s := by
  refine func_sound (f := impl_changedMap.a) (G := impl_changedMap.G) (fn := Tryd.f70) (body := bodyOf Tryd.prog 70) 1000 (by kernel_rfl) impl_changedMap.E_ok Tryd.func70 (by kernel_rfl) (by kernel_rfl) (by kernel_rfl) (ptsOk_of (by kernel_rfl)) ?_ ?_ ?_ ?_
  · intro r H x h
    unfold impl_changedMap.a at h
    simp only at h
    split at h
    · cases h; rfl
    · cases h
  · exact fun q avs H => pick1_none impl_changedMap.G8_0 (pick1_none impl_changedMap.G24_0 (rfl))
  · intro k q pt avs H x _ h
    rcases pick1_some h with ⟨rfl, h⟩ | h
    · exact impl_changedMap.G8_s _ h
    rcases pick1_some h with ⟨rfl, h⟩ | h
    · exact impl_changedMap.G24_s _ h
    cases h
  · intro k avs H o h
    try dsimp only at h
    split at h
    · cases h; exact impl_changedMap.eq _ _ _ _ _
    · cases h

def impl_planned.a : FnA (List Int × ByteArray × Bool) := ⟨48, [.tmp 6, .tmp 7, .tmp 8], .tup [.row 2 (.int .i64), .val, .bool], [], [⟨8, [1, 3, 9, 15, 16, 17], [.val, .box [.val, .val, .val, .con .str], .row 2 (.int .i64), .con (.int .i64), .val, .val], []⟩], fun x H => match x, H with
  | .tup [.own 0, .v (.string r_1), .bs false r_2], [.row 2 (.int .i64) r_0] => some (r_0, r_1, r_2)
  | _, _ => none⟩
def impl_planned.s : Spec := mkS [.agg [.val, .val, .val, .con .str], .val, .con (.int .i64)] (fun k avs H => match avs, H with
  | [.agg [.v (.int .i64 a0_0), .v (.int .i64 a0_1), .v (.int .i64 a0_2), .con .str a0_3], .v (.string a1), .con (.int .i64) a2], [] => some (impl_planned.f k a0_0 a0_1 a0_2 a0_3 a1 a2)
  | _, _ => none) (fun r => (.tup [.own 0, .v (.string r.2.1), .bs false r.2.2], [.row 2 (.int .i64) r.1]))
def impl_planned.E : Env := [((68, []), impl_runOf.s), ((96, []), impl_FindRun.s), ((70, []), impl_changedMap.s)]
def impl_planned.G8 (k : Nat) (avs : List AV) (H : List HE) : Option (List Int × ByteArray × Bool) := match avs, H with
  | [.v (.string x1), .box 0 0, .own 1, .con (.int .i64) x15, .v (.int .i64 x16), .v (.int .i64 x17)], [.box [.v (.int .i64 x3_0), .v (.int .i64 x3_1), .v (.int .i64 x3_2), .con .str x3_3], .row 2 (.int .i64) x9] => impl_planned.p8 k x1 x3_0 x3_1 x3_2 x3_3 x9 x15 x16 x17
  | _, _ => none
def impl_planned.G (k p : Nat) (avs : List AV) (H : List HE) : Option (List Int × ByteArray × Bool) := (pick1 8 (impl_planned.G8 k avs H) none p)
set_option maxRecDepth 100000 in
theorem impl_planned.eq (k : Nat) (a0_0 : Int) (a0_1 : Int) (a0_2 : Int) (a0_3 : List ByteArray) (a1 : ByteArray) (a2 : List Int) : fromTop Tryd.prog impl_planned.E k impl_planned.a (impl_planned.G k) 1000 (bodyOf Tryd.prog 53) [.agg [.v (.int .i64 a0_0), .v (.int .i64 a0_1), .v (.int .i64 a0_2), .con .str a0_3], .v (.string a1), .con (.int .i64) a2] [] = impl_planned.f k a0_0 a0_1 a0_2 a0_3 a1 a2 := by kernel_rfl
set_option maxRecDepth 100000 in
theorem impl_planned.eq8 (k : Nat) (x1 : ByteArray) (x3_0 : Int) (x3_1 : Int) (x3_2 : Int) (x3_3 : List ByteArray) (x9 : List Int) (x15 : List Int) (x16 : Int) (x17 : Int) : fromPt Tryd.prog impl_planned.E k impl_planned.a (impl_planned.G k) 1000 (bodyOf Tryd.prog 53) 8 [.v (.string x1), .box 0 0, .own 1, .con (.int .i64) x15, .v (.int .i64 x16), .v (.int .i64 x17)] [.box [.v (.int .i64 x3_0), .v (.int .i64 x3_1), .v (.int .i64 x3_2), .con .str x3_3], .row 2 (.int .i64) x9] = impl_planned.p8 (k + 1) x1 x3_0 x3_1 x3_2 x3_3 x9 x15 x16 x17 := by kernel_rfl
theorem impl_planned.G8_0 {avs : List AV} {H : List HE} : impl_planned.G8 0 avs H = none := by unfold impl_planned.G8; split <;> rfl
theorem impl_planned.G8_s (k : Nat) {avs : List AV} {H : List HE} {x : List Int × ByteArray × Bool} (h : impl_planned.G8 (k + 1) avs H = some x) : fromPt Tryd.prog impl_planned.E k impl_planned.a (impl_planned.G k) 1000 (bodyOf Tryd.prog 53) 8 avs H = some x := by
  unfold impl_planned.G8 at h
  split at h
  · rw [← h]; exact impl_planned.eq8 _ _ _ _ _ _ _ _ _ _
  · cases h
theorem impl_planned.E_ok : EnvOk Tryd.prog impl_planned.E := ⟨⟨impl_runOf.sound, callable_of (by kernel_rfl)⟩, ⟨impl_FindRun.sound, callable_of (by kernel_rfl)⟩, ⟨impl_changedMap.sound, callable_of (by kernel_rfl)⟩, trivial⟩
theorem impl_planned.sound : Sound Tryd.prog 53 impl_planned.s := by
  refine func_sound (f := impl_planned.a) (G := impl_planned.G) (fn := Tryd.f53) (body := bodyOf Tryd.prog 53) 1000 (by kernel_rfl) impl_planned.E_ok Tryd.func53 (by kernel_rfl) (by kernel_rfl) (by kernel_rfl) (ptsOk_of (by kernel_rfl)) ?_ ?_ ?_ ?_
  · intro r H x h
    unfold impl_planned.a at h
    simp only at h
    split at h
    · cases h; rfl
    · cases h
  · exact fun q avs H => pick1_none impl_planned.G8_0 (rfl)
  · intro k q pt avs H x _ h
    rcases pick1_some h with ⟨rfl, h⟩ | h
    · exact impl_planned.G8_s _ h
    cases h
  · intro k avs H o h
    try dsimp only at h
    split at h
    · cases h; exact impl_planned.eq _ _ _ _ _ _ _
    · cases h

def impl_Planned.a : FnA (List Int × Bool) := ⟨39, [.tmp 6, .tmp 7], .tup [.row 2 (.int .i64), .bool], [], [], fun x H => match x, H with
  | .tup [.own 0, .bs false r_1], [.row 2 (.int .i64) r_0] => some (r_0, r_1)
  | _, _ => none⟩
def impl_Planned.s : Spec := mkS [.agg [.val, .val, .val, .con .str], .val, .con (.int .i64)] (fun k avs H => match avs, H with
  | [.agg [.v (.int .i64 a0_0), .v (.int .i64 a0_1), .v (.int .i64 a0_2), .con .str a0_3], .v (.string a1), .con (.int .i64) a2], [] => some (impl_Planned.f k a0_0 a0_1 a0_2 a0_3 a1 a2)
  | _, _ => none) (fun r => (.tup [.own 0, .bs false r.2], [.row 2 (.int .i64) r.1]))
def impl_Planned.E : Env := [((47, []), impl_ConfigOk.s), ((48, []), impl_isMap.s), ((49, [50]), slices_ContainsFunc_int64_at_impl_Planned_1.s), ((53, []), impl_planned.s)]
def impl_Planned.G (k p : Nat) (avs : List AV) (H : List HE) : Option (List Int × Bool) := none
set_option maxRecDepth 100000 in
theorem impl_Planned.eq (k : Nat) (a0_0 : Int) (a0_1 : Int) (a0_2 : Int) (a0_3 : List ByteArray) (a1 : ByteArray) (a2 : List Int) : fromTop Tryd.prog impl_Planned.E k impl_Planned.a (impl_Planned.G k) 1000 (bodyOf Tryd.prog 12) [.agg [.v (.int .i64 a0_0), .v (.int .i64 a0_1), .v (.int .i64 a0_2), .con .str a0_3], .v (.string a1), .con (.int .i64) a2] [] = impl_Planned.f k a0_0 a0_1 a0_2 a0_3 a1 a2 := by kernel_rfl
theorem impl_Planned.E_ok : EnvOk Tryd.prog impl_Planned.E := ⟨⟨impl_ConfigOk.sound, callable_of (by kernel_rfl)⟩, ⟨impl_isMap.sound, callable_of (by kernel_rfl)⟩, ⟨slices_ContainsFunc_int64_at_impl_Planned_1.sound, callable_of (by kernel_rfl)⟩, ⟨impl_planned.sound, callable_of (by kernel_rfl)⟩, trivial⟩
theorem impl_Planned.sound : Sound Tryd.prog 12 impl_Planned.s := by
  refine func_sound (f := impl_Planned.a) (G := impl_Planned.G) (fn := Tryd.f12) (body := bodyOf Tryd.prog 12) 1000 (by kernel_rfl) impl_Planned.E_ok Tryd.func12 (by kernel_rfl) (by kernel_rfl) (by kernel_rfl) (ptsOk_of (by kernel_rfl)) ?_ ?_ ?_ ?_
  · intro r H x h
    unfold impl_Planned.a at h
    simp only at h
    split at h
    · cases h; rfl
    · cases h
  · intro q avs H; rfl
  · intro k q pt avs H x _ h; cases h
  · intro k avs H o h
    try dsimp only at h
    split at h
    · cases h; exact impl_Planned.eq _ _ _ _ _ _ _
    · cases h

def spec_ConfigOk.a : FnA (Bool) := ⟨29, [.tmp 2], .bool, [], [], fun x H => match x, H with
  | .bs false r, [] => some r
  | _, _ => none⟩
def spec_ConfigOk.s : Spec := mkS [.agg [.val, .val, .val, .con .str]] (fun k avs H => match avs, H with
  | [.agg [.v (.int .i64 a0_0), .v (.int .i64 a0_1), .v (.int .i64 a0_2), .con .str a0_3]], [] => some (spec_ConfigOk.f k a0_0 a0_1 a0_2 a0_3)
  | _, _ => none) (fun r => (.bs false r, []))
def spec_ConfigOk.E : Env := [((44, []), spec_l1In.s), ((80, []), spec_TypesOk.s)]
def spec_ConfigOk.G (k p : Nat) (avs : List AV) (H : List HE) : Option (Bool) := none
set_option maxRecDepth 100000 in
theorem spec_ConfigOk.eq (k : Nat) (a0_0 : Int) (a0_1 : Int) (a0_2 : Int) (a0_3 : List ByteArray) : fromTop Tryd.prog spec_ConfigOk.E k spec_ConfigOk.a (spec_ConfigOk.G k) 1000 (bodyOf Tryd.prog 42) [.agg [.v (.int .i64 a0_0), .v (.int .i64 a0_1), .v (.int .i64 a0_2), .con .str a0_3]] [] = spec_ConfigOk.f k a0_0 a0_1 a0_2 a0_3 := by kernel_rfl
theorem spec_ConfigOk.E_ok : EnvOk Tryd.prog spec_ConfigOk.E := ⟨⟨spec_l1In.sound, callable_of (by kernel_rfl)⟩, ⟨spec_TypesOk.sound, callable_of (by kernel_rfl)⟩, trivial⟩
theorem spec_ConfigOk.sound : Sound Tryd.prog 42 spec_ConfigOk.s := by
  refine func_sound (f := spec_ConfigOk.a) (G := spec_ConfigOk.G) (fn := Tryd.f42) (body := bodyOf Tryd.prog 42) 1000 (by kernel_rfl) spec_ConfigOk.E_ok Tryd.func42 (by kernel_rfl) (by kernel_rfl) (by kernel_rfl) (ptsOk_of (by kernel_rfl)) ?_ ?_ ?_ ?_
  · intro r H x h
    unfold spec_ConfigOk.a at h
    simp only at h
    split at h
    · cases h; rfl
    · cases h
  · intro q avs H; rfl
  · intro k q pt avs H x _ h; cases h
  · intro k avs H o h
    try dsimp only at h
    split at h
    · cases h; exact spec_ConfigOk.eq _ _ _ _ _
    · cases h

def spec_l6Map.a : FnA (Bool) := ⟨10, [.tmp 2], .bool, [], [], fun x H => match x, H with
  | .bs false r, [] => some r
  | _, _ => none⟩
def spec_l6Map.s : Spec := mkS [.val] (fun k avs H => match avs, H with
  | [.v (.string a0)], [] => some (spec_l6Map.f a0)
  | _, _ => none) (fun r => (.bs false r, []))
def spec_l6Map.E : Env := [((64, []), spec_l1Zeros.s)]
def spec_l6Map.G (k p : Nat) (avs : List AV) (H : List HE) : Option (Bool) := none
set_option maxRecDepth 100000 in
theorem spec_l6Map.eq (k : Nat) (a0 : ByteArray) : fromTop Tryd.prog spec_l6Map.E k spec_l6Map.a (spec_l6Map.G k) 1000 (bodyOf Tryd.prog 43) [.v (.string a0)] [] = spec_l6Map.f a0 := by kernel_rfl
theorem spec_l6Map.E_ok : EnvOk Tryd.prog spec_l6Map.E := ⟨⟨spec_l1Zeros.sound, callable_of (by kernel_rfl)⟩, trivial⟩
theorem spec_l6Map.sound : Sound Tryd.prog 43 spec_l6Map.s := by
  refine func_sound (f := spec_l6Map.a) (G := spec_l6Map.G) (fn := Tryd.f43) (body := bodyOf Tryd.prog 43) 1000 (by kernel_rfl) spec_l6Map.E_ok Tryd.func43 (by kernel_rfl) (by kernel_rfl) (by kernel_rfl) (ptsOk_of (by kernel_rfl)) ?_ ?_ ?_ ?_
  · intro r H x h
    unfold spec_l6Map.a at h
    simp only at h
    split at h
    · cases h; rfl
    · cases h
  · intro q avs H; rfl
  · intro k q pt avs H x _ h; cases h
  · intro k avs H o h
    try dsimp only at h
    split at h
    · cases h; exact spec_l6Map.eq _ _
    · cases h

def spec_l6Range.a : FnA (Bool) := ⟨22, [.tmp 6], .bool, [], [], fun x H => match x, H with
  | .bs false r, [] => some r
  | _, _ => none⟩
def spec_l6Range.s : Spec := mkS [.val, .val, .val] (fun k avs H => match avs, H with
  | [.v (.string a0), .v (.int .i64 a1), .v (.int .i64 a2)], [] => some (spec_l6Range.f a0 a1 a2)
  | _, _ => none) (fun r => (.bs false r, []))
def spec_l6Range.E : Env := [((43, []), spec_l6Map.s)]
def spec_l6Range.G (k p : Nat) (avs : List AV) (H : List HE) : Option (Bool) := none
set_option maxRecDepth 100000 in
theorem spec_l6Range.eq (k : Nat) (a0 : ByteArray) (a1 : Int) (a2 : Int) : fromTop Tryd.prog spec_l6Range.E k spec_l6Range.a (spec_l6Range.G k) 1000 (bodyOf Tryd.prog 122) [.v (.string a0), .v (.int .i64 a1), .v (.int .i64 a2)] [] = spec_l6Range.f a0 a1 a2 := by kernel_rfl
theorem spec_l6Range.E_ok : EnvOk Tryd.prog spec_l6Range.E := ⟨⟨spec_l6Map.sound, callable_of (by kernel_rfl)⟩, trivial⟩
theorem spec_l6Range.sound : Sound Tryd.prog 122 spec_l6Range.s := by
  refine func_sound (f := spec_l6Range.a) (G := spec_l6Range.G) (fn := Tryd.f122) (body := bodyOf Tryd.prog 122) 1000 (by kernel_rfl) spec_l6Range.E_ok Tryd.func122 (by kernel_rfl) (by kernel_rfl) (by kernel_rfl) (ptsOk_of (by kernel_rfl)) ?_ ?_ ?_ ?_
  · intro r H x h
    unfold spec_l6Range.a at h
    simp only at h
    split at h
    · cases h; rfl
    · cases h
  · intro q avs H; rfl
  · intro k q pt avs H x _ h; cases h
  · intro k avs H o h
    try dsimp only at h
    split at h
    · cases h; exact spec_l6Range.eq _ _ _ _
    · cases h

def spec_l6Bit.a : FnA (Bool) := ⟨15, [.tmp 4], .bool, [], [], fun x H => match x, H with
  | .bs false r, [] => some r
  | _, _ => none⟩
def spec_l6Bit.s : Spec := mkS [.val, .val] (fun k avs H => match avs, H with
  | [.v (.string a0), .v (.int .i64 a1)], [] => some (spec_l6Bit.f a0 a1)
  | _, _ => none) (fun r => (.bs false r, []))
def spec_l6Bit.E : Env := []
def spec_l6Bit.G (k p : Nat) (avs : List AV) (H : List HE) : Option (Bool) := none
set_option maxRecDepth 100000 in
theorem spec_l6Bit.eq (k : Nat) (a0 : ByteArray) (a1 : Int) : fromTop Tryd.prog spec_l6Bit.E k spec_l6Bit.a (spec_l6Bit.G k) 1000 (bodyOf Tryd.prog 143) [.v (.string a0), .v (.int .i64 a1)] [] = spec_l6Bit.f a0 a1 := by kernel_rfl
theorem spec_l6Bit.E_ok : EnvOk Tryd.prog spec_l6Bit.E := trivial
theorem spec_l6Bit.sound : Sound Tryd.prog 143 spec_l6Bit.s := by
  refine func_sound (f := spec_l6Bit.a) (G := spec_l6Bit.G) (fn := Tryd.f143) (body := bodyOf Tryd.prog 143) 1000 (by kernel_rfl) spec_l6Bit.E_ok Tryd.func143 (by kernel_rfl) (by kernel_rfl) (by kernel_rfl) (ptsOk_of (by kernel_rfl)) ?_ ?_ ?_ ?_
  · intro r H x h
    unfold spec_l6Bit.a at h
    simp only at h
    split at h
    · cases h; rfl
    · cases h
  · intro q avs H; rfl
  · intro k q pt avs H x _ h; cases h
  · intro k avs H o h
    try dsimp only at h
    split at h
    · cases h; exact spec_l6Bit.eq _ _ _
    · cases h

def spec_l6Free.a : FnA (Bool) := ⟨19, [.tmp 6], .bool, [], [⟨6, [0, 1, 2, 7], [.val, .val, .val, .val], []⟩], fun x H => match x, H with
  | .bs false r, [] => some r
  | _, _ => none⟩
def spec_l6Free.s : Spec := mkS [.val, .val, .val] (fun k avs H => match avs, H with
  | [.v (.string a0), .v (.int .i64 a1), .v (.int .i64 a2)], [] => some (spec_l6Free.f k a0 a1 a2)
  | _, _ => none) (fun r => (.bs false r, []))
def spec_l6Free.E : Env := [((143, []), spec_l6Bit.s)]
def spec_l6Free.G6 (k : Nat) (avs : List AV) (H : List HE) : Option (Bool) := match avs, H with
  | [.v (.string x0), .v (.int .i64 x1), .v (.int .i64 x2), .v (.int .i64 x7)], [] => spec_l6Free.p6 k x0 x1 x2 x7
  | _, _ => none
def spec_l6Free.G (k p : Nat) (avs : List AV) (H : List HE) : Option (Bool) := (pick1 6 (spec_l6Free.G6 k avs H) none p)
set_option maxRecDepth 100000 in
theorem spec_l6Free.eq (k : Nat) (a0 : ByteArray) (a1 : Int) (a2 : Int) : fromTop Tryd.prog spec_l6Free.E k spec_l6Free.a (spec_l6Free.G k) 1000 (bodyOf Tryd.prog 123) [.v (.string a0), .v (.int .i64 a1), .v (.int .i64 a2)] [] = spec_l6Free.f k a0 a1 a2 := by kernel_rfl
set_option maxRecDepth 100000 in
theorem spec_l6Free.eq6 (k : Nat) (x0 : ByteArray) (x1 : Int) (x2 : Int) (x7 : Int) : fromPt Tryd.prog spec_l6Free.E k spec_l6Free.a (spec_l6Free.G k) 1000 (bodyOf Tryd.prog 123) 6 [.v (.string x0), .v (.int .i64 x1), .v (.int .i64 x2), .v (.int .i64 x7)] [] = spec_l6Free.p6 (k + 1) x0 x1 x2 x7 := by kernel_rfl
theorem spec_l6Free.G6_0 {avs : List AV} {H : List HE} : spec_l6Free.G6 0 avs H = none := by unfold spec_l6Free.G6; split <;> rfl
theorem spec_l6Free.G6_s (k : Nat) {avs : List AV} {H : List HE} {x : Bool} (h : spec_l6Free.G6 (k + 1) avs H = some x) : fromPt Tryd.prog spec_l6Free.E k spec_l6Free.a (spec_l6Free.G k) 1000 (bodyOf Tryd.prog 123) 6 avs H = some x := by
  unfold spec_l6Free.G6 at h
  split at h
  · rw [← h]; exact spec_l6Free.eq6 _ _ _ _ _
  · cases h
theorem spec_l6Free.E_ok : EnvOk Tryd.prog spec_l6Free.E := ⟨⟨spec_l6Bit.sound, callable_of (by kernel_rfl)⟩, trivial⟩
theorem spec_l6Free.sound : Sound Tryd.prog 123 spec_l6Free.s := by
  refine func_sound (f := spec_l6Free.a) (G := spec_l6Free.G) (fn := Tryd.f123) (body := bodyOf Tryd.prog 123) 1000 (by kernel_rfl) spec_l6Free.E_ok Tryd.func123 (by kernel_rfl) (by kernel_rfl) (by kernel_rfl) (ptsOk_of (by kernel_rfl)) ?_ ?_ ?_ ?_
  · intro r H x h
    unfold spec_l6Free.a at h
    simp only at h
    split at h
    · cases h; rfl
    · cases h
  · exact fun q avs H => pick1_none spec_l6Free.G6_0 (rfl)
  · intro k q pt avs H x _ h
    rcases pick1_some h with ⟨rfl, h⟩ | h
    · exact spec_l6Free.G6_s _ h
    cases h
  · intro k avs H o h
    try dsimp only at h
    split at h
    · cases h; exact spec_l6Free.eq _ _ _ _
    · cases h

def spec_FindRun.a : FnA (Int) := ⟨33, [.tmp 8], .val, [], [⟨14, [0, 2, 3, 9], [.val, .val, .val, .val], []⟩], fun x H => match x, H with
  | .v (.int .i64 r), [] => some r
  | _, _ => none⟩
def spec_FindRun.s : Spec := mkS [.val, .val, .val, .val] (fun k avs H => match avs, H with
  | [.v (.string a0), .v (.int .i64 a1), .v (.int .i64 a2), .v (.int .i64 a3)], [] => some (spec_FindRun.f k a0 a1 a2 a3)
  | _, _ => none) (fun r => (.v (.int .i64 r), []))
def spec_FindRun.E : Env := [((122, []), spec_l6Range.s), ((44, []), spec_l1In.s), ((123, []), spec_l6Free.s)]
def spec_FindRun.G14 (k : Nat) (avs : List AV) (H : List HE) : Option (Int) := match avs, H with
  | [.v (.string x0), .v (.int .i64 x2), .v (.int .i64 x3), .v (.int .i64 x9)], [] => spec_FindRun.p14 k x0 x2 x3 x9
  | _, _ => none
def spec_FindRun.G (k p : Nat) (avs : List AV) (H : List HE) : Option (Int) := (pick1 14 (spec_FindRun.G14 k avs H) none p)
set_option maxRecDepth 100000 in
theorem spec_FindRun.eq (k : Nat) (a0 : ByteArray) (a1 : Int) (a2 : Int) (a3 : Int) : fromTop Tryd.prog spec_FindRun.E k spec_FindRun.a (spec_FindRun.G k) 1000 (bodyOf Tryd.prog 92) [.v (.string a0), .v (.int .i64 a1), .v (.int .i64 a2), .v (.int .i64 a3)] [] = spec_FindRun.f k a0 a1 a2 a3 := by kernel_rfl
set_option maxRecDepth 100000 in
theorem spec_FindRun.eq14 (k : Nat) (x0 : ByteArray) (x2 : Int) (x3 : Int) (x9 : Int) : fromPt Tryd.prog spec_FindRun.E k spec_FindRun.a (spec_FindRun.G k) 1000 (bodyOf Tryd.prog 92) 14 [.v (.string x0), .v (.int .i64 x2), .v (.int .i64 x3), .v (.int .i64 x9)] [] = spec_FindRun.p14 (k + 1) x0 x2 x3 x9 := by kernel_rfl
theorem spec_FindRun.G14_0 {avs : List AV} {H : List HE} : spec_FindRun.G14 0 avs H = none := by unfold spec_FindRun.G14; split <;> rfl
theorem spec_FindRun.G14_s (k : Nat) {avs : List AV} {H : List HE} {x : Int} (h : spec_FindRun.G14 (k + 1) avs H = some x) : fromPt Tryd.prog spec_FindRun.E k spec_FindRun.a (spec_FindRun.G k) 1000 (bodyOf Tryd.prog 92) 14 avs H = some x := by
  unfold spec_FindRun.G14 at h
  split at h
  · rw [← h]; exact spec_FindRun.eq14 _ _ _ _ _
  · cases h
theorem spec_FindRun.E_ok : EnvOk Tryd.prog spec_FindRun.E := ⟨⟨spec_l6Range.sound, callable_of (by kernel_rfl)⟩, ⟨spec_l1In.sound, callable_of (by kernel_rfl)⟩, ⟨spec_l6Free.sound, callable_of (by kernel_rfl)⟩, trivial⟩
theorem spec_FindRun.sound : Sound Tryd.prog 92 spec_FindRun.s := by
  refine func_sound (f := spec_FindRun.a) (G := spec_FindRun.G) (fn := Tryd.f92) (body := bodyOf Tryd.prog 92) 1000 (by kernel_rfl) spec_FindRun.E_ok Tryd.func92 (by kernel_rfl) (by kernel_rfl) (by kernel_rfl) (ptsOk_of (by kernel_rfl)) ?_ ?_ ?_ ?_
  · intro r H x h
    unfold spec_FindRun.a at h
    simp only at h
    split at h
    · cases h; rfl
    · cases h
  · exact fun q avs H => pick1_none spec_FindRun.G14_0 (rfl)
  · intro k q pt avs H x _ h
    rcases pick1_some h with ⟨rfl, h⟩ | h
    · exact spec_FindRun.G14_s _ h
    cases h
  · intro k avs H o h
    try dsimp only at h
    split at h
    · cases h; exact spec_FindRun.eq _ _ _ _ _
    · cases h

def spec_l6Turn.a : FnA (ByteArray) := ⟨32, [.tmp 6], .val, [], [⟨8, [1, 2, 7, 8], [.val, .val, .row 0 .bool, .val], []⟩], fun x H => match x, H with
  | .v (.string r), [] => some r
  | _, _ => none⟩
def spec_l6Turn.s : Spec := mkS [.val, .val, .val] (fun k avs H => match avs, H with
  | [.v (.string a0), .v (.int .i64 a1), .v (.int .i64 a2)], [] => some (spec_l6Turn.f k a0 a1 a2)
  | _, _ => none) (fun r => (.v (.string r), []))
def spec_l6Turn.E : Env := []
def spec_l6Turn.G8 (k : Nat) (avs : List AV) (H : List HE) : Option (ByteArray) := match avs, H with
  | [.v (.int .i64 x1), .v (.int .i64 x2), .own 0, .v (.int .i64 x8)], [.bts x7] => spec_l6Turn.p8 k x1 x2 x7 x8
  | _, _ => none
def spec_l6Turn.G (k p : Nat) (avs : List AV) (H : List HE) : Option (ByteArray) := (pick1 8 (spec_l6Turn.G8 k avs H) none p)
set_option maxRecDepth 100000 in
theorem spec_l6Turn.eq (k : Nat) (a0 : ByteArray) (a1 : Int) (a2 : Int) : fromTop Tryd.prog spec_l6Turn.E k spec_l6Turn.a (spec_l6Turn.G k) 1000 (bodyOf Tryd.prog 93) [.v (.string a0), .v (.int .i64 a1), .v (.int .i64 a2)] [] = spec_l6Turn.f k a0 a1 a2 := by kernel_rfl
set_option maxRecDepth 100000 in
theorem spec_l6Turn.eq8 (k : Nat) (x1 : Int) (x2 : Int) (x7 : List Int) (x8 : Int) : fromPt Tryd.prog spec_l6Turn.E k spec_l6Turn.a (spec_l6Turn.G k) 1000 (bodyOf Tryd.prog 93) 8 [.v (.int .i64 x1), .v (.int .i64 x2), .own 0, .v (.int .i64 x8)] [.bts x7] = spec_l6Turn.p8 (k + 1) x1 x2 x7 x8 := by kernel_rfl
theorem spec_l6Turn.G8_0 {avs : List AV} {H : List HE} : spec_l6Turn.G8 0 avs H = none := by unfold spec_l6Turn.G8; split <;> rfl
theorem spec_l6Turn.G8_s (k : Nat) {avs : List AV} {H : List HE} {x : ByteArray} (h : spec_l6Turn.G8 (k + 1) avs H = some x) : fromPt Tryd.prog spec_l6Turn.E k spec_l6Turn.a (spec_l6Turn.G k) 1000 (bodyOf Tryd.prog 93) 8 avs H = some x := by
  unfold spec_l6Turn.G8 at h
  split at h
  · rw [← h]; exact spec_l6Turn.eq8 _ _ _ _ _
  · cases h
theorem spec_l6Turn.E_ok : EnvOk Tryd.prog spec_l6Turn.E := trivial
theorem spec_l6Turn.sound : Sound Tryd.prog 93 spec_l6Turn.s := by
  refine func_sound (f := spec_l6Turn.a) (G := spec_l6Turn.G) (fn := Tryd.f93) (body := bodyOf Tryd.prog 93) 1000 (by kernel_rfl) spec_l6Turn.E_ok Tryd.func93 (by kernel_rfl) (by kernel_rfl) (by kernel_rfl) (ptsOk_of (by kernel_rfl)) ?_ ?_ ?_ ?_
  · intro r H x h
    unfold spec_l6Turn.a at h
    simp only at h
    split at h
    · cases h; rfl
    · cases h
  · exact fun q avs H => pick1_none spec_l6Turn.G8_0 (rfl)
  · intro k q pt avs H x _ h
    rcases pick1_some h with ⟨rfl, h⟩ | h
    · exact spec_l6Turn.G8_s _ h
    cases h
  · intro k avs H o h
    try dsimp only at h
    split at h
    · cases h; exact spec_l6Turn.eq _ _ _ _
    · cases h

def spec_l10Plan.a : FnA (List Int × ByteArray × Bool) := ⟨49, [.tmp 6, .tmp 7, .tmp 8], .tup [.row 2 (.int .i64), .val, .bool], [], [⟨8, [1, 2, 3, 9, 10], [.val, .con (.int .i64), .box [.val, .val, .val, .con .str], .row 2 (.int .i64), .val], []⟩], fun x H => match x, H with
  | .tup [.own 0, .v (.string r_1), .bs false r_2], [.row 2 (.int .i64) r_0] => some (r_0, r_1, r_2)
  | _, _ => none⟩
def spec_l10Plan.s : Spec := mkS [.agg [.val, .val, .val, .con .str], .val, .con (.int .i64)] (fun k avs H => match avs, H with
  | [.agg [.v (.int .i64 a0_0), .v (.int .i64 a0_1), .v (.int .i64 a0_2), .con .str a0_3], .v (.string a1), .con (.int .i64) a2], [] => some (spec_l10Plan.f k a0_0 a0_1 a0_2 a0_3 a1 a2)
  | _, _ => none) (fun r => (.tup [.own 0, .v (.string r.2.1), .bs false r.2.2], [.row 2 (.int .i64) r.1]))
def spec_l10Plan.E : Env := [((82, []), spec_RunOf.s), ((92, []), spec_FindRun.s), ((93, []), spec_l6Turn.s)]
def spec_l10Plan.G8 (k : Nat) (avs : List AV) (H : List HE) : Option (List Int × ByteArray × Bool) := match avs, H with
  | [.v (.string x1), .con (.int .i64) x2, .box 0 0, .own 1, .v (.int .i64 x10)], [.box [.v (.int .i64 x3_0), .v (.int .i64 x3_1), .v (.int .i64 x3_2), .con .str x3_3], .row 2 (.int .i64) x9] => spec_l10Plan.p8 k x1 x2 x3_0 x3_1 x3_2 x3_3 x9 x10
  | _, _ => none
def spec_l10Plan.G (k p : Nat) (avs : List AV) (H : List HE) : Option (List Int × ByteArray × Bool) := (pick1 8 (spec_l10Plan.G8 k avs H) none p)
set_option maxRecDepth 100000 in
theorem spec_l10Plan.eq (k : Nat) (a0_0 : Int) (a0_1 : Int) (a0_2 : Int) (a0_3 : List ByteArray) (a1 : ByteArray) (a2 : List Int) : fromTop Tryd.prog spec_l10Plan.E k spec_l10Plan.a (spec_l10Plan.G k) 1000 (bodyOf Tryd.prog 45) [.agg [.v (.int .i64 a0_0), .v (.int .i64 a0_1), .v (.int .i64 a0_2), .con .str a0_3], .v (.string a1), .con (.int .i64) a2] [] = spec_l10Plan.f k a0_0 a0_1 a0_2 a0_3 a1 a2 := by kernel_rfl
set_option maxRecDepth 100000 in
theorem spec_l10Plan.eq8 (k : Nat) (x1 : ByteArray) (x2 : List Int) (x3_0 : Int) (x3_1 : Int) (x3_2 : Int) (x3_3 : List ByteArray) (x9 : List Int) (x10 : Int) : fromPt Tryd.prog spec_l10Plan.E k spec_l10Plan.a (spec_l10Plan.G k) 1000 (bodyOf Tryd.prog 45) 8 [.v (.string x1), .con (.int .i64) x2, .box 0 0, .own 1, .v (.int .i64 x10)] [.box [.v (.int .i64 x3_0), .v (.int .i64 x3_1), .v (.int .i64 x3_2), .con .str x3_3], .row 2 (.int .i64) x9] = spec_l10Plan.p8 (k + 1) x1 x2 x3_0 x3_1 x3_2 x3_3 x9 x10 := by kernel_rfl
theorem spec_l10Plan.G8_0 {avs : List AV} {H : List HE} : spec_l10Plan.G8 0 avs H = none := by unfold spec_l10Plan.G8; split <;> rfl
theorem spec_l10Plan.G8_s (k : Nat) {avs : List AV} {H : List HE} {x : List Int × ByteArray × Bool} (h : spec_l10Plan.G8 (k + 1) avs H = some x) : fromPt Tryd.prog spec_l10Plan.E k spec_l10Plan.a (spec_l10Plan.G k) 1000 (bodyOf Tryd.prog 45) 8 avs H = some x := by
  unfold spec_l10Plan.G8 at h
  split at h
  · rw [← h]; exact spec_l10Plan.eq8 _ _ _ _ _ _ _ _ _
  · cases h
theorem spec_l10Plan.E_ok : EnvOk Tryd.prog spec_l10Plan.E := ⟨⟨spec_RunOf.sound, callable_of (by kernel_rfl)⟩, ⟨spec_FindRun.sound, callable_of (by kernel_rfl)⟩, ⟨spec_l6Turn.sound, callable_of (by kernel_rfl)⟩, trivial⟩
theorem spec_l10Plan.sound : Sound Tryd.prog 45 spec_l10Plan.s := by
  refine func_sound (f := spec_l10Plan.a) (G := spec_l10Plan.G) (fn := Tryd.f45) (body := bodyOf Tryd.prog 45) 1000 (by kernel_rfl) spec_l10Plan.E_ok Tryd.func45 (by kernel_rfl) (by kernel_rfl) (by kernel_rfl) (ptsOk_of (by kernel_rfl)) ?_ ?_ ?_ ?_
  · intro r H x h
    unfold spec_l10Plan.a at h
    simp only at h
    split at h
    · cases h; rfl
    · cases h
  · exact fun q avs H => pick1_none spec_l10Plan.G8_0 (rfl)
  · intro k q pt avs H x _ h
    rcases pick1_some h with ⟨rfl, h⟩ | h
    · exact spec_l10Plan.G8_s _ h
    cases h
  · intro k avs H o h
    try dsimp only at h
    split at h
    · cases h; exact spec_l10Plan.eq _ _ _ _ _ _ _
    · cases h

def spec_Planned.a : FnA (List Int × Bool) := ⟨51, [.tmp 6, .tmp 7], .tup [.row 2 (.int .i64), .bool], [], [⟨14, [1, 2, 3, 8], [.val, .con (.int .i64), .box [.val, .val, .val, .con .str], .val], []⟩], fun x H => match x, H with
  | .tup [.own 0, .bs false r_1], [.row 2 (.int .i64) r_0] => some (r_0, r_1)
  | _, _ => none⟩
def spec_Planned.s : Spec := mkS [.agg [.val, .val, .val, .con .str], .val, .con (.int .i64)] (fun k avs H => match avs, H with
  | [.agg [.v (.int .i64 a0_0), .v (.int .i64 a0_1), .v (.int .i64 a0_2), .con .str a0_3], .v (.string a1), .con (.int .i64) a2], [] => some (spec_Planned.f k a0_0 a0_1 a0_2 a0_3 a1 a2)
  | _, _ => none) (fun r => (.tup [.own 0, .bs false r.2], [.row 2 (.int .i64) r.1]))
def spec_Planned.E : Env := [((42, []), spec_ConfigOk.s), ((43, []), spec_l6Map.s), ((44, []), spec_l1In.s), ((45, []), spec_l10Plan.s)]
def spec_Planned.G14 (k : Nat) (avs : List AV) (H : List HE) : Option (List Int × Bool) := match avs, H with
  | [.v (.string x1), .con (.int .i64) x2, .box 0 0, .v (.int .i64 x8)], [.box [.v (.int .i64 x3_0), .v (.int .i64 x3_1), .v (.int .i64 x3_2), .con .str x3_3]] => spec_Planned.p14 k x1 x2 x3_0 x3_1 x3_2 x3_3 x8
  | _, _ => none
def spec_Planned.G (k p : Nat) (avs : List AV) (H : List HE) : Option (List Int × Bool) := (pick1 14 (spec_Planned.G14 k avs H) none p)
set_option maxRecDepth 100000 in
theorem spec_Planned.eq (k : Nat) (a0_0 : Int) (a0_1 : Int) (a0_2 : Int) (a0_3 : List ByteArray) (a1 : ByteArray) (a2 : List Int) : fromTop Tryd.prog spec_Planned.E k spec_Planned.a (spec_Planned.G k) 1000 (bodyOf Tryd.prog 9) [.agg [.v (.int .i64 a0_0), .v (.int .i64 a0_1), .v (.int .i64 a0_2), .con .str a0_3], .v (.string a1), .con (.int .i64) a2] [] = spec_Planned.f k a0_0 a0_1 a0_2 a0_3 a1 a2 := by kernel_rfl
set_option maxRecDepth 100000 in
theorem spec_Planned.eq14 (k : Nat) (x1 : ByteArray) (x2 : List Int) (x3_0 : Int) (x3_1 : Int) (x3_2 : Int) (x3_3 : List ByteArray) (x8 : Int) : fromPt Tryd.prog spec_Planned.E k spec_Planned.a (spec_Planned.G k) 1000 (bodyOf Tryd.prog 9) 14 [.v (.string x1), .con (.int .i64) x2, .box 0 0, .v (.int .i64 x8)] [.box [.v (.int .i64 x3_0), .v (.int .i64 x3_1), .v (.int .i64 x3_2), .con .str x3_3]] = spec_Planned.p14 (k + 1) x1 x2 x3_0 x3_1 x3_2 x3_3 x8 := by kernel_rfl
theorem spec_Planned.G14_0 {avs : List AV} {H : List HE} : spec_Planned.G14 0 avs H = none := by unfold spec_Planned.G14; split <;> rfl
theorem spec_Planned.G14_s (k : Nat) {avs : List AV} {H : List HE} {x : List Int × Bool} (h : spec_Planned.G14 (k + 1) avs H = some x) : fromPt Tryd.prog spec_Planned.E k spec_Planned.a (spec_Planned.G k) 1000 (bodyOf Tryd.prog 9) 14 avs H = some x := by
  unfold spec_Planned.G14 at h
  split at h
  · rw [← h]; exact spec_Planned.eq14 _ _ _ _ _ _ _ _
  · cases h
theorem spec_Planned.E_ok : EnvOk Tryd.prog spec_Planned.E := ⟨⟨spec_ConfigOk.sound, callable_of (by kernel_rfl)⟩, ⟨spec_l6Map.sound, callable_of (by kernel_rfl)⟩, ⟨spec_l1In.sound, callable_of (by kernel_rfl)⟩, ⟨spec_l10Plan.sound, callable_of (by kernel_rfl)⟩, trivial⟩
theorem spec_Planned.sound : Sound Tryd.prog 9 spec_Planned.s := by
  refine func_sound (f := spec_Planned.a) (G := spec_Planned.G) (fn := Tryd.f9) (body := bodyOf Tryd.prog 9) 1000 (by kernel_rfl) spec_Planned.E_ok Tryd.func9 (by kernel_rfl) (by kernel_rfl) (by kernel_rfl) (ptsOk_of (by kernel_rfl)) ?_ ?_ ?_ ?_
  · intro r H x h
    unfold spec_Planned.a at h
    simp only at h
    split at h
    · cases h; rfl
    · cases h
  · exact fun q avs H => pick1_none spec_Planned.G14_0 (rfl)
  · intro k q pt avs H x _ h
    rcases pick1_some h with ⟨rfl, h⟩ | h
    · exact spec_Planned.G14_s _ h
    cases h
  · intro k avs H o h
    try dsimp only at h
    split at h
    · cases h; exact spec_Planned.eq _ _ _ _ _ _ _
    · cases h

def impl_isRun.a : FnA (Bool) := ⟨38, [.tmp 8], .bool, [], [⟨14, [0, 1, 2, 3, 9], [.val, .val, .val, .bool, .val], []⟩], fun x H => match x, H with
  | .bs false r, [] => some r
  | _, _ => none⟩
def impl_isRun.s : Spec := mkS [.val, .val, .val, .bool] (fun k avs H => match avs, H with
  | [.v (.string a0), .v (.int .i64 a1), .v (.int .i64 a2), .bs false a3], [] => some (impl_isRun.f k a0 a1 a2 a3)
  | _, _ => none) (fun r => (.bs false r, []))
def impl_isRun.E : Env := [((48, []), impl_isMap.s), ((51, []), impl_within.s), ((108, []), impl_isTaken.s)]
def impl_isRun.G14 (k : Nat) (avs : List AV) (H : List HE) : Option (Bool) := match avs, H with
  | [.v (.string x0), .v (.int .i64 x1), .v (.int .i64 x2), .bs false x3, .v (.int .i64 x9)], [] => impl_isRun.p14 k x0 x1 x2 x3 x9
  | _, _ => none
def impl_isRun.G (k p : Nat) (avs : List AV) (H : List HE) : Option (Bool) := (pick1 14 (impl_isRun.G14 k avs H) none p)
set_option maxRecDepth 100000 in
theorem impl_isRun.eq (k : Nat) (a0 : ByteArray) (a1 : Int) (a2 : Int) (a3 : Bool) : fromTop Tryd.prog impl_isRun.E k impl_isRun.a (impl_isRun.G k) 1000 (bodyOf Tryd.prog 69) [.v (.string a0), .v (.int .i64 a1), .v (.int .i64 a2), .bs false a3] [] = impl_isRun.f k a0 a1 a2 a3 := by kernel_rfl
set_option maxRecDepth 100000 in
theorem impl_isRun.eq14 (k : Nat) (x0 : ByteArray) (x1 : Int) (x2 : Int) (x3 : Bool) (x9 : Int) : fromPt Tryd.prog impl_isRun.E k impl_isRun.a (impl_isRun.G k) 1000 (bodyOf Tryd.prog 69) 14 [.v (.string x0), .v (.int .i64 x1), .v (.int .i64 x2), .bs false x3, .v (.int .i64 x9)] [] = impl_isRun.p14 (k + 1) x0 x1 x2 x3 x9 := by kernel_rfl
theorem impl_isRun.G14_0 {avs : List AV} {H : List HE} : impl_isRun.G14 0 avs H = none := by unfold impl_isRun.G14; split <;> rfl
theorem impl_isRun.G14_s (k : Nat) {avs : List AV} {H : List HE} {x : Bool} (h : impl_isRun.G14 (k + 1) avs H = some x) : fromPt Tryd.prog impl_isRun.E k impl_isRun.a (impl_isRun.G k) 1000 (bodyOf Tryd.prog 69) 14 avs H = some x := by
  unfold impl_isRun.G14 at h
  split at h
  · rw [← h]; exact impl_isRun.eq14 _ _ _ _ _ _
  · cases h
theorem impl_isRun.E_ok : EnvOk Tryd.prog impl_isRun.E := ⟨⟨impl_isMap.sound, callable_of (by kernel_rfl)⟩, ⟨impl_within.sound, callable_of (by kernel_rfl)⟩, ⟨impl_isTaken.sound, callable_of (by kernel_rfl)⟩, trivial⟩
theorem impl_isRun.sound : Sound Tryd.prog 69 impl_isRun.s := by
  refine func_sound (f := impl_isRun.a) (G := impl_isRun.G) (fn := Tryd.f69) (body := bodyOf Tryd.prog 69) 1000 (by kernel_rfl) impl_isRun.E_ok Tryd.func69 (by kernel_rfl) (by kernel_rfl) (by kernel_rfl) (ptsOk_of (by kernel_rfl)) ?_ ?_ ?_ ?_
  · intro r H x h
    unfold impl_isRun.a at h
    simp only at h
    split at h
    · cases h; rfl
    · cases h
  · exact fun q avs H => pick1_none impl_isRun.G14_0 (rfl)
  · intro k q pt avs H x _ h
    rcases pick1_some h with ⟨rfl, h⟩ | h
    · exact impl_isRun.G14_s _ h
    cases h
  · intro k avs H o h
    try dsimp only at h
    split at h
    · cases h; exact impl_isRun.eq _ _ _ _ _
    · cases h

def impl_TakeRun.a : FnA (ByteArray × Bool) := ⟨17, [.tmp 6, .tmp 7], .tup [.val, .bool], [], [], fun x H => match x, H with
  | .tup [.v (.string r_0), .bs false r_1], [] => some (r_0, r_1)
  | _, _ => none⟩
def impl_TakeRun.s : Spec := mkS [.val, .val, .val] (fun k avs H => match avs, H with
  | [.v (.string a0), .v (.int .i64 a1), .v (.int .i64 a2)], [] => some (impl_TakeRun.f k a0 a1 a2)
  | _, _ => none) (fun r => (.tup [.v (.string r.1), .bs false r.2], []))
def impl_TakeRun.E : Env := [((69, []), impl_isRun.s), ((70, []), impl_changedMap.s)]
def impl_TakeRun.G (k p : Nat) (avs : List AV) (H : List HE) : Option (ByteArray × Bool) := none
set_option maxRecDepth 100000 in
theorem impl_TakeRun.eq (k : Nat) (a0 : ByteArray) (a1 : Int) (a2 : Int) : fromTop Tryd.prog impl_TakeRun.E k impl_TakeRun.a (impl_TakeRun.G k) 1000 (bodyOf Tryd.prog 25) [.v (.string a0), .v (.int .i64 a1), .v (.int .i64 a2)] [] = impl_TakeRun.f k a0 a1 a2 := by kernel_rfl
theorem impl_TakeRun.E_ok : EnvOk Tryd.prog impl_TakeRun.E := ⟨⟨impl_isRun.sound, callable_of (by kernel_rfl)⟩, ⟨impl_changedMap.sound, callable_of (by kernel_rfl)⟩, trivial⟩
theorem impl_TakeRun.sound : Sound Tryd.prog 25 impl_TakeRun.s := by
  refine func_sound (f := impl_TakeRun.a) (G := impl_TakeRun.G) (fn := Tryd.f25) (body := bodyOf Tryd.prog 25) 1000 (by kernel_rfl) impl_TakeRun.E_ok Tryd.func25 (by kernel_rfl) (by kernel_rfl) (by kernel_rfl) (ptsOk_of (by kernel_rfl)) ?_ ?_ ?_ ?_
  · intro r H x h
    unfold impl_TakeRun.a at h
    simp only at h
    split at h
    · cases h; rfl
    · cases h
  · intro q avs H; rfl
  · intro k q pt avs H x _ h; cases h
  · intro k avs H o h
    try dsimp only at h
    split at h
    · cases h; exact impl_TakeRun.eq _ _ _ _
    · cases h

def impl_FirstData.a : FnA (Int) := ⟨9, [.tmp 2], .val, [], [], fun x H => match x, H with
  | .v (.int .i64 r), [] => some r
  | _, _ => none⟩
def impl_FirstData.s : Spec := mkS [.agg [.val, .val, .val, .con .str]] (fun k avs H => match avs, H with
  | [.agg [.v (.int .i64 a0_0), .v (.int .i64 a0_1), .v (.int .i64 a0_2), .con .str a0_3]], [] => some (impl_FirstData.f k a0_0 a0_1 a0_2 a0_3)
  | _, _ => none) (fun r => (.v (.int .i64 r), []))
def impl_FirstData.E : Env := [((47, []), impl_ConfigOk.s)]
def impl_FirstData.G (k p : Nat) (avs : List AV) (H : List HE) : Option (Int) := none
set_option maxRecDepth 100000 in
theorem impl_FirstData.eq (k : Nat) (a0_0 : Int) (a0_1 : Int) (a0_2 : Int) (a0_3 : List ByteArray) : fromTop Tryd.prog impl_FirstData.E k impl_FirstData.a (impl_FirstData.G k) 1000 (bodyOf Tryd.prog 26) [.agg [.v (.int .i64 a0_0), .v (.int .i64 a0_1), .v (.int .i64 a0_2), .con .str a0_3]] [] = impl_FirstData.f k a0_0 a0_1 a0_2 a0_3 := by kernel_rfl
theorem impl_FirstData.E_ok : EnvOk Tryd.prog impl_FirstData.E := ⟨⟨impl_ConfigOk.sound, callable_of (by kernel_rfl)⟩, trivial⟩
theorem impl_FirstData.sound : Sound Tryd.prog 26 impl_FirstData.s := by
  refine func_sound (f := impl_FirstData.a) (G := impl_FirstData.G) (fn := Tryd.f26) (body := bodyOf Tryd.prog 26) 1000 (by kernel_rfl) impl_FirstData.E_ok Tryd.func26 (by kernel_rfl) (by kernel_rfl) (by kernel_rfl) (ptsOk_of (by kernel_rfl)) ?_ ?_ ?_ ?_
  · intro r H x h
    unfold impl_FirstData.a at h
    simp only at h
    split at h
    · cases h; rfl
    · cases h
  · intro q avs H; rfl
  · intro k q pt avs H x _ h; cases h
  · intro k avs H o h
    try dsimp only at h
    split at h
    · cases h; exact impl_FirstData.eq _ _ _ _ _
    · cases h

def laws_FnPlanned.a : FnA (Bool) := ⟨123, [.tmp 2], .bool, [], [⟨28, [3, 4, 5, 6, 10], [.box [.val, .val, .val, .row 9 .str], .val, .row 2 (.int .i64), .row 2 (.int .i64), .val], []⟩], fun x H => match x, H with
  | .bs false r, [] => some r
  | _, _ => none⟩
def laws_FnPlanned.s : Spec := mkS [.con (.int .u8)] (fun k avs H => match avs, H with
  | [.con (.int .u8) a0], [] => some (laws_FnPlanned.f k a0)
  | _, _ => none) (fun r => (.bs false r, []))
def laws_FnPlanned.E : Env := [((21, []), laws_big.s), ((22, []), spec_DrawPlanned.s), ((12, []), impl_Planned.s), ((9, []), spec_Planned.s), ((23, []), laws_sameInts.s), ((24, []), impl_RunOf.s), ((25, []), impl_TakeRun.s), ((26, []), impl_FirstData.s)]
def laws_FnPlanned.G28 (k : Nat) (avs : List AV) (H : List HE) : Option (Bool) := match avs, H with
  | [.box 0 0, .v (.string x4), .own 2, .own 3, .v (.int .i64 x10)], [.box [.v (.int .i64 x3_0), .v (.int .i64 x3_1), .v (.int .i64 x3_2), .own 1], .row 9 .str x3_3, .row 2 (.int .i64) x5, .row 2 (.int .i64) x6] => laws_FnPlanned.p28 k x3_0 x3_1 x3_2 x3_3 x4 x5 x6 x10
  | _, _ => none
def laws_FnPlanned.G (k p : Nat) (avs : List AV) (H : List HE) : Option (Bool) := (pick1 28 (laws_FnPlanned.G28 k avs H) none p)
set_option maxRecDepth 100000 in
theorem laws_FnPlanned.eq (k : Nat) (a0 : List Int) : fromTop Tryd.prog laws_FnPlanned.E k laws_FnPlanned.a (laws_FnPlanned.G k) 1000 (bodyOf Tryd.prog 5) [.con (.int .u8) a0] [] = laws_FnPlanned.f k a0 := by kernel_rfl
set_option maxRecDepth 100000 in
theorem laws_FnPlanned.eq28 (k : Nat) (x3_0 : Int) (x3_1 : Int) (x3_2 : Int) (x3_3 : List ByteArray) (x4 : ByteArray) (x5 : List Int) (x6 : List Int) (x10 : Int) : fromPt Tryd.prog laws_FnPlanned.E k laws_FnPlanned.a (laws_FnPlanned.G k) 1000 (bodyOf Tryd.prog 5) 28 [.box 0 0, .v (.string x4), .own 2, .own 3, .v (.int .i64 x10)] [.box [.v (.int .i64 x3_0), .v (.int .i64 x3_1), .v (.int .i64 x3_2), .own 1], .row 9 .str x3_3, .row 2 (.int .i64) x5, .row 2 (.int .i64) x6] = laws_FnPlanned.p28 (k + 1) x3_0 x3_1 x3_2 x3_3 x4 x5 x6 x10 := by kernel_rfl
theorem laws_FnPlanned.G28_0 {avs : List AV} {H : List HE} : laws_FnPlanned.G28 0 avs H = none := by unfold laws_FnPlanned.G28; split <;> rfl
theorem laws_FnPlanned.G28_s (k : Nat) {avs : List AV} {H : List HE} {x : Bool} (h : laws_FnPlanned.G28 (k + 1) avs H = some x) : fromPt Tryd.prog laws_FnPlanned.E k laws_FnPlanned.a (laws_FnPlanned.G k) 1000 (bodyOf Tryd.prog 5) 28 avs H = some x := by
  unfold laws_FnPlanned.G28 at h
  split at h
  · rw [← h]; exact laws_FnPlanned.eq28 _ _ _ _ _ _ _ _ _
  · cases h
theorem laws_FnPlanned.E_ok : EnvOk Tryd.prog laws_FnPlanned.E := ⟨⟨laws_big.sound, callable_of (by kernel_rfl)⟩, ⟨spec_DrawPlanned.sound, callable_of (by kernel_rfl)⟩, ⟨impl_Planned.sound, callable_of (by kernel_rfl)⟩, ⟨spec_Planned.sound, callable_of (by kernel_rfl)⟩, ⟨laws_sameInts.sound, callable_of (by kernel_rfl)⟩, ⟨impl_RunOf.sound, callable_of (by kernel_rfl)⟩, ⟨impl_TakeRun.sound, callable_of (by kernel_rfl)⟩, ⟨impl_FirstData.sound, callable_of (by kernel_rfl)⟩, trivial⟩
theorem laws_FnPlanned.sound : Sound Tryd.prog 5 laws_FnPlanned.s := by
  refine func_sound (f := laws_FnPlanned.a) (G := laws_FnPlanned.G) (fn := Tryd.f5) (body := bodyOf Tryd.prog 5) 1000 (by kernel_rfl) laws_FnPlanned.E_ok Tryd.func5 (by kernel_rfl) (by kernel_rfl) (by kernel_rfl) (ptsOk_of (by kernel_rfl)) ?_ ?_ ?_ ?_
  · intro r H x h
    unfold laws_FnPlanned.a at h
    simp only at h
    split at h
    · cases h; rfl
    · cases h
  · exact fun q avs H => pick1_none laws_FnPlanned.G28_0 (rfl)
  · intro k q pt avs H x _ h
    rcases pick1_some h with ⟨rfl, h⟩ | h
    · exact laws_FnPlanned.G28_s _ h
    cases h
  · intro k avs H o h
    try dsimp only at h
    split at h
    · cases h; exact laws_FnPlanned.eq _ _
    · cases h
end
end Go.Proofs.YtlljkankongifaaDoor.Abs
namespace Go.Proofs.YtlljkankongifaaDoor.fnPlanned
open Go.ChangeShapes Go.WideShapes Go.ChangeAt Go.RowKit
open Go.ChangeMaps (open_string shut_string)
set_option linter.unusedVariables false
theorem own : ownKnob Tryd.prog.godebug = none := by kernel_rfl
theorem laidOut : laidOutB Tryd.prog = true := by kernel_rfl
set_option maxRecDepth 100000 in
theorem lifted (os : Os) (started : os.Started) (H : Type) (enc : TypeId × Value → H) :
    ReturnsInHanded {} Tryd.checked os 5 .any (fun w args => (Rows.fnPlannedSpec.pre enc Tryd.prog Tryd.f5 Rows.fnPlannedRow.domain false w args ∧ laidMetH Tryd.prog Rows.fnPlannedRow.laid w) ∧ sizedMet enc Tryd.prog Tryd.f5 (OpenSpec.ofChange Rows.fnPlannedSpec) false w args) (Rows.fnPlannedSpec.post enc Tryd.prog Tryd.f5 false true false false) := by
  refine returnsInHanded_of_change_and (C := Tryd.checked) (X := fun w _ => laidMetH Tryd.prog Rows.fnPlannedRow.laid w) (fun _ _ _ hh h => h.of_heap hh) own started (by kernel_rfl) Tryd.func5
    (ChangeSpec.witness_shaped (enc := enc) (C := Tryd.checked) (os := os) (X := fun w _ => laidMetH Tryd.prog Rows.fnPlannedRow.laid w) false (World.laidAll Tryd.prog os Rows.fnPlannedRow.laid) #[.slice none 0 0] 8 (World.laidAll_os _ _ _)
      (World.shaped_of_ZipB (by kernel_rfl) (by kernel_rfl)) (by kernel_rfl) (by kernel_rfl) (by kernel_rfl)
      (by rw [MakeChecks.laidMetH_plain _ _ _ (by kernel_rfl)]; exact laidMet_laidAll _ (by kernel_rfl) (by kernel_rfl))) ?_
  intro W base args ds gs before hval0 hW hcnd hsz0 _ _
  have hval : ∀ (j : Nat) t v, Tryd.f5.params[j]? = some t → args[j]? = some v → Value.okWide Tryd.prog W .any base t v := hval0
  have hW' := hW
  obtain ⟨p, q, hA0, hV, rfl, hfz, hnd⟩ := hW
  have hA : DataW.TrodAll enc Tryd.prog W 0 (fun _ => true) true Tryd.f5.params.toList args.toList ds p := hA0
  rw [Tryd.params5] at hA hval
  obtain ⟨v0, vs0, d0, ds0, p0, q0, hargs, rfl, rfl, h0, r0⟩ := trodAll_cons hA
  obtain ⟨rfl, rfl, rfl⟩ := trodAll_nil r0
  obtain rfl : args = #[v0] := by cases args; simp_all
  obtain ⟨rfl, rfl⟩ := trodVars_none hV
  have hc0 := Abs.okWide_cell (by kernel_rfl) (hval 0 40 v0 rfl rfl)
  have k0 := h0
  have lt0 : ∀ x ∈ p0, x.block < W.heap.size := by obtain ⟨m, hm⟩ := k0; exact DataW.trod_lt m _ _ _ hm
  obtain ⟨fuel0, hf0⟩ := h0
  obtain ⟨x0, kr0, ok0⟩ := Abs.opens (M := Abs.Mut (fun _ => False) (Abs.hpOf []) (fun _ => undef)) (Abs.not_mut _) 9 40 (.sl (.int .u8)) (by kernel_rfl) _ _ _ hf0
  clear hA0 hval0 hsz0
  obtain ⟨k, hP⟩ := Abs.Pu.FnPlanned x0 ok0
  refine (Abs.law_calls Abs.laws_FnPlanned.sound (k := k) (avs := [Abs.argAV false (Abs.Ty.cells (.sl (.int .u8)) x0)]) (c := ⟨Bool, Abs.laws_FnPlanned.f k x0, fun r => (.bs false r, [])⟩) (x := true) (Abs.mkS_pat rfl) hP rfl (w := W) (vals := [v0]) ⟨_, _, rfl, Abs.arg_cell (t := (.sl (.int .u8))) hc0 kr0 rfl, rfl⟩).mono fun e W' ⟨he, bel⟩ => ?_
  subst he
  exact ⟨_, rfl, _, _, _, [], _, [], hW', trodAll_mk1 (shut_bool Tryd.underlying4 _), (trodAll_cons_mk (Below.trod laidOut (by kernel_rfl) (of_decide_eq_true (by kernel_rfl)) k0 bel lt0) trodAll_mk0), rfl, bel.frame _, fun h => by cases h⟩
theorem over : Rows.fnPlannedRow.holds Tryd.pinned (OpenSpec.ofChange Rows.fnPlannedSpec) :=
  OpenClaim.holds_of_wide 5 Tryd.f5 rfl rfl rfl rfl rfl rfl rfl ⟨rfl, rfl, rfl, rfl, rfl⟩ rfl rfl rfl rfl rfl (by kernel_rfl) Tryd.func5 (by kernel_rfl)
    (of_decide_eq_true (by kernel_rfl)) (by unfold Func.isWrapper; first | (rw [if_pos (by decide +kernel)]; kernel_rfl) | (rw [if_neg (by decide +kernel)]; exact ⟨rfl, rfl⟩))
    (fun os started H enc _ => lifted os started H enc)
theorem card : Rows.FnPlannedCardSaid :=
  Claim7.holds_tied_plain_at .later [] [.data, .pinned] true (true, "5c9c8638f52ddb40789210e5af19a3c2dcf634a80b32d20bd8a867a5a70a375e") false over (fun _ h => by cases h) (by kernel_rfl) (fun _ h => by cases h) fnPlanned_row_tie rfl ⟨rfl, rfl⟩ (by kernel_rfl) rfl
    (fun f fn hf hfn => by
      obtain rfl : f = 5 := Option.some.inj ((show Tryd.prog.funcNamed "loop.example/g00648/laws.FnPlanned" = some 5 by kernel_rfl).symm.trans hf) |>.symm
      obtain rfl : fn = Tryd.f5 := (Option.some.inj (Tryd.func5.symm.trans hfn)).symm
      exact ⟨by kernel_rfl, fun j t ht => by
        rw [Tryd.params5] at ht
        have hm : t ∈ [40] := by
          have hm_ := Array.mem_of_getElem? ht
          simpa using hm_
        have hall : ([40].all fun u => !Tryd.prog.wantsStandIn u) = true := by kernel_rfl
        exact (show Tryd.prog.wantsStandIn t = false by simpa using List.all_eq_true.1 hall t hm)⟩)
    (by kernel_rfl)
#print axioms card
end Go.Proofs.YtlljkankongifaaDoor.fnPlanned
namespace Go.Proofs.YtlljkankongifaaDoor
/-- The row, under a short name, for the claim. -/
theorem fnPlanned_holds : Rows.FnPlannedCardSaid := fnPlanned.card
end Go.Proofs.YtlljkankongifaaDoor
