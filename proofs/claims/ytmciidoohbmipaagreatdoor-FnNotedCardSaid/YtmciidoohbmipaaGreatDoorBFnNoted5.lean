/- They are sound. (Merged out of this claim's own texts.) -/
import Derived.Test.YtmciidoohbmipaaGreatDoorBFnNoted4
import Derived.Shelf.Strings.SlTrimAscii
import Derived.Laws.Externs
import Derived.Laws.IdiomCopy
import Derived.Shelf.RegionOpenPlain
import Derived.Lib.Repeat
import Derived.Deep.RegionHeld3
import Derived.Deep.LoopGhost
import Derived.Lib.Hide
import Derived.Lib.AppendZeros
import Derived.Lib.Overlaps
import Derived.Test.YtmciidoohbmipaaGreatDoorProg
namespace Go.Proofs.YtmciidoohbmipaaGreatDoor.Abs
open Go Go.RowKit
set_option linter.unusedVariables false
set_option linter.unusedSectionVars false
set_option linter.unusedSimpArgs false
noncomputable section
def laws_big.a : FnA (Bool) := ⟨6, [.tmp 2], .bool, [], [], fun x H => match x, H with
  | .bs false r, [] => some r
  | _, _ => none⟩
def laws_big.s : Spec := mkS [.con (.int .u8)] (fun k avs H => match avs, H with
  | [.con (.int .u8) a0], [] => some (laws_big.f a0)
  | _, _ => none) (fun r => (.bs false r, []))
def laws_big.E : Env := []
def laws_big.G (k p : Nat) (avs : List AV) (H : List HE) : Option (Bool) := none
set_option maxRecDepth 100000 in
theorem laws_big.eq (k : Nat) (a0 : List Int) : fromTop Tryz.prog laws_big.E k laws_big.a (laws_big.G k) 1000 (bodyOf Tryz.prog 7) [.con (.int .u8) a0] [] = laws_big.f a0 := by kernel_rfl
theorem laws_big.E_ok : EnvOk Tryz.prog laws_big.E := trivial
theorem laws_big.sound : Sound Tryz.prog 7 laws_big.s := by
  refine func_sound (f := laws_big.a) (G := laws_big.G) (fn := Tryz.f7) (body := bodyOf Tryz.prog 7) 1000 (by kernel_rfl) laws_big.E_ok Tryz.func7 (by kernel_rfl) (by kernel_rfl) (by kernel_rfl) (ptsOk_of (by kernel_rfl)) ?_ ?_ ?_ ?_
  · intro r H x h
    unfold laws_big.a at h
    simp only at h
    split at h
    · cases h; rfl
    · cases h
  · intro q avs H; rfl
  · intro k q pt avs H x _ h; cases h
  · intro k avs H o h
    try dsimp only at h
    split at h
    · cases h; exact laws_big.eq _ _
    · cases h

def spec_l1Open.a : FnA (List Int × Int) := ⟨6, [.tmp 2], .box [.con (.int .u8), .val], [], [], fun x H => match x, H with
  | .box 0 0, [.box [.con (.int .u8) r_0, .v (.int .i64 r_1)]] => some (r_0, r_1)
  | _, _ => none⟩
def spec_l1Open.s : Spec := mkS [.con (.int .u8)] (fun k avs H => match avs, H with
  | [.con (.int .u8) a0], [] => some (spec_l1Open.f a0)
  | _, _ => none) (fun r => (.box 0 0, [.box [.con (.int .u8) r.1, .v (.int .i64 r.2)]]))
def spec_l1Open.E : Env := []
def spec_l1Open.G (k p : Nat) (avs : List AV) (H : List HE) : Option (List Int × Int) := none
set_option maxRecDepth 100000 in
theorem spec_l1Open.eq (k : Nat) (a0 : List Int) : fromTop Tryz.prog spec_l1Open.E k spec_l1Open.a (spec_l1Open.G k) 1000 (bodyOf Tryz.prog 39) [.con (.int .u8) a0] [] = spec_l1Open.f a0 := by kernel_rfl
theorem spec_l1Open.E_ok : EnvOk Tryz.prog spec_l1Open.E := trivial
theorem spec_l1Open.sound : Sound Tryz.prog 39 spec_l1Open.s := by
  refine func_sound (f := spec_l1Open.a) (G := spec_l1Open.G) (fn := Tryz.f39) (body := bodyOf Tryz.prog 39) 1000 (by kernel_rfl) spec_l1Open.E_ok Tryz.func39 (by kernel_rfl) (by kernel_rfl) (by kernel_rfl) (ptsOk_of (by kernel_rfl)) ?_ ?_ ?_ ?_
  · intro r H x h
    unfold spec_l1Open.a at h
    simp only at h
    split at h
    · cases h; rfl
    · cases h
  · intro q avs H; rfl
  · intro k q pt avs H x _ h; cases h
  · intro k avs H o h
    try dsimp only at h
    split at h
    · cases h; exact spec_l1Open.eq _ _
    · cases h

def spec_l1Rd_next.a : FnA (List Int × Int × Int) := ⟨32, [.tmp 2], .val, [.box [.con (.int .u8), .val]], [], fun x H => match x, H with
  | .v (.int .i64 r), [.box [.con (.int .u8) h0_0, .v (.int .i64 h0_1)]] => some (h0_0, h0_1, r)
  | _, _ => none⟩
def spec_l1Rd_next.s : Spec := mkS [.box [.con (.int .u8), .val]] (fun k avs H => match avs, H with
  | [.box 0 0], [.box [.con (.int .u8) a0_0, .v (.int .i64 a0_1)]] => some (spec_l1Rd_next.f a0_0 a0_1)
  | _, _ => none) (fun r => (.v (.int .i64 r.2.2), [.box [.con (.int .u8) r.1, .v (.int .i64 r.2.1)]]))
def spec_l1Rd_next.E : Env := []
def spec_l1Rd_next.G (k p : Nat) (avs : List AV) (H : List HE) : Option (List Int × Int × Int) := none
set_option maxRecDepth 100000 in
theorem spec_l1Rd_next.eq (k : Nat) (a0_0 : List Int) (a0_1 : Int) : fromTop Tryz.prog spec_l1Rd_next.E k spec_l1Rd_next.a (spec_l1Rd_next.G k) 1000 (bodyOf Tryz.prog 104) [.box 0 0] [.box [.con (.int .u8) a0_0, .v (.int .i64 a0_1)]] = spec_l1Rd_next.f a0_0 a0_1 := by kernel_rfl
theorem spec_l1Rd_next.E_ok : EnvOk Tryz.prog spec_l1Rd_next.E := trivial
theorem spec_l1Rd_next.sound : Sound Tryz.prog 104 spec_l1Rd_next.s := by
  refine func_sound (f := spec_l1Rd_next.a) (G := spec_l1Rd_next.G) (fn := Tryz.f104) (body := bodyOf Tryz.prog 104) 1000 (by kernel_rfl) spec_l1Rd_next.E_ok Tryz.func104 (by kernel_rfl) (by kernel_rfl) (by kernel_rfl) (ptsOk_of (by kernel_rfl)) ?_ ?_ ?_ ?_
  · intro r H x h
    unfold spec_l1Rd_next.a at h
    simp only at h
    split at h
    · cases h; rfl
    · cases h
  · intro q avs H; rfl
  · intro k q pt avs H x _ h; cases h
  · intro k avs H o h
    try dsimp only at h
    split at h
    · cases h; exact spec_l1Rd_next.eq _ _ _
    · cases h

def spec_l1Rd_below.a : FnA (List Int × Int × Int) := ⟨24, [.tmp 4], .val, [.box [.con (.int .u8), .val]], [], fun x H => match x, H with
  | .v (.int .i64 r), [.box [.con (.int .u8) h0_0, .v (.int .i64 h0_1)]] => some (h0_0, h0_1, r)
  | _, _ => none⟩
def spec_l1Rd_below.s : Spec := mkS [.box [.con (.int .u8), .val], .val] (fun k avs H => match avs, H with
  | [.box 0 0, .v (.int .i64 a1)], [.box [.con (.int .u8) a0_0, .v (.int .i64 a0_1)]] => some (spec_l1Rd_below.f a0_0 a0_1 a1)
  | _, _ => none) (fun r => (.v (.int .i64 r.2.2), [.box [.con (.int .u8) r.1, .v (.int .i64 r.2.1)]]))
def spec_l1Rd_below.E : Env := [((104, []), spec_l1Rd_next.s)]
def spec_l1Rd_below.G (k p : Nat) (avs : List AV) (H : List HE) : Option (List Int × Int × Int) := none
set_option maxRecDepth 100000 in
theorem spec_l1Rd_below.eq (k : Nat) (a0_0 : List Int) (a0_1 : Int) (a1 : Int) : fromTop Tryz.prog spec_l1Rd_below.E k spec_l1Rd_below.a (spec_l1Rd_below.G k) 1000 (bodyOf Tryz.prog 46) [.box 0 0, .v (.int .i64 a1)] [.box [.con (.int .u8) a0_0, .v (.int .i64 a0_1)]] = spec_l1Rd_below.f a0_0 a0_1 a1 := by kernel_rfl
theorem spec_l1Rd_below.E_ok : EnvOk Tryz.prog spec_l1Rd_below.E := ⟨⟨spec_l1Rd_next.sound, callable_of (by kernel_rfl)⟩, trivial⟩
theorem spec_l1Rd_below.sound : Sound Tryz.prog 46 spec_l1Rd_below.s := by
  refine func_sound (f := spec_l1Rd_below.a) (G := spec_l1Rd_below.G) (fn := Tryz.f46) (body := bodyOf Tryz.prog 46) 1000 (by kernel_rfl) spec_l1Rd_below.E_ok Tryz.func46 (by kernel_rfl) (by kernel_rfl) (by kernel_rfl) (ptsOk_of (by kernel_rfl)) ?_ ?_ ?_ ?_
  · intro r H x h
    unfold spec_l1Rd_below.a at h
    simp only at h
    split at h
    · cases h; rfl
    · cases h
  · intro q avs H; rfl
  · intro k q pt avs H x _ h; cases h
  · intro k avs H o h
    try dsimp only at h
    split at h
    · cases h; exact spec_l1Rd_below.eq _ _ _ _
    · cases h

def spec_l1Rd_once.a : FnA (List Int × Int × Bool) := ⟨11, [.tmp 4], .bool, [.box [.con (.int .u8), .val]], [], fun x H => match x, H with
  | .bs false r, [.box [.con (.int .u8) h0_0, .v (.int .i64 h0_1)]] => some (h0_0, h0_1, r)
  | _, _ => none⟩
def spec_l1Rd_once.s : Spec := mkS [.box [.con (.int .u8), .val], .val] (fun k avs H => match avs, H with
  | [.box 0 0, .v (.int .i64 a1)], [.box [.con (.int .u8) a0_0, .v (.int .i64 a0_1)]] => some (spec_l1Rd_once.f a0_0 a0_1 a1)
  | _, _ => none) (fun r => (.bs false r.2.2, [.box [.con (.int .u8) r.1, .v (.int .i64 r.2.1)]]))
def spec_l1Rd_once.E : Env := [((46, []), spec_l1Rd_below.s)]
def spec_l1Rd_once.G (k p : Nat) (avs : List AV) (H : List HE) : Option (List Int × Int × Bool) := none
set_option maxRecDepth 100000 in
theorem spec_l1Rd_once.eq (k : Nat) (a0_0 : List Int) (a0_1 : Int) (a1 : Int) : fromTop Tryz.prog spec_l1Rd_once.E k spec_l1Rd_once.a (spec_l1Rd_once.G k) 1000 (bodyOf Tryz.prog 42) [.box 0 0, .v (.int .i64 a1)] [.box [.con (.int .u8) a0_0, .v (.int .i64 a0_1)]] = spec_l1Rd_once.f a0_0 a0_1 a1 := by kernel_rfl
theorem spec_l1Rd_once.E_ok : EnvOk Tryz.prog spec_l1Rd_once.E := ⟨⟨spec_l1Rd_below.sound, callable_of (by kernel_rfl)⟩, trivial⟩
theorem spec_l1Rd_once.sound : Sound Tryz.prog 42 spec_l1Rd_once.s := by
  refine func_sound (f := spec_l1Rd_once.a) (G := spec_l1Rd_once.G) (fn := Tryz.f42) (body := bodyOf Tryz.prog 42) 1000 (by kernel_rfl) spec_l1Rd_once.E_ok Tryz.func42 (by kernel_rfl) (by kernel_rfl) (by kernel_rfl) (ptsOk_of (by kernel_rfl)) ?_ ?_ ?_ ?_
  · intro r H x h
    unfold spec_l1Rd_once.a at h
    simp only at h
    split at h
    · cases h; rfl
    · cases h
  · intro q avs H; rfl
  · intro k q pt avs H x _ h; cases h
  · intro k avs H o h
    try dsimp only at h
    split at h
    · cases h; exact spec_l1Rd_once.eq _ _ _ _
    · cases h

def spec_l1Rd_kinds.a : FnA (List Int × Int × ByteArray) := ⟨23, [.tmp 4], .val, [.box [.con (.int .u8), .val]], [⟨8, [0, 5, 6], [.box [], .val, .val], [.box [.con (.int .u8), .val]]⟩], fun x H => match x, H with
  | .v (.string r), [.box [.con (.int .u8) h0_0, .v (.int .i64 h0_1)]] => some (h0_0, h0_1, r)
  | _, _ => none⟩
def spec_l1Rd_kinds.s : Spec := mkS [.box [.con (.int .u8), .val], .val] (fun k avs H => match avs, H with
  | [.box 0 0, .v (.int .i64 a1)], [.box [.con (.int .u8) a0_0, .v (.int .i64 a0_1)]] => some (spec_l1Rd_kinds.f k a0_0 a0_1 a1)
  | _, _ => none) (fun r => (.v (.string r.2.2), [.box [.con (.int .u8) r.1, .v (.int .i64 r.2.1)]]))
def spec_l1Rd_kinds.E : Env := [((46, []), spec_l1Rd_below.s)]
def spec_l1Rd_kinds.G8 (k : Nat) (avs : List AV) (H : List HE) : Option (List Int × Int × ByteArray) := match avs, H with
  | [.box 0 0, .v (.string x5), .v (.int .i64 x6)], [.box [.con (.int .u8) h0_0, .v (.int .i64 h0_1)]] => spec_l1Rd_kinds.p8 k h0_0 h0_1 x5 x6
  | _, _ => none
def spec_l1Rd_kinds.G (k p : Nat) (avs : List AV) (H : List HE) : Option (List Int × Int × ByteArray) := (pick1 8 (spec_l1Rd_kinds.G8 k avs H) none p)
set_option maxRecDepth 100000 in
theorem spec_l1Rd_kinds.eq (k : Nat) (a0_0 : List Int) (a0_1 : Int) (a1 : Int) : fromTop Tryz.prog spec_l1Rd_kinds.E k spec_l1Rd_kinds.a (spec_l1Rd_kinds.G k) 1000 (bodyOf Tryz.prog 138) [.box 0 0, .v (.int .i64 a1)] [.box [.con (.int .u8) a0_0, .v (.int .i64 a0_1)]] = spec_l1Rd_kinds.f k a0_0 a0_1 a1 := by kernel_rfl
set_option maxRecDepth 100000 in
theorem spec_l1Rd_kinds.eq8 (k : Nat) (h0_0 : List Int) (h0_1 : Int) (x5 : ByteArray) (x6 : Int) : fromPt Tryz.prog spec_l1Rd_kinds.E k spec_l1Rd_kinds.a (spec_l1Rd_kinds.G k) 1000 (bodyOf Tryz.prog 138) 8 [.box 0 0, .v (.string x5), .v (.int .i64 x6)] [.box [.con (.int .u8) h0_0, .v (.int .i64 h0_1)]] = spec_l1Rd_kinds.p8 (k + 1) h0_0 h0_1 x5 x6 := by kernel_rfl
theorem spec_l1Rd_kinds.G8_0 {avs : List AV} {H : List HE} : spec_l1Rd_kinds.G8 0 avs H = none := by unfold spec_l1Rd_kinds.G8; split <;> rfl
theorem spec_l1Rd_kinds.G8_s (k : Nat) {avs : List AV} {H : List HE} {x : List Int × Int × ByteArray} (h : spec_l1Rd_kinds.G8 (k + 1) avs H = some x) : fromPt Tryz.prog spec_l1Rd_kinds.E k spec_l1Rd_kinds.a (spec_l1Rd_kinds.G k) 1000 (bodyOf Tryz.prog 138) 8 avs H = some x := by
  unfold spec_l1Rd_kinds.G8 at h
  split at h
  · rw [← h]; exact spec_l1Rd_kinds.eq8 _ _ _ _ _
  · cases h
theorem spec_l1Rd_kinds.E_ok : EnvOk Tryz.prog spec_l1Rd_kinds.E := ⟨⟨spec_l1Rd_below.sound, callable_of (by kernel_rfl)⟩, trivial⟩
theorem spec_l1Rd_kinds.sound : Sound Tryz.prog 138 spec_l1Rd_kinds.s := by
  refine func_sound (f := spec_l1Rd_kinds.a) (G := spec_l1Rd_kinds.G) (fn := Tryz.f138) (body := bodyOf Tryz.prog 138) 1000 (by kernel_rfl) spec_l1Rd_kinds.E_ok Tryz.func138 (by kernel_rfl) (by kernel_rfl) (by kernel_rfl) (ptsOk_of (by kernel_rfl)) ?_ ?_ ?_ ?_
  · intro r H x h
    unfold spec_l1Rd_kinds.a at h
    simp only at h
    split at h
    · cases h; rfl
    · cases h
  · exact fun q avs H => pick1_none spec_l1Rd_kinds.G8_0 (rfl)
  · intro k q pt avs H x _ h
    rcases pick1_some h with ⟨rfl, h⟩ | h
    · exact spec_l1Rd_kinds.G8_s _ h
    cases h
  · intro k avs H o h
    try dsimp only at h
    split at h
    · cases h; exact spec_l1Rd_kinds.eq _ _ _ _
    · cases h

def spec_l1Rd_types.a : FnA (List Int × Int × List ByteArray) := ⟨27, [.tmp 2], .row 9 .str, [.box [.con (.int .u8), .val]], [⟨8, [0, 3, 4], [.box [], .row 9 .str, .val], [.box [.con (.int .u8), .val]]⟩], fun x H => match x, H with
  | .own 1, [.box [.con (.int .u8) h0_0, .v (.int .i64 h0_1)], .row 9 .str r] => some (h0_0, h0_1, r)
  | _, _ => none⟩
def spec_l1Rd_types.s : Spec := mkS [.box [.con (.int .u8), .val]] (fun k avs H => match avs, H with
  | [.box 0 0], [.box [.con (.int .u8) a0_0, .v (.int .i64 a0_1)]] => some (spec_l1Rd_types.f k a0_0 a0_1)
  | _, _ => none) (fun r => (.own 1, [.box [.con (.int .u8) r.1, .v (.int .i64 r.2.1)], .row 9 .str r.2.2]))
def spec_l1Rd_types.E : Env := [((46, []), spec_l1Rd_below.s), ((42, []), spec_l1Rd_once.s), ((138, []), spec_l1Rd_kinds.s)]
def spec_l1Rd_types.G8 (k : Nat) (avs : List AV) (H : List HE) : Option (List Int × Int × List ByteArray) := match avs, H with
  | [.box 0 0, .own 1, .v (.int .i64 x4)], [.box [.con (.int .u8) h0_0, .v (.int .i64 h0_1)], .row 9 .str x3] => spec_l1Rd_types.p8 k h0_0 h0_1 x3 x4
  | _, _ => none
def spec_l1Rd_types.G (k p : Nat) (avs : List AV) (H : List HE) : Option (List Int × Int × List ByteArray) := (pick1 8 (spec_l1Rd_types.G8 k avs H) none p)
set_option maxRecDepth 100000 in
theorem spec_l1Rd_types.eq (k : Nat) (a0_0 : List Int) (a0_1 : Int) : fromTop Tryz.prog spec_l1Rd_types.E k spec_l1Rd_types.a (spec_l1Rd_types.G k) 1000 (bodyOf Tryz.prog 91) [.box 0 0] [.box [.con (.int .u8) a0_0, .v (.int .i64 a0_1)]] = spec_l1Rd_types.f k a0_0 a0_1 := by kernel_rfl
set_option maxRecDepth 100000 in
theorem spec_l1Rd_types.eq8 (k : Nat) (h0_0 : List Int) (h0_1 : Int) (x3 : List ByteArray) (x4 : Int) : fromPt Tryz.prog spec_l1Rd_types.E k spec_l1Rd_types.a (spec_l1Rd_types.G k) 1000 (bodyOf Tryz.prog 91) 8 [.box 0 0, .own 1, .v (.int .i64 x4)] [.box [.con (.int .u8) h0_0, .v (.int .i64 h0_1)], .row 9 .str x3] = spec_l1Rd_types.p8 (k + 1) h0_0 h0_1 x3 x4 := by kernel_rfl
theorem spec_l1Rd_types.G8_0 {avs : List AV} {H : List HE} : spec_l1Rd_types.G8 0 avs H = none := by unfold spec_l1Rd_types.G8; split <;> rfl
theorem spec_l1Rd_types.G8_s (k : Nat) {avs : List AV} {H : List HE} {x : List Int × Int × List ByteArray} (h : spec_l1Rd_types.G8 (k + 1) avs H = some x) : fromPt Tryz.prog spec_l1Rd_types.E k spec_l1Rd_types.a (spec_l1Rd_types.G k) 1000 (bodyOf Tryz.prog 91) 8 avs H = some x := by
  unfold spec_l1Rd_types.G8 at h
  split at h
  · rw [← h]; exact spec_l1Rd_types.eq8 _ _ _ _ _
  · cases h
theorem spec_l1Rd_types.E_ok : EnvOk Tryz.prog spec_l1Rd_types.E := ⟨⟨spec_l1Rd_below.sound, callable_of (by kernel_rfl)⟩, ⟨spec_l1Rd_once.sound, callable_of (by kernel_rfl)⟩, ⟨spec_l1Rd_kinds.sound, callable_of (by kernel_rfl)⟩, trivial⟩
theorem spec_l1Rd_types.sound : Sound Tryz.prog 91 spec_l1Rd_types.s := by
  refine func_sound (f := spec_l1Rd_types.a) (G := spec_l1Rd_types.G) (fn := Tryz.f91) (body := bodyOf Tryz.prog 91) 1000 (by kernel_rfl) spec_l1Rd_types.E_ok Tryz.func91 (by kernel_rfl) (by kernel_rfl) (by kernel_rfl) (ptsOk_of (by kernel_rfl)) ?_ ?_ ?_ ?_
  · intro r H x h
    unfold spec_l1Rd_types.a at h
    simp only at h
    split at h
    · cases h; rfl
    · cases h
  · exact fun q avs H => pick1_none spec_l1Rd_types.G8_0 (rfl)
  · intro k q pt avs H x _ h
    rcases pick1_some h with ⟨rfl, h⟩ | h
    · exact spec_l1Rd_types.G8_s _ h
    cases h
  · intro k avs H o h
    try dsimp only at h
    split at h
    · cases h; exact spec_l1Rd_types.eq _ _ _
    · cases h

def spec_l1Rd_small.a : FnA (List Int × Int × Int × Int × Int × List ByteArray) := ⟨26, [.cell 2 26], .agg [.val, .val, .val, .row 9 .str], [.box [.con (.int .u8), .val]], [], fun x H => match x, H with
  | .agg [.v (.int .i64 r_0), .v (.int .i64 r_1), .v (.int .i64 r_2), .own 1], [.box [.con (.int .u8) h0_0, .v (.int .i64 h0_1)], .row 9 .str r_3] => some (h0_0, h0_1, r_0, r_1, r_2, r_3)
  | _, _ => none⟩
def spec_l1Rd_small.s : Spec := mkS [.box [.con (.int .u8), .val]] (fun k avs H => match avs, H with
  | [.box 0 0], [.box [.con (.int .u8) a0_0, .v (.int .i64 a0_1)]] => some (spec_l1Rd_small.f k a0_0 a0_1)
  | _, _ => none) (fun r => (.agg [.v (.int .i64 r.2.2.1), .v (.int .i64 r.2.2.2.1), .v (.int .i64 r.2.2.2.2.1), .own 1], [.box [.con (.int .u8) r.1, .v (.int .i64 r.2.1)], .row 9 .str r.2.2.2.2.2]))
def spec_l1Rd_small.E : Env := [((46, []), spec_l1Rd_below.s), ((91, []), spec_l1Rd_types.s)]
def spec_l1Rd_small.G (k p : Nat) (avs : List AV) (H : List HE) : Option (List Int × Int × Int × Int × Int × List ByteArray) := none
set_option maxRecDepth 100000 in
theorem spec_l1Rd_small.eq (k : Nat) (a0_0 : List Int) (a0_1 : Int) : fromTop Tryz.prog spec_l1Rd_small.E k spec_l1Rd_small.a (spec_l1Rd_small.G k) 1000 (bodyOf Tryz.prog 40) [.box 0 0] [.box [.con (.int .u8) a0_0, .v (.int .i64 a0_1)]] = spec_l1Rd_small.f k a0_0 a0_1 := by kernel_rfl
theorem spec_l1Rd_small.E_ok : EnvOk Tryz.prog spec_l1Rd_small.E := ⟨⟨spec_l1Rd_below.sound, callable_of (by kernel_rfl)⟩, ⟨spec_l1Rd_types.sound, callable_of (by kernel_rfl)⟩, trivial⟩
theorem spec_l1Rd_small.sound : Sound Tryz.prog 40 spec_l1Rd_small.s := by
  refine func_sound (f := spec_l1Rd_small.a) (G := spec_l1Rd_small.G) (fn := Tryz.f40) (body := bodyOf Tryz.prog 40) 1000 (by kernel_rfl) spec_l1Rd_small.E_ok Tryz.func40 (by kernel_rfl) (by kernel_rfl) (by kernel_rfl) (ptsOk_of (by kernel_rfl)) ?_ ?_ ?_ ?_
  · intro r H x h
    unfold spec_l1Rd_small.a at h
    simp only at h
    split at h
    · cases h; rfl
    · cases h
  · intro q avs H; rfl
  · intro k q pt avs H x _ h; cases h
  · intro k avs H o h
    try dsimp only at h
    split at h
    · cases h; exact spec_l1Rd_small.eq _ _ _
    · cases h

def spec_l1In.a : FnA (Bool) := ⟨15, [.tmp 6], .bool, [], [], fun x H => match x, H with
  | .bs false r, [] => some r
  | _, _ => none⟩
def spec_l1In.s : Spec := mkS [.val, .val, .val] (fun k avs H => match avs, H with
  | [.v (.int .i64 a0), .v (.int .i64 a1), .v (.int .i64 a2)], [] => some (spec_l1In.f a0 a1 a2)
  | _, _ => none) (fun r => (.bs false r, []))
def spec_l1In.E : Env := []
def spec_l1In.G (k p : Nat) (avs : List AV) (H : List HE) : Option (Bool) := none
set_option maxRecDepth 100000 in
theorem spec_l1In.eq (k : Nat) (a0 : Int) (a1 : Int) (a2 : Int) : fromTop Tryz.prog spec_l1In.E k spec_l1In.a (spec_l1In.G k) 1000 (bodyOf Tryz.prog 54) [.v (.int .i64 a0), .v (.int .i64 a1), .v (.int .i64 a2)] [] = spec_l1In.f a0 a1 a2 := by kernel_rfl
theorem spec_l1In.E_ok : EnvOk Tryz.prog spec_l1In.E := trivial
theorem spec_l1In.sound : Sound Tryz.prog 54 spec_l1In.s := by
  refine func_sound (f := spec_l1In.a) (G := spec_l1In.G) (fn := Tryz.f54) (body := bodyOf Tryz.prog 54) 1000 (by kernel_rfl) spec_l1In.E_ok Tryz.func54 (by kernel_rfl) (by kernel_rfl) (by kernel_rfl) (ptsOk_of (by kernel_rfl)) ?_ ?_ ?_ ?_
  · intro r H x h
    unfold spec_l1In.a at h
    simp only at h
    split at h
    · cases h; rfl
    · cases h
  · intro q avs H; rfl
  · intro k q pt avs H x _ h; cases h
  · intro k avs H o h
    try dsimp only at h
    split at h
    · cases h; exact spec_l1In.eq _ _ _ _
    · cases h

def spec_l3Type.a : FnA (Bool) := ⟨23, [.tmp 2], .bool, [], [⟨6, [0, 3], [.val, .val], []⟩], fun x H => match x, H with
  | .bs false r, [] => some r
  | _, _ => none⟩
def spec_l3Type.s : Spec := mkS [.val] (fun k avs H => match avs, H with
  | [.v (.string a0)], [] => some (spec_l3Type.f k a0)
  | _, _ => none) (fun r => (.bs false r, []))
def spec_l3Type.E : Env := [((54, []), spec_l1In.s)]
def spec_l3Type.G6 (k : Nat) (avs : List AV) (H : List HE) : Option (Bool) := match avs, H with
  | [.v (.string x0), .v (.int .i64 x3)], [] => spec_l3Type.p6 k x0 x3
  | _, _ => none
def spec_l3Type.G (k p : Nat) (avs : List AV) (H : List HE) : Option (Bool) := (pick1 6 (spec_l3Type.G6 k avs H) none p)
set_option maxRecDepth 100000 in
theorem spec_l3Type.eq (k : Nat) (a0 : ByteArray) : fromTop Tryz.prog spec_l3Type.E k spec_l3Type.a (spec_l3Type.G k) 1000 (bodyOf Tryz.prog 173) [.v (.string a0)] [] = spec_l3Type.f k a0 := by kernel_rfl
set_option maxRecDepth 100000 in
theorem spec_l3Type.eq6 (k : Nat) (x0 : ByteArray) (x3 : Int) : fromPt Tryz.prog spec_l3Type.E k spec_l3Type.a (spec_l3Type.G k) 1000 (bodyOf Tryz.prog 173) 6 [.v (.string x0), .v (.int .i64 x3)] [] = spec_l3Type.p6 (k + 1) x0 x3 := by kernel_rfl
theorem spec_l3Type.G6_0 {avs : List AV} {H : List HE} : spec_l3Type.G6 0 avs H = none := by unfold spec_l3Type.G6; split <;> rfl
theorem spec_l3Type.G6_s (k : Nat) {avs : List AV} {H : List HE} {x : Bool} (h : spec_l3Type.G6 (k + 1) avs H = some x) : fromPt Tryz.prog spec_l3Type.E k spec_l3Type.a (spec_l3Type.G k) 1000 (bodyOf Tryz.prog 173) 6 avs H = some x := by
  unfold spec_l3Type.G6 at h
  split at h
  · rw [← h]; exact spec_l3Type.eq6 _ _ _
  · cases h
theorem spec_l3Type.E_ok : EnvOk Tryz.prog spec_l3Type.E := ⟨⟨spec_l1In.sound, callable_of (by kernel_rfl)⟩, trivial⟩
theorem spec_l3Type.sound : Sound Tryz.prog 173 spec_l3Type.s := by
  refine func_sound (f := spec_l3Type.a) (G := spec_l3Type.G) (fn := Tryz.f173) (body := bodyOf Tryz.prog 173) 1000 (by kernel_rfl) spec_l3Type.E_ok Tryz.func173 (by kernel_rfl) (by kernel_rfl) (by kernel_rfl) (ptsOk_of (by kernel_rfl)) ?_ ?_ ?_ ?_
  · intro r H x h
    unfold spec_l3Type.a at h
    simp only at h
    split at h
    · cases h; rfl
    · cases h
  · exact fun q avs H => pick1_none spec_l3Type.G6_0 (rfl)
  · intro k q pt avs H x _ h
    rcases pick1_some h with ⟨rfl, h⟩ | h
    · exact spec_l3Type.G6_s _ h
    cases h
  · intro k avs H o h
    try dsimp only at h
    split at h
    · cases h; exact spec_l3Type.eq _ _
    · cases h

def spec_TypesOk.a : FnA (Bool) := ⟨20, [.tmp 2], .bool, [], [⟨14, [0, 3], [.con .str, .val], []⟩], fun x H => match x, H with
  | .bs false r, [] => some r
  | _, _ => none⟩
def spec_TypesOk.s : Spec := mkS [.con .str] (fun k avs H => match avs, H with
  | [.con .str a0], [] => some (spec_TypesOk.f k a0)
  | _, _ => none) (fun r => (.bs false r, []))
def spec_TypesOk.E : Env := [((54, []), spec_l1In.s), ((173, []), spec_l3Type.s)]
def spec_TypesOk.G14 (k : Nat) (avs : List AV) (H : List HE) : Option (Bool) := match avs, H with
  | [.con .str x0, .v (.int .i64 x3)], [] => spec_TypesOk.p14 k x0 x3
  | _, _ => none
def spec_TypesOk.G (k p : Nat) (avs : List AV) (H : List HE) : Option (Bool) := (pick1 14 (spec_TypesOk.G14 k avs H) none p)
set_option maxRecDepth 100000 in
theorem spec_TypesOk.eq (k : Nat) (a0 : List ByteArray) : fromTop Tryz.prog spec_TypesOk.E k spec_TypesOk.a (spec_TypesOk.G k) 1000 (bodyOf Tryz.prog 158) [.con .str a0] [] = spec_TypesOk.f k a0 := by kernel_rfl
set_option maxRecDepth 100000 in
theorem spec_TypesOk.eq14 (k : Nat) (x0 : List ByteArray) (x3 : Int) : fromPt Tryz.prog spec_TypesOk.E k spec_TypesOk.a (spec_TypesOk.G k) 1000 (bodyOf Tryz.prog 158) 14 [.con .str x0, .v (.int .i64 x3)] [] = spec_TypesOk.p14 (k + 1) x0 x3 := by kernel_rfl
theorem spec_TypesOk.G14_0 {avs : List AV} {H : List HE} : spec_TypesOk.G14 0 avs H = none := by unfold spec_TypesOk.G14; split <;> rfl
theorem spec_TypesOk.G14_s (k : Nat) {avs : List AV} {H : List HE} {x : Bool} (h : spec_TypesOk.G14 (k + 1) avs H = some x) : fromPt Tryz.prog spec_TypesOk.E k spec_TypesOk.a (spec_TypesOk.G k) 1000 (bodyOf Tryz.prog 158) 14 avs H = some x := by
  unfold spec_TypesOk.G14 at h
  split at h
  · rw [← h]; exact spec_TypesOk.eq14 _ _ _
  · cases h
theorem spec_TypesOk.E_ok : EnvOk Tryz.prog spec_TypesOk.E := ⟨⟨spec_l1In.sound, callable_of (by kernel_rfl)⟩, ⟨spec_l3Type.sound, callable_of (by kernel_rfl)⟩, trivial⟩
theorem spec_TypesOk.sound : Sound Tryz.prog 158 spec_TypesOk.s := by
  refine func_sound (f := spec_TypesOk.a) (G := spec_TypesOk.G) (fn := Tryz.f158) (body := bodyOf Tryz.prog 158) 1000 (by kernel_rfl) spec_TypesOk.E_ok Tryz.func158 (by kernel_rfl) (by kernel_rfl) (by kernel_rfl) (ptsOk_of (by kernel_rfl)) ?_ ?_ ?_ ?_
  · intro r H x h
    unfold spec_TypesOk.a at h
    simp only at h
    split at h
    · cases h; rfl
    · cases h
  · exact fun q avs H => pick1_none spec_TypesOk.G14_0 (rfl)
  · intro k q pt avs H x _ h
    rcases pick1_some h with ⟨rfl, h⟩ | h
    · exact spec_TypesOk.G14_s _ h
    cases h
  · intro k avs H o h
    try dsimp only at h
    split at h
    · cases h; exact spec_TypesOk.eq _ _
    · cases h

def spec_ConfigOk.a : FnA (Bool) := ⟨29, [.tmp 2], .bool, [], [], fun x H => match x, H with
  | .bs false r, [] => some r
  | _, _ => none⟩
def spec_ConfigOk.s : Spec := mkS [.agg [.val, .val, .val, .con .str]] (fun k avs H => match avs, H with
  | [.agg [.v (.int .i64 a0_0), .v (.int .i64 a0_1), .v (.int .i64 a0_2), .con .str a0_3]], [] => some (spec_ConfigOk.f k a0_0 a0_1 a0_2 a0_3)
  | _, _ => none) (fun r => (.bs false r, []))
def spec_ConfigOk.E : Env := [((54, []), spec_l1In.s), ((158, []), spec_TypesOk.s)]
def spec_ConfigOk.G (k p : Nat) (avs : List AV) (H : List HE) : Option (Bool) := none
set_option maxRecDepth 100000 in
theorem spec_ConfigOk.eq (k : Nat) (a0_0 : Int) (a0_1 : Int) (a0_2 : Int) (a0_3 : List ByteArray) : fromTop Tryz.prog spec_ConfigOk.E k spec_ConfigOk.a (spec_ConfigOk.G k) 1000 (bodyOf Tryz.prog 129) [.agg [.v (.int .i64 a0_0), .v (.int .i64 a0_1), .v (.int .i64 a0_2), .con .str a0_3]] [] = spec_ConfigOk.f k a0_0 a0_1 a0_2 a0_3 := by kernel_rfl
theorem spec_ConfigOk.E_ok : EnvOk Tryz.prog spec_ConfigOk.E := ⟨⟨spec_l1In.sound, callable_of (by kernel_rfl)⟩, ⟨spec_TypesOk.sound, callable_of (by kernel_rfl)⟩, trivial⟩
theorem spec_ConfigOk.sound : Sound Tryz.prog 129 spec_ConfigOk.s := by
  refine func_sound (f := spec_ConfigOk.a) (G := spec_ConfigOk.G) (fn := Tryz.f129) (body := bodyOf Tryz.prog 129) 1000 (by kernel_rfl) spec_ConfigOk.E_ok Tryz.func129 (by kernel_rfl) (by kernel_rfl) (by kernel_rfl) (ptsOk_of (by kernel_rfl)) ?_ ?_ ?_ ?_
  · intro r H x h
    unfold spec_ConfigOk.a at h
    simp only at h
    split at h
    · cases h; rfl
    · cases h
  · intro q avs H; rfl
  · intro k q pt avs H x _ h; cases h
  · intro k avs H o h
    try dsimp only at h
    split at h
    · cases h; exact spec_ConfigOk.eq _ _ _ _ _
    · cases h

def spec_WordBytes.a : FnA (ByteArray) := ⟨23, [.tmp 2], .val, [], [⟨8, [0, 3, 4], [.val, .row 5 (.int .u8), .val], []⟩], fun x H => match x, H with
  | .v (.string r), [] => some r
  | _, _ => none⟩
def spec_WordBytes.s : Spec := mkS [.val] (fun k avs H => match avs, H with
  | [.v (.int .i64 a0)], [] => some (spec_WordBytes.f k a0)
  | _, _ => none) (fun r => (.v (.string r), []))
def spec_WordBytes.E : Env := []
def spec_WordBytes.G8 (k : Nat) (avs : List AV) (H : List HE) : Option (ByteArray) := match avs, H with
  | [.v (.int .i64 x0), .own 0, .v (.int .i64 x4)], [.row 5 (.int .u8) x3] => spec_WordBytes.p8 k x0 x3 x4
  | _, _ => none
def spec_WordBytes.G (k p : Nat) (avs : List AV) (H : List HE) : Option (ByteArray) := (pick1 8 (spec_WordBytes.G8 k avs H) none p)
set_option maxRecDepth 100000 in
theorem spec_WordBytes.eq (k : Nat) (a0 : Int) : fromTop Tryz.prog spec_WordBytes.E k spec_WordBytes.a (spec_WordBytes.G k) 1000 (bodyOf Tryz.prog 141) [.v (.int .i64 a0)] [] = spec_WordBytes.f k a0 := by kernel_rfl
set_option maxRecDepth 100000 in
theorem spec_WordBytes.eq8 (k : Nat) (x0 : Int) (x3 : List Int) (x4 : Int) : fromPt Tryz.prog spec_WordBytes.E k spec_WordBytes.a (spec_WordBytes.G k) 1000 (bodyOf Tryz.prog 141) 8 [.v (.int .i64 x0), .own 0, .v (.int .i64 x4)] [.row 5 (.int .u8) x3] = spec_WordBytes.p8 (k + 1) x0 x3 x4 := by kernel_rfl
theorem spec_WordBytes.G8_0 {avs : List AV} {H : List HE} : spec_WordBytes.G8 0 avs H = none := by unfold spec_WordBytes.G8; split <;> rfl
theorem spec_WordBytes.G8_s (k : Nat) {avs : List AV} {H : List HE} {x : ByteArray} (h : spec_WordBytes.G8 (k + 1) avs H = some x) : fromPt Tryz.prog spec_WordBytes.E k spec_WordBytes.a (spec_WordBytes.G k) 1000 (bodyOf Tryz.prog 141) 8 avs H = some x := by
  unfold spec_WordBytes.G8 at h
  split at h
  · rw [← h]; exact spec_WordBytes.eq8 _ _ _ _
  · cases h
theorem spec_WordBytes.E_ok : EnvOk Tryz.prog spec_WordBytes.E := trivial
theorem spec_WordBytes.sound : Sound Tryz.prog 141 spec_WordBytes.s := by
  refine func_sound (f := spec_WordBytes.a) (G := spec_WordBytes.G) (fn := Tryz.f141) (body := bodyOf Tryz.prog 141) 1000 (by kernel_rfl) spec_WordBytes.E_ok Tryz.func141 (by kernel_rfl) (by kernel_rfl) (by kernel_rfl) (ptsOk_of (by kernel_rfl)) ?_ ?_ ?_ ?_
  · intro r H x h
    unfold spec_WordBytes.a at h
    simp only at h
    split at h
    · cases h; rfl
    · cases h
  · exact fun q avs H => pick1_none spec_WordBytes.G8_0 (rfl)
  · intro k q pt avs H x _ h
    rcases pick1_some h with ⟨rfl, h⟩ | h
    · exact spec_WordBytes.G8_s _ h
    cases h
  · intro k avs H o h
    try dsimp only at h
    split at h
    · cases h; exact spec_WordBytes.eq _ _
    · cases h

def spec_ShortBytes.a : FnA (ByteArray) := ⟨9, [.tmp 2], .val, [], [], fun x H => match x, H with
  | .v (.string r), [] => some r
  | _, _ => none⟩
def spec_ShortBytes.s : Spec := mkS [.val] (fun k avs H => match avs, H with
  | [.v (.int .i64 a0)], [] => some (spec_ShortBytes.f k a0)
  | _, _ => none) (fun r => (.v (.string r), []))
def spec_ShortBytes.E : Env := [((54, []), spec_l1In.s), ((141, []), spec_WordBytes.s)]
def spec_ShortBytes.G (k p : Nat) (avs : List AV) (H : List HE) : Option (ByteArray) := none
set_option maxRecDepth 100000 in
theorem spec_ShortBytes.eq (k : Nat) (a0 : Int) : fromTop Tryz.prog spec_ShortBytes.E k spec_ShortBytes.a (spec_ShortBytes.G k) 1000 (bodyOf Tryz.prog 142) [.v (.int .i64 a0)] [] = spec_ShortBytes.f k a0 := by kernel_rfl
theorem spec_ShortBytes.E_ok : EnvOk Tryz.prog spec_ShortBytes.E := ⟨⟨spec_l1In.sound, callable_of (by kernel_rfl)⟩, ⟨spec_WordBytes.sound, callable_of (by kernel_rfl)⟩, trivial⟩
theorem spec_ShortBytes.sound : Sound Tryz.prog 142 spec_ShortBytes.s := by
  refine func_sound (f := spec_ShortBytes.a) (G := spec_ShortBytes.G) (fn := Tryz.f142) (body := bodyOf Tryz.prog 142) 1000 (by kernel_rfl) spec_ShortBytes.E_ok Tryz.func142 (by kernel_rfl) (by kernel_rfl) (by kernel_rfl) (ptsOk_of (by kernel_rfl)) ?_ ?_ ?_ ?_
  · intro r H x h
    unfold spec_ShortBytes.a at h
    simp only at h
    split at h
    · cases h; rfl
    · cases h
  · intro q avs H; rfl
  · intro k q pt avs H x _ h; cases h
  · intro k avs H o h
    try dsimp only at h
    split at h
    · cases h; exact spec_ShortBytes.eq _ _
    · cases h

def spec_l1Zeros.a : FnA (ByteArray) := ⟨6, [.tmp 2], .val, [], [], fun x H => match x, H with
  | .v (.string r), [] => some r
  | _, _ => none⟩
def spec_l1Zeros.s : Spec := mkS [.val] (fun k avs H => match avs, H with
  | [.v (.int .i64 a0)], [] => some (spec_l1Zeros.f a0)
  | _, _ => none) (fun r => (.v (.string r), []))
def spec_l1Zeros.E : Env := []
def spec_l1Zeros.G (k p : Nat) (avs : List AV) (H : List HE) : Option (ByteArray) := none
set_option maxRecDepth 100000 in
theorem spec_l1Zeros.eq (k : Nat) (a0 : Int) : fromTop Tryz.prog spec_l1Zeros.E k spec_l1Zeros.a (spec_l1Zeros.G k) 1000 (bodyOf Tryz.prog 101) [.v (.int .i64 a0)] [] = spec_l1Zeros.f a0 := by kernel_rfl
theorem spec_l1Zeros.E_ok : EnvOk Tryz.prog spec_l1Zeros.E := trivial
theorem spec_l1Zeros.sound : Sound Tryz.prog 101 spec_l1Zeros.s := by
  refine func_sound (f := spec_l1Zeros.a) (G := spec_l1Zeros.G) (fn := Tryz.f101) (body := bodyOf Tryz.prog 101) 1000 (by kernel_rfl) spec_l1Zeros.E_ok Tryz.func101 (by kernel_rfl) (by kernel_rfl) (by kernel_rfl) (ptsOk_of (by kernel_rfl)) ?_ ?_ ?_ ?_
  · intro r H x h
    unfold spec_l1Zeros.a at h
    simp only at h
    split at h
    · cases h; rfl
    · cases h
  · intro q avs H; rfl
  · intro k q pt avs H x _ h; cases h
  · intro k avs H o h
    try dsimp only at h
    split at h
    · cases h; exact spec_l1Zeros.eq _ _
    · cases h

def spec_l1Crc.a : FnA (ByteArray) := ⟨45, [.tmp 2], .val, [], [⟨8, [0, 3, 4], [.val, .val, .val], []⟩, ⟨22, [0, 3, 4, 5], [.val, .val, .val, .val], []⟩], fun x H => match x, H with
  | .v (.string r), [] => some r
  | _, _ => none⟩
def spec_l1Crc.s : Spec := mkS [.val] (fun k avs H => match avs, H with
  | [.v (.string a0)], [] => some (spec_l1Crc.f k a0)
  | _, _ => none) (fun r => (.v (.string r), []))
def spec_l1Crc.E : Env := []
def spec_l1Crc.G8 (k : Nat) (avs : List AV) (H : List HE) : Option (ByteArray) := match avs, H with
  | [.v (.string x0), .v (.int .u32 x3), .v (.int .i64 x4)], [] => spec_l1Crc.p8 k x0 x3 x4
  | _, _ => none
def spec_l1Crc.G22 (k : Nat) (avs : List AV) (H : List HE) : Option (ByteArray) := match avs, H with
  | [.v (.string x0), .v (.int .u32 x3), .v (.int .i64 x4), .v (.int .i64 x5)], [] => spec_l1Crc.p22 k x0 x3 x4 x5
  | _, _ => none
def spec_l1Crc.G (k p : Nat) (avs : List AV) (H : List HE) : Option (ByteArray) := (pick1 8 (spec_l1Crc.G8 k avs H) (pick1 22 (spec_l1Crc.G22 k avs H) none p) p)
set_option maxRecDepth 100000 in
theorem spec_l1Crc.eq (k : Nat) (a0 : ByteArray) : fromTop Tryz.prog spec_l1Crc.E k spec_l1Crc.a (spec_l1Crc.G k) 1000 (bodyOf Tryz.prog 161) [.v (.string a0)] [] = spec_l1Crc.f k a0 := by kernel_rfl
set_option maxRecDepth 100000 in
theorem spec_l1Crc.eq8 (k : Nat) (x0 : ByteArray) (x3 : Int) (x4 : Int) : fromPt Tryz.prog spec_l1Crc.E k spec_l1Crc.a (spec_l1Crc.G k) 1000 (bodyOf Tryz.prog 161) 8 [.v (.string x0), .v (.int .u32 x3), .v (.int .i64 x4)] [] = spec_l1Crc.p8 (k + 1) x0 x3 x4 := by kernel_rfl
theorem spec_l1Crc.G8_0 {avs : List AV} {H : List HE} : spec_l1Crc.G8 0 avs H = none := by unfold spec_l1Crc.G8; split <;> rfl
theorem spec_l1Crc.G8_s (k : Nat) {avs : List AV} {H : List HE} {x : ByteArray} (h : spec_l1Crc.G8 (k + 1) avs H = some x) : fromPt Tryz.prog spec_l1Crc.E k spec_l1Crc.a (spec_l1Crc.G k) 1000 (bodyOf Tryz.prog 161) 8 avs H = some x := by
  unfold spec_l1Crc.G8 at h
  split at h
  · rw [← h]; exact spec_l1Crc.eq8 _ _ _ _
  · cases h
set_option maxRecDepth 100000 in
theorem spec_l1Crc.eq22 (k : Nat) (x0 : ByteArray) (x3 : Int) (x4 : Int) (x5 : Int) : fromPt Tryz.prog spec_l1Crc.E k spec_l1Crc.a (spec_l1Crc.G k) 1000 (bodyOf Tryz.prog 161) 22 [.v (.string x0), .v (.int .u32 x3), .v (.int .i64 x4), .v (.int .i64 x5)] [] = spec_l1Crc.p22 (k + 1) x0 x3 x4 x5 := by kernel_rfl
theorem spec_l1Crc.G22_0 {avs : List AV} {H : List HE} : spec_l1Crc.G22 0 avs H = none := by unfold spec_l1Crc.G22; split <;> rfl
theorem spec_l1Crc.G22_s (k : Nat) {avs : List AV} {H : List HE} {x : ByteArray} (h : spec_l1Crc.G22 (k + 1) avs H = some x) : fromPt Tryz.prog spec_l1Crc.E k spec_l1Crc.a (spec_l1Crc.G k) 1000 (bodyOf Tryz.prog 161) 22 avs H = some x := by
  unfold spec_l1Crc.G22 at h
  split at h
  · rw [← h]; exact spec_l1Crc.eq22 _ _ _ _ _
  · cases h
theorem spec_l1Crc.E_ok : EnvOk Tryz.prog spec_l1Crc.E := trivial
theorem spec_l1Crc.sound : Sound Tryz.prog 161 spec_l1Crc.s := by
  refine func_sound (f := spec_l1Crc.a) (G := spec_l1Crc.G) (fn := Tryz.f161) (body := bodyOf Tryz.prog 161) 1000 (by kernel_rfl) spec_l1Crc.E_ok Tryz.func161 (by kernel_rfl) (by kernel_rfl) (by kernel_rfl) (ptsOk_of (by kernel_rfl)) ?_ ?_ ?_ ?_
  · intro r H x h
    unfold spec_l1Crc.a at h
    simp only at h
    split at h
    · cases h; rfl
    · cases h
  · exact fun q avs H => pick1_none spec_l1Crc.G8_0 (pick1_none spec_l1Crc.G22_0 (rfl))
  · intro k q pt avs H x _ h
    rcases pick1_some h with ⟨rfl, h⟩ | h
    · exact spec_l1Crc.G8_s _ h
    rcases pick1_some h with ⟨rfl, h⟩ | h
    · exact spec_l1Crc.G22_s _ h
    cases h
  · intro k avs H o h
    try dsimp only at h
    split at h
    · cases h; exact spec_l1Crc.eq _ _
    · cases h

def spec_Sealed.a : FnA (ByteArray) := ⟨17, [.tmp 2], .val, [], [], fun x H => match x, H with
  | .v (.string r), [] => some r
  | _, _ => none⟩
def spec_Sealed.s : Spec := mkS [.val] (fun k avs H => match avs, H with
  | [.v (.string a0)], [] => some (spec_Sealed.f k a0)
  | _, _ => none) (fun r => (.v (.string r), []))
def spec_Sealed.E : Env := [((101, []), spec_l1Zeros.s), ((161, []), spec_l1Crc.s)]
def spec_Sealed.G (k p : Nat) (avs : List AV) (H : List HE) : Option (ByteArray) := none
set_option maxRecDepth 100000 in
theorem spec_Sealed.eq (k : Nat) (a0 : ByteArray) : fromTop Tryz.prog spec_Sealed.E k spec_Sealed.a (spec_Sealed.G k) 1000 (bodyOf Tryz.prog 140) [.v (.string a0)] [] = spec_Sealed.f k a0 := by kernel_rfl
theorem spec_Sealed.E_ok : EnvOk Tryz.prog spec_Sealed.E := ⟨⟨spec_l1Zeros.sound, callable_of (by kernel_rfl)⟩, ⟨spec_l1Crc.sound, callable_of (by kernel_rfl)⟩, trivial⟩
theorem spec_Sealed.sound : Sound Tryz.prog 140 spec_Sealed.s := by
  refine func_sound (f := spec_Sealed.a) (G := spec_Sealed.G) (fn := Tryz.f140) (body := bodyOf Tryz.prog 140) 1000 (by kernel_rfl) spec_Sealed.E_ok Tryz.func140 (by kernel_rfl) (by kernel_rfl) (by kernel_rfl) (ptsOk_of (by kernel_rfl)) ?_ ?_ ?_ ?_
  · intro r H x h
    unfold spec_Sealed.a at h
    simp only at h
    split at h
    · cases h; rfl
    · cases h
  · intro q avs H; rfl
  · intro k q pt avs H x _ h; cases h
  · intro k avs H o h
    try dsimp only at h
    split at h
    · cases h; exact spec_Sealed.eq _ _
    · cases h

def spec_l3Super.a : FnA (ByteArray) := ⟨77, [.tmp 2], .val, [], [⟨8, [1, 3, 4], [.box [.val, .val, .val, .con .str], .val, .val], []⟩, ⟨23, [1, 3, 4, 5, 6], [.box [.val, .val, .val, .con .str], .val, .val, .val, .val], []⟩], fun x H => match x, H with
  | .v (.string r), [] => some r
  | _, _ => none⟩
def spec_l3Super.s : Spec := mkS [.agg [.val, .val, .val, .con .str]] (fun k avs H => match avs, H with
  | [.agg [.v (.int .i64 a0_0), .v (.int .i64 a0_1), .v (.int .i64 a0_2), .con .str a0_3]], [] => some (spec_l3Super.f k a0_0 a0_1 a0_2 a0_3)
  | _, _ => none) (fun r => (.v (.string r), []))
def spec_l3Super.E : Env := [((142, []), spec_ShortBytes.s), ((140, []), spec_Sealed.s)]
def spec_l3Super.G8 (k : Nat) (avs : List AV) (H : List HE) : Option (ByteArray) := match avs, H with
  | [.box 0 0, .v (.string x3), .v (.int .i64 x4)], [.box [.v (.int .i64 x1_0), .v (.int .i64 x1_1), .v (.int .i64 x1_2), .con .str x1_3]] => spec_l3Super.p8 k x1_0 x1_1 x1_2 x1_3 x3 x4
  | _, _ => none
def spec_l3Super.G23 (k : Nat) (avs : List AV) (H : List HE) : Option (ByteArray) := match avs, H with
  | [.box 0 0, .v (.string x3), .v (.int .i64 x4), .v (.int .i64 x5), .v (.int .i64 x6)], [.box [.v (.int .i64 x1_0), .v (.int .i64 x1_1), .v (.int .i64 x1_2), .con .str x1_3]] => spec_l3Super.p23 k x1_0 x1_1 x1_2 x1_3 x3 x4 x5 x6
  | _, _ => none
def spec_l3Super.G (k p : Nat) (avs : List AV) (H : List HE) : Option (ByteArray) := (pick1 8 (spec_l3Super.G8 k avs H) (pick1 23 (spec_l3Super.G23 k avs H) none p) p)
set_option maxRecDepth 100000 in
theorem spec_l3Super.eq (k : Nat) (a0_0 : Int) (a0_1 : Int) (a0_2 : Int) (a0_3 : List ByteArray) : fromTop Tryz.prog spec_l3Super.E k spec_l3Super.a (spec_l3Super.G k) 1000 (bodyOf Tryz.prog 139) [.agg [.v (.int .i64 a0_0), .v (.int .i64 a0_1), .v (.int .i64 a0_2), .con .str a0_3]] [] = spec_l3Super.f k a0_0 a0_1 a0_2 a0_3 := by kernel_rfl
set_option maxRecDepth 100000 in
theorem spec_l3Super.eq8 (k : Nat) (x1_0 : Int) (x1_1 : Int) (x1_2 : Int) (x1_3 : List ByteArray) (x3 : ByteArray) (x4 : Int) : fromPt Tryz.prog spec_l3Super.E k spec_l3Super.a (spec_l3Super.G k) 1000 (bodyOf Tryz.prog 139) 8 [.box 0 0, .v (.string x3), .v (.int .i64 x4)] [.box [.v (.int .i64 x1_0), .v (.int .i64 x1_1), .v (.int .i64 x1_2), .con .str x1_3]] = spec_l3Super.p8 (k + 1) x1_0 x1_1 x1_2 x1_3 x3 x4 := by kernel_rfl
theorem spec_l3Super.G8_0 {avs : List AV} {H : List HE} : spec_l3Super.G8 0 avs H = none := by unfold spec_l3Super.G8; split <;> rfl
theorem spec_l3Super.G8_s (k : Nat) {avs : List AV} {H : List HE} {x : ByteArray} (h : spec_l3Super.G8 (k + 1) avs H = some x) : fromPt Tryz.prog spec_l3Super.E k spec_l3Super.a (spec_l3Super.G k) 1000 (bodyOf Tryz.prog 139) 8 avs H = some x := by
  unfold spec_l3Super.G8 at h
  split at h
  · rw [← h]; exact spec_l3Super.eq8 _ _ _ _ _ _ _
  · cases h
set_option maxRecDepth 100000 in
theorem spec_l3Super.eq23 (k : Nat) (x1_0 : Int) (x1_1 : Int) (x1_2 : Int) (x1_3 : List ByteArray) (x3 : ByteArray) (x4 : Int) (x5 : Int) (x6 : Int) : fromPt Tryz.prog spec_l3Super.E k spec_l3Super.a (spec_l3Super.G k) 1000 (bodyOf Tryz.prog 139) 23 [.box 0 0, .v (.string x3), .v (.int .i64 x4), .v (.int .i64 x5), .v (.int .i64 x6)] [.box [.v (.int .i64 x1_0), .v (.int .i64 x1_1), .v (.int .i64 x1_2), .con .str x1_3]] = spec_l3Super.p23 (k + 1) x1_0 x1_1 x1_2 x1_3 x3 x4 x5 x6 := by kernel_rfl
theorem spec_l3Super.G23_0 {avs : List AV} {H : List HE} : spec_l3Super.G23 0 avs H = none := by unfold spec_l3Super.G23; split <;> rfl
theorem spec_l3Super.G23_s (k : Nat) {avs : List AV} {H : List HE} {x : ByteArray} (h : spec_l3Super.G23 (k + 1) avs H = some x) : fromPt Tryz.prog spec_l3Super.E k spec_l3Super.a (spec_l3Super.G k) 1000 (bodyOf Tryz.prog 139) 23 avs H = some x := by
  unfold spec_l3Super.G23 at h
  split at h
  · rw [← h]; exact spec_l3Super.eq23 _ _ _ _ _ _ _ _ _
  · cases h
theorem spec_l3Super.E_ok : EnvOk Tryz.prog spec_l3Super.E := ⟨⟨spec_ShortBytes.sound, callable_of (by kernel_rfl)⟩, ⟨spec_Sealed.sound, callable_of (by kernel_rfl)⟩, trivial⟩
theorem spec_l3Super.sound : Sound Tryz.prog 139 spec_l3Super.s := by
  refine func_sound (f := spec_l3Super.a) (G := spec_l3Super.G) (fn := Tryz.f139) (body := bodyOf Tryz.prog 139) 1000 (by kernel_rfl) spec_l3Super.E_ok Tryz.func139 (by kernel_rfl) (by kernel_rfl) (by kernel_rfl) (ptsOk_of (by kernel_rfl)) ?_ ?_ ?_ ?_
  · intro r H x h
    unfold spec_l3Super.a at h
    simp only at h
    split at h
    · cases h; rfl
    · cases h
  · exact fun q avs H => pick1_none spec_l3Super.G8_0 (pick1_none spec_l3Super.G23_0 (rfl))
  · intro k q pt avs H x _ h
    rcases pick1_some h with ⟨rfl, h⟩ | h
    · exact spec_l3Super.G8_s _ h
    rcases pick1_some h with ⟨rfl, h⟩ | h
    · exact spec_l3Super.G23_s _ h
    cases h
  · intro k avs H o h
    try dsimp only at h
    split at h
    · cases h; exact spec_l3Super.eq _ _ _ _ _
    · cases h

def spec_EpochLine.a : FnA (ByteArray) := ⟨9, [.tmp 2], .val, [], [], fun x H => match x, H with
  | .v (.string r), [] => some r
  | _, _ => none⟩
def spec_EpochLine.s : Spec := mkS [.val] (fun k avs H => match avs, H with
  | [.v (.int .i64 a0)], [] => some (spec_EpochLine.f k a0)
  | _, _ => none) (fun r => (.v (.string r), []))
def spec_EpochLine.E : Env := [((54, []), spec_l1In.s), ((141, []), spec_WordBytes.s), ((140, []), spec_Sealed.s)]
def spec_EpochLine.G (k p : Nat) (avs : List AV) (H : List HE) : Option (ByteArray) := none
set_option maxRecDepth 100000 in
theorem spec_EpochLine.eq (k : Nat) (a0 : Int) : fromTop Tryz.prog spec_EpochLine.E k spec_EpochLine.a (spec_EpochLine.G k) 1000 (bodyOf Tryz.prog 94) [.v (.int .i64 a0)] [] = spec_EpochLine.f k a0 := by kernel_rfl
theorem spec_EpochLine.E_ok : EnvOk Tryz.prog spec_EpochLine.E := ⟨⟨spec_l1In.sound, callable_of (by kernel_rfl)⟩, ⟨spec_WordBytes.sound, callable_of (by kernel_rfl)⟩, ⟨spec_Sealed.sound, callable_of (by kernel_rfl)⟩, trivial⟩
theorem spec_EpochLine.sound : Sound Tryz.prog 94 spec_EpochLine.s := by
  refine func_sound (f := spec_EpochLine.a) (G := spec_EpochLine.G) (fn := Tryz.f94) (body := bodyOf Tryz.prog 94) 1000 (by kernel_rfl) spec_EpochLine.E_ok Tryz.func94 (by kernel_rfl) (by kernel_rfl) (by kernel_rfl) (ptsOk_of (by kernel_rfl)) ?_ ?_ ?_ ?_
  · intro r H x h
    unfold spec_EpochLine.a at h
    simp only at h
    split at h
    · cases h; rfl
    · cases h
  · intro q avs H; rfl
  · intro k q pt avs H x _ h; cases h
  · intro k avs H o h
    try dsimp only at h
    split at h
    · cases h; exact spec_EpochLine.eq _ _
    · cases h

def spec_Format.a : FnA (ByteArray) := ⟨16, [.tmp 2], .val, [], [], fun x H => match x, H with
  | .v (.string r), [] => some r
  | _, _ => none⟩
def spec_Format.s : Spec := mkS [.agg [.val, .val, .val, .con .str]] (fun k avs H => match avs, H with
  | [.agg [.v (.int .i64 a0_0), .v (.int .i64 a0_1), .v (.int .i64 a0_2), .con .str a0_3]], [] => some (spec_Format.f k a0_0 a0_1 a0_2 a0_3)
  | _, _ => none) (fun r => (.v (.string r), []))
def spec_Format.E : Env := [((129, []), spec_ConfigOk.s), ((139, []), spec_l3Super.s), ((94, []), spec_EpochLine.s), ((101, []), spec_l1Zeros.s)]
def spec_Format.G (k p : Nat) (avs : List AV) (H : List HE) : Option (ByteArray) := none
set_option maxRecDepth 100000 in
theorem spec_Format.eq (k : Nat) (a0_0 : Int) (a0_1 : Int) (a0_2 : Int) (a0_3 : List ByteArray) : fromTop Tryz.prog spec_Format.E k spec_Format.a (spec_Format.G k) 1000 (bodyOf Tryz.prog 92) [.agg [.v (.int .i64 a0_0), .v (.int .i64 a0_1), .v (.int .i64 a0_2), .con .str a0_3]] [] = spec_Format.f k a0_0 a0_1 a0_2 a0_3 := by kernel_rfl
theorem spec_Format.E_ok : EnvOk Tryz.prog spec_Format.E := ⟨⟨spec_ConfigOk.sound, callable_of (by kernel_rfl)⟩, ⟨spec_l3Super.sound, callable_of (by kernel_rfl)⟩, ⟨spec_EpochLine.sound, callable_of (by kernel_rfl)⟩, ⟨spec_l1Zeros.sound, callable_of (by kernel_rfl)⟩, trivial⟩
theorem spec_Format.sound : Sound Tryz.prog 92 spec_Format.s := by
  refine func_sound (f := spec_Format.a) (G := spec_Format.G) (fn := Tryz.f92) (body := bodyOf Tryz.prog 92) 1000 (by kernel_rfl) spec_Format.E_ok Tryz.func92 (by kernel_rfl) (by kernel_rfl) (by kernel_rfl) (ptsOk_of (by kernel_rfl)) ?_ ?_ ?_ ?_
  · intro r H x h
    unfold spec_Format.a at h
    simp only at h
    split at h
    · cases h; rfl
    · cases h
  · intro q avs H; rfl
  · intro k q pt avs H x _ h; cases h
  · intro k avs H o h
    try dsimp only at h
    split at h
    · cases h; exact spec_Format.eq _ _ _ _ _
    · cases h

def spec_l2With.a : FnA (ByteArray) := ⟨19, [.tmp 6], .val, [], [], fun x H => match x, H with
  | .v (.string r), [] => some r
  | _, _ => none⟩
def spec_l2With.s : Spec := mkS [.val, .val, .val] (fun k avs H => match avs, H with
  | [.v (.string a0), .v (.int .i64 a1), .v (.string a2)], [] => some (spec_l2With.f a0 a1 a2)
  | _, _ => none) (fun r => (.v (.string r), []))
def spec_l2With.E : Env := []
def spec_l2With.G (k p : Nat) (avs : List AV) (H : List HE) : Option (ByteArray) := none
set_option maxRecDepth 100000 in
theorem spec_l2With.eq (k : Nat) (a0 : ByteArray) (a1 : Int) (a2 : ByteArray) : fromTop Tryz.prog spec_l2With.E k spec_l2With.a (spec_l2With.G k) 1000 (bodyOf Tryz.prog 93) [.v (.string a0), .v (.int .i64 a1), .v (.string a2)] [] = spec_l2With.f a0 a1 a2 := by kernel_rfl
theorem spec_l2With.E_ok : EnvOk Tryz.prog spec_l2With.E := trivial
theorem spec_l2With.sound : Sound Tryz.prog 93 spec_l2With.s := by
  refine func_sound (f := spec_l2With.a) (G := spec_l2With.G) (fn := Tryz.f93) (body := bodyOf Tryz.prog 93) 1000 (by kernel_rfl) spec_l2With.E_ok Tryz.func93 (by kernel_rfl) (by kernel_rfl) (by kernel_rfl) (ptsOk_of (by kernel_rfl)) ?_ ?_ ?_ ?_
  · intro r H x h
    unfold spec_l2With.a at h
    simp only at h
    split at h
    · cases h; rfl
    · cases h
  · intro q avs H; rfl
  · intro k q pt avs H x _ h; cases h
  · intro k avs H o h
    try dsimp only at h
    split at h
    · cases h; exact spec_l2With.eq _ _ _ _
    · cases h

def spec_l1Rd_size.a : FnA (List Int × Int × Int) := ⟨24, [.tmp 6], .val, [.box [.con (.int .u8), .val]], [], fun x H => match x, H with
  | .v (.int .i64 r), [.box [.con (.int .u8) h0_0, .v (.int .i64 h0_1)]] => some (h0_0, h0_1, r)
  | _, _ => none⟩
def spec_l1Rd_size.s : Spec := mkS [.box [.con (.int .u8), .val], .val, .val] (fun k avs H => match avs, H with
  | [.box 0 0, .v (.int .i64 a1), .v (.int .i64 a2)], [.box [.con (.int .u8) a0_0, .v (.int .i64 a0_1)]] => some (spec_l1Rd_size.f a0_0 a0_1 a1 a2)
  | _, _ => none) (fun r => (.v (.int .i64 r.2.2), [.box [.con (.int .u8) r.1, .v (.int .i64 r.2.1)]]))
def spec_l1Rd_size.E : Env := [((46, []), spec_l1Rd_below.s)]
def spec_l1Rd_size.G (k p : Nat) (avs : List AV) (H : List HE) : Option (List Int × Int × Int) := none
set_option maxRecDepth 100000 in
theorem spec_l1Rd_size.eq (k : Nat) (a0_0 : List Int) (a0_1 : Int) (a1 : Int) (a2 : Int) : fromTop Tryz.prog spec_l1Rd_size.E k spec_l1Rd_size.a (spec_l1Rd_size.G k) 1000 (bodyOf Tryz.prog 95) [.box 0 0, .v (.int .i64 a1), .v (.int .i64 a2)] [.box [.con (.int .u8) a0_0, .v (.int .i64 a0_1)]] = spec_l1Rd_size.f a0_0 a0_1 a1 a2 := by kernel_rfl
theorem spec_l1Rd_size.E_ok : EnvOk Tryz.prog spec_l1Rd_size.E := ⟨⟨spec_l1Rd_below.sound, callable_of (by kernel_rfl)⟩, trivial⟩
theorem spec_l1Rd_size.sound : Sound Tryz.prog 95 spec_l1Rd_size.s := by
  refine func_sound (f := spec_l1Rd_size.a) (G := spec_l1Rd_size.G) (fn := Tryz.f95) (body := bodyOf Tryz.prog 95) 1000 (by kernel_rfl) spec_l1Rd_size.E_ok Tryz.func95 (by kernel_rfl) (by kernel_rfl) (by kernel_rfl) (ptsOk_of (by kernel_rfl)) ?_ ?_ ?_ ?_
  · intro r H x h
    unfold spec_l1Rd_size.a at h
    simp only at h
    split at h
    · cases h; rfl
    · cases h
  · intro q avs H; rfl
  · intro k q pt avs H x _ h; cases h
  · intro k avs H o h
    try dsimp only at h
    split at h
    · cases h; exact spec_l1Rd_size.eq _ _ _ _ _
    · cases h

def spec_l2Count.a : FnA (Int) := ⟨7, [.tmp 2], .val, [], [], fun x H => match x, H with
  | .v (.int .i64 r), [] => some r
  | _, _ => none⟩
def spec_l2Count.s : Spec := mkS [.agg [.val, .con (.pair (.int .i64) (.pair .str .str))]] (fun k avs H => match avs, H with
  | [.agg [.v (.string a0_0), .con (.pair (.int .i64) (.pair .str .str)) a0_1]], [] => some (spec_l2Count.f a0_0 a0_1)
  | _, _ => none) (fun r => (.v (.int .i64 r), []))
def spec_l2Count.E : Env := []
def spec_l2Count.G (k p : Nat) (avs : List AV) (H : List HE) : Option (Int) := none
set_option maxRecDepth 100000 in
theorem spec_l2Count.eq (k : Nat) (a0_0 : ByteArray) (a0_1 : List (Int × ByteArray × ByteArray)) : fromTop Tryz.prog spec_l2Count.E k spec_l2Count.a (spec_l2Count.G k) 1000 (bodyOf Tryz.prog 111) [.agg [.v (.string a0_0), .con (.pair (.int .i64) (.pair .str .str)) a0_1]] [] = spec_l2Count.f a0_0 a0_1 := by kernel_rfl
theorem spec_l2Count.E_ok : EnvOk Tryz.prog spec_l2Count.E := trivial
theorem spec_l2Count.sound : Sound Tryz.prog 111 spec_l2Count.s := by
  refine func_sound (f := spec_l2Count.a) (G := spec_l2Count.G) (fn := Tryz.f111) (body := bodyOf Tryz.prog 111) 1000 (by kernel_rfl) spec_l2Count.E_ok Tryz.func111 (by kernel_rfl) (by kernel_rfl) (by kernel_rfl) (ptsOk_of (by kernel_rfl)) ?_ ?_ ?_ ?_
  · intro r H x h
    unfold spec_l2Count.a at h
    simp only at h
    split at h
    · cases h; rfl
    · cases h
  · intro q avs H; rfl
  · intro k q pt avs H x _ h; cases h
  · intro k avs H o h
    try dsimp only at h
    split at h
    · cases h; exact spec_l2Count.eq _ _ _
    · cases h

def spec_DeviceOk.a : FnA (Bool) := ⟨68, [.tmp 2], .bool, [], [⟨14, [1, 3], [.box [.val, .con (.pair (.int .i64) (.pair .str .str))], .val], []⟩], fun x H => match x, H with
  | .bs false r, [] => some r
  | _, _ => none⟩
def spec_DeviceOk.s : Spec := mkS [.agg [.val, .con (.pair (.int .i64) (.pair .str .str))]] (fun k avs H => match avs, H with
  | [.agg [.v (.string a0_0), .con (.pair (.int .i64) (.pair .str .str)) a0_1]], [] => some (spec_DeviceOk.f k a0_0 a0_1)
  | _, _ => none) (fun r => (.bs false r, []))
def spec_DeviceOk.E : Env := [((111, []), spec_l2Count.s), ((54, []), spec_l1In.s)]
def spec_DeviceOk.G14 (k : Nat) (avs : List AV) (H : List HE) : Option (Bool) := match avs, H with
  | [.box 0 0, .v (.int .i64 x3)], [.box [.v (.string x1_0), .con (.pair (.int .i64) (.pair .str .str)) x1_1]] => spec_DeviceOk.p14 k x1_0 x1_1 x3
  | _, _ => none
def spec_DeviceOk.G (k p : Nat) (avs : List AV) (H : List HE) : Option (Bool) := (pick1 14 (spec_DeviceOk.G14 k avs H) none p)
set_option maxRecDepth 100000 in
theorem spec_DeviceOk.eq (k : Nat) (a0_0 : ByteArray) (a0_1 : List (Int × ByteArray × ByteArray)) : fromTop Tryz.prog spec_DeviceOk.E k spec_DeviceOk.a (spec_DeviceOk.G k) 1000 (bodyOf Tryz.prog 59) [.agg [.v (.string a0_0), .con (.pair (.int .i64) (.pair .str .str)) a0_1]] [] = spec_DeviceOk.f k a0_0 a0_1 := by kernel_rfl
set_option maxRecDepth 100000 in
theorem spec_DeviceOk.eq14 (k : Nat) (x1_0 : ByteArray) (x1_1 : List (Int × ByteArray × ByteArray)) (x3 : Int) : fromPt Tryz.prog spec_DeviceOk.E k spec_DeviceOk.a (spec_DeviceOk.G k) 1000 (bodyOf Tryz.prog 59) 14 [.box 0 0, .v (.int .i64 x3)] [.box [.v (.string x1_0), .con (.pair (.int .i64) (.pair .str .str)) x1_1]] = spec_DeviceOk.p14 (k + 1) x1_0 x1_1 x3 := by kernel_rfl
theorem spec_DeviceOk.G14_0 {avs : List AV} {H : List HE} : spec_DeviceOk.G14 0 avs H = none := by unfold spec_DeviceOk.G14; split <;> rfl
theorem spec_DeviceOk.G14_s (k : Nat) {avs : List AV} {H : List HE} {x : Bool} (h : spec_DeviceOk.G14 (k + 1) avs H = some x) : fromPt Tryz.prog spec_DeviceOk.E k spec_DeviceOk.a (spec_DeviceOk.G k) 1000 (bodyOf Tryz.prog 59) 14 avs H = some x := by
  unfold spec_DeviceOk.G14 at h
  split at h
  · rw [← h]; exact spec_DeviceOk.eq14 _ _ _ _
  · cases h
theorem spec_DeviceOk.E_ok : EnvOk Tryz.prog spec_DeviceOk.E := ⟨⟨spec_l2Count.sound, callable_of (by kernel_rfl)⟩, ⟨spec_l1In.sound, callable_of (by kernel_rfl)⟩, trivial⟩
theorem spec_DeviceOk.sound : Sound Tryz.prog 59 spec_DeviceOk.s := by
  refine func_sound (f := spec_DeviceOk.a) (G := spec_DeviceOk.G) (fn := Tryz.f59) (body := bodyOf Tryz.prog 59) 1000 (by kernel_rfl) spec_DeviceOk.E_ok Tryz.func59 (by kernel_rfl) (by kernel_rfl) (by kernel_rfl) (ptsOk_of (by kernel_rfl)) ?_ ?_ ?_ ?_
  · intro r H x h
    unfold spec_DeviceOk.a at h
    simp only at h
    split at h
    · cases h; rfl
    · cases h
  · exact fun q avs H => pick1_none spec_DeviceOk.G14_0 (rfl)
  · intro k q pt avs H x _ h
    rcases pick1_some h with ⟨rfl, h⟩ | h
    · exact spec_DeviceOk.G14_s _ h
    cases h
  · intro k avs H o h
    try dsimp only at h
    split at h
    · cases h; exact spec_DeviceOk.eq _ _ _
    · cases h

def spec_l2Seen.a : FnA (ByteArray) := ⟨33, [.tmp 2], .val, [], [⟨8, [1, 3, 4], [.box [.val, .con (.pair (.int .i64) (.pair .str .str))], .row 0 .bool, .val], []⟩], fun x H => match x, H with
  | .v (.string r), [] => some r
  | _, _ => none⟩
def spec_l2Seen.s : Spec := mkS [.agg [.val, .con (.pair (.int .i64) (.pair .str .str))]] (fun k avs H => match avs, H with
  | [.agg [.v (.string a0_0), .con (.pair (.int .i64) (.pair .str .str)) a0_1]], [] => some (spec_l2Seen.f k a0_0 a0_1)
  | _, _ => none) (fun r => (.v (.string r), []))
def spec_l2Seen.E : Env := []
def spec_l2Seen.G8 (k : Nat) (avs : List AV) (H : List HE) : Option (ByteArray) := match avs, H with
  | [.box 0 0, .own 1, .v (.int .i64 x4)], [.box [.v (.string x1_0), .con (.pair (.int .i64) (.pair .str .str)) x1_1], .bts x3] => spec_l2Seen.p8 k x1_0 x1_1 x3 x4
  | _, _ => none
def spec_l2Seen.G (k p : Nat) (avs : List AV) (H : List HE) : Option (ByteArray) := (pick1 8 (spec_l2Seen.G8 k avs H) none p)
set_option maxRecDepth 100000 in
theorem spec_l2Seen.eq (k : Nat) (a0_0 : ByteArray) (a0_1 : List (Int × ByteArray × ByteArray)) : fromTop Tryz.prog spec_l2Seen.E k spec_l2Seen.a (spec_l2Seen.G k) 1000 (bodyOf Tryz.prog 60) [.agg [.v (.string a0_0), .con (.pair (.int .i64) (.pair .str .str)) a0_1]] [] = spec_l2Seen.f k a0_0 a0_1 := by kernel_rfl
set_option maxRecDepth 100000 in
theorem spec_l2Seen.eq8 (k : Nat) (x1_0 : ByteArray) (x1_1 : List (Int × ByteArray × ByteArray)) (x3 : List Int) (x4 : Int) : fromPt Tryz.prog spec_l2Seen.E k spec_l2Seen.a (spec_l2Seen.G k) 1000 (bodyOf Tryz.prog 60) 8 [.box 0 0, .own 1, .v (.int .i64 x4)] [.box [.v (.string x1_0), .con (.pair (.int .i64) (.pair .str .str)) x1_1], .bts x3] = spec_l2Seen.p8 (k + 1) x1_0 x1_1 x3 x4 := by kernel_rfl
theorem spec_l2Seen.G8_0 {avs : List AV} {H : List HE} : spec_l2Seen.G8 0 avs H = none := by unfold spec_l2Seen.G8; split <;> rfl
theorem spec_l2Seen.G8_s (k : Nat) {avs : List AV} {H : List HE} {x : ByteArray} (h : spec_l2Seen.G8 (k + 1) avs H = some x) : fromPt Tryz.prog spec_l2Seen.E k spec_l2Seen.a (spec_l2Seen.G k) 1000 (bodyOf Tryz.prog 60) 8 avs H = some x := by
  unfold spec_l2Seen.G8 at h
  split at h
  · rw [← h]; exact spec_l2Seen.eq8 _ _ _ _ _
  · cases h
theorem spec_l2Seen.E_ok : EnvOk Tryz.prog spec_l2Seen.E := trivial
theorem spec_l2Seen.sound : Sound Tryz.prog 60 spec_l2Seen.s := by
  refine func_sound (f := spec_l2Seen.a) (G := spec_l2Seen.G) (fn := Tryz.f60) (body := bodyOf Tryz.prog 60) 1000 (by kernel_rfl) spec_l2Seen.E_ok Tryz.func60 (by kernel_rfl) (by kernel_rfl) (by kernel_rfl) (ptsOk_of (by kernel_rfl)) ?_ ?_ ?_ ?_
  · intro r H x h
    unfold spec_l2Seen.a at h
    simp only at h
    split at h
    · cases h; rfl
    · cases h
  · exact fun q avs H => pick1_none spec_l2Seen.G8_0 (rfl)
  · intro k q pt avs H x _ h
    rcases pick1_some h with ⟨rfl, h⟩ | h
    · exact spec_l2Seen.G8_s _ h
    cases h
  · intro k avs H o h
    try dsimp only at h
    split at h
    · cases h; exact spec_l2Seen.eq _ _ _
    · cases h

def spec_Seen.a : FnA (ByteArray) := ⟨8, [.tmp 2], .val, [], [], fun x H => match x, H with
  | .v (.string r), [] => some r
  | _, _ => none⟩
def spec_Seen.s : Spec := mkS [.agg [.val, .con (.pair (.int .i64) (.pair .str .str))]] (fun k avs H => match avs, H with
  | [.agg [.v (.string a0_0), .con (.pair (.int .i64) (.pair .str .str)) a0_1]], [] => some (spec_Seen.f k a0_0 a0_1)
  | _, _ => none) (fun r => (.v (.string r), []))
def spec_Seen.E : Env := [((59, []), spec_DeviceOk.s), ((60, []), spec_l2Seen.s)]
def spec_Seen.G (k p : Nat) (avs : List AV) (H : List HE) : Option (ByteArray) := none
set_option maxRecDepth 100000 in
theorem spec_Seen.eq (k : Nat) (a0_0 : ByteArray) (a0_1 : List (Int × ByteArray × ByteArray)) : fromTop Tryz.prog spec_Seen.E k spec_Seen.a (spec_Seen.G k) 1000 (bodyOf Tryz.prog 12) [.agg [.v (.string a0_0), .con (.pair (.int .i64) (.pair .str .str)) a0_1]] [] = spec_Seen.f k a0_0 a0_1 := by kernel_rfl
theorem spec_Seen.E_ok : EnvOk Tryz.prog spec_Seen.E := ⟨⟨spec_DeviceOk.sound, callable_of (by kernel_rfl)⟩, ⟨spec_l2Seen.sound, callable_of (by kernel_rfl)⟩, trivial⟩
theorem spec_Seen.sound : Sound Tryz.prog 12 spec_Seen.s := by
  refine func_sound (f := spec_Seen.a) (G := spec_Seen.G) (fn := Tryz.f12) (body := bodyOf Tryz.prog 12) 1000 (by kernel_rfl) spec_Seen.E_ok Tryz.func12 (by kernel_rfl) (by kernel_rfl) (by kernel_rfl) (ptsOk_of (by kernel_rfl)) ?_ ?_ ?_ ?_
  · intro r H x h
    unfold spec_Seen.a at h
    simp only at h
    split at h
    · cases h; rfl
    · cases h
  · intro q avs H; rfl
  · intro k q pt avs H x _ h; cases h
  · intro k avs H o h
    try dsimp only at h
    split at h
    · cases h; exact spec_Seen.eq _ _ _
    · cases h

def spec_l5Image.a : FnA (Bool) := ⟨15, [.tmp 4], .bool, [], [], fun x H => match x, H with
  | .bs false r, [] => some r
  | _, _ => none⟩
def spec_l5Image.s : Spec := mkS [.agg [.val, .val, .val, .con .str], .val] (fun k avs H => match avs, H with
  | [.agg [.v (.int .i64 a0_0), .v (.int .i64 a0_1), .v (.int .i64 a0_2), .con .str a0_3], .v (.string a1)], [] => some (spec_l5Image.f k a0_0 a0_1 a0_2 a0_3 a1)
  | _, _ => none) (fun r => (.bs false r, []))
def spec_l5Image.E : Env := [((129, []), spec_ConfigOk.s)]
def spec_l5Image.G (k p : Nat) (avs : List AV) (H : List HE) : Option (Bool) := none
set_option maxRecDepth 100000 in
theorem spec_l5Image.eq (k : Nat) (a0_0 : Int) (a0_1 : Int) (a0_2 : Int) (a0_3 : List ByteArray) (a1 : ByteArray) : fromTop Tryz.prog spec_l5Image.E k spec_l5Image.a (spec_l5Image.G k) 1000 (bodyOf Tryz.prog 77) [.agg [.v (.int .i64 a0_0), .v (.int .i64 a0_1), .v (.int .i64 a0_2), .con .str a0_3], .v (.string a1)] [] = spec_l5Image.f k a0_0 a0_1 a0_2 a0_3 a1 := by kernel_rfl
theorem spec_l5Image.E_ok : EnvOk Tryz.prog spec_l5Image.E := ⟨⟨spec_ConfigOk.sound, callable_of (by kernel_rfl)⟩, trivial⟩
theorem spec_l5Image.sound : Sound Tryz.prog 77 spec_l5Image.s := by
  refine func_sound (f := spec_l5Image.a) (G := spec_l5Image.G) (fn := Tryz.f77) (body := bodyOf Tryz.prog 77) 1000 (by kernel_rfl) spec_l5Image.E_ok Tryz.func77 (by kernel_rfl) (by kernel_rfl) (by kernel_rfl) (ptsOk_of (by kernel_rfl)) ?_ ?_ ?_ ?_
  · intro r H x h
    unfold spec_l5Image.a at h
    simp only at h
    split at h
    · cases h; rfl
    · cases h
  · intro q avs H; rfl
  · intro k q pt avs H x _ h; cases h
  · intro k avs H o h
    try dsimp only at h
    split at h
    · cases h; exact spec_l5Image.eq _ _ _ _ _ _
    · cases h

def spec_l5Line.a : FnA (ByteArray) := ⟨12, [.tmp 4], .val, [], [], fun x H => match x, H with
  | .v (.string r), [] => some r
  | _, _ => none⟩
def spec_l5Line.s : Spec := mkS [.val, .val] (fun k avs H => match avs, H with
  | [.v (.string a0), .v (.int .i64 a1)], [] => some (spec_l5Line.f a0 a1)
  | _, _ => none) (fun r => (.v (.string r), []))
def spec_l5Line.E : Env := []
def spec_l5Line.G (k p : Nat) (avs : List AV) (H : List HE) : Option (ByteArray) := none
set_option maxRecDepth 100000 in
theorem spec_l5Line.eq (k : Nat) (a0 : ByteArray) (a1 : Int) : fromTop Tryz.prog spec_l5Line.E k spec_l5Line.a (spec_l5Line.G k) 1000 (bodyOf Tryz.prog 66) [.v (.string a0), .v (.int .i64 a1)] [] = spec_l5Line.f a0 a1 := by kernel_rfl
theorem spec_l5Line.E_ok : EnvOk Tryz.prog spec_l5Line.E := trivial
theorem spec_l5Line.sound : Sound Tryz.prog 66 spec_l5Line.s := by
  refine func_sound (f := spec_l5Line.a) (G := spec_l5Line.G) (fn := Tryz.f66) (body := bodyOf Tryz.prog 66) 1000 (by kernel_rfl) spec_l5Line.E_ok Tryz.func66 (by kernel_rfl) (by kernel_rfl) (by kernel_rfl) (ptsOk_of (by kernel_rfl)) ?_ ?_ ?_ ?_
  · intro r H x h
    unfold spec_l5Line.a at h
    simp only at h
    split at h
    · cases h; rfl
    · cases h
  · intro q avs H; rfl
  · intro k q pt avs H x _ h; cases h
  · intro k avs H o h
    try dsimp only at h
    split at h
    · cases h; exact spec_l5Line.eq _ _ _
    · cases h

def spec_ReadWord.a : FnA (Int × Bool) := ⟨22, [.tmp 2, .tmp 3], .tup [.val, .bool], [], [⟨16, [0, 4, 5], [.val, .val, .val], []⟩], fun x H => match x, H with
  | .tup [.v (.int .i64 r_0), .bs false r_1], [] => some (r_0, r_1)
  | _, _ => none⟩
def spec_ReadWord.s : Spec := mkS [.val] (fun k avs H => match avs, H with
  | [.v (.string a0)], [] => some (spec_ReadWord.f k a0)
  | _, _ => none) (fun r => (.tup [.v (.int .i64 r.1), .bs false r.2], []))
def spec_ReadWord.E : Env := []
def spec_ReadWord.G16 (k : Nat) (avs : List AV) (H : List HE) : Option (Int × Bool) := match avs, H with
  | [.v (.string x0), .v (.int .u64 x4), .v (.int .i64 x5)], [] => spec_ReadWord.p16 k x0 x4 x5
  | _, _ => none
def spec_ReadWord.G (k p : Nat) (avs : List AV) (H : List HE) : Option (Int × Bool) := (pick1 16 (spec_ReadWord.G16 k avs H) none p)
set_option maxRecDepth 100000 in
theorem spec_ReadWord.eq (k : Nat) (a0 : ByteArray) : fromTop Tryz.prog spec_ReadWord.E k spec_ReadWord.a (spec_ReadWord.G k) 1000 (bodyOf Tryz.prog 123) [.v (.string a0)] [] = spec_ReadWord.f k a0 := by kernel_rfl
set_option maxRecDepth 100000 in
theorem spec_ReadWord.eq16 (k : Nat) (x0 : ByteArray) (x4 : Int) (x5 : Int) : fromPt Tryz.prog spec_ReadWord.E k spec_ReadWord.a (spec_ReadWord.G k) 1000 (bodyOf Tryz.prog 123) 16 [.v (.string x0), .v (.int .u64 x4), .v (.int .i64 x5)] [] = spec_ReadWord.p16 (k + 1) x0 x4 x5 := by kernel_rfl
theorem spec_ReadWord.G16_0 {avs : List AV} {H : List HE} : spec_ReadWord.G16 0 avs H = none := by unfold spec_ReadWord.G16; split <;> rfl
theorem spec_ReadWord.G16_s (k : Nat) {avs : List AV} {H : List HE} {x : Int × Bool} (h : spec_ReadWord.G16 (k + 1) avs H = some x) : fromPt Tryz.prog spec_ReadWord.E k spec_ReadWord.a (spec_ReadWord.G k) 1000 (bodyOf Tryz.prog 123) 16 avs H = some x := by
  unfold spec_ReadWord.G16 at h
  split at h
  · rw [← h]; exact spec_ReadWord.eq16 _ _ _ _
  · cases h
theorem spec_ReadWord.E_ok : EnvOk Tryz.prog spec_ReadWord.E := trivial
theorem spec_ReadWord.sound : Sound Tryz.prog 123 spec_ReadWord.s := by
  refine func_sound (f := spec_ReadWord.a) (G := spec_ReadWord.G) (fn := Tryz.f123) (body := bodyOf Tryz.prog 123) 1000 (by kernel_rfl) spec_ReadWord.E_ok Tryz.func123 (by kernel_rfl) (by kernel_rfl) (by kernel_rfl) (ptsOk_of (by kernel_rfl)) ?_ ?_ ?_ ?_
  · intro r H x h
    unfold spec_ReadWord.a at h
    simp only at h
    split at h
    · cases h; rfl
    · cases h
  · exact fun q avs H => pick1_none spec_ReadWord.G16_0 (rfl)
  · intro k q pt avs H x _ h
    rcases pick1_some h with ⟨rfl, h⟩ | h
    · exact spec_ReadWord.G16_s _ h
    cases h
  · intro k avs H o h
    try dsimp only at h
    split at h
    · cases h; exact spec_ReadWord.eq _ _
    · cases h

def spec_ReadEpoch.a : FnA (Int × Bool) := ⟨20, [.tmp 2, .tmp 3], .tup [.val, .bool], [], [], fun x H => match x, H with
  | .tup [.v (.int .i64 r_0), .bs false r_1], [] => some (r_0, r_1)
  | _, _ => none⟩
def spec_ReadEpoch.s : Spec := mkS [.val] (fun k avs H => match avs, H with
  | [.v (.string a0)], [] => some (spec_ReadEpoch.f k a0)
  | _, _ => none) (fun r => (.tup [.v (.int .i64 r.1), .bs false r.2], []))
def spec_ReadEpoch.E : Env := [((123, []), spec_ReadWord.s), ((94, []), spec_EpochLine.s)]
def spec_ReadEpoch.G (k p : Nat) (avs : List AV) (H : List HE) : Option (Int × Bool) := none
set_option maxRecDepth 100000 in
theorem spec_ReadEpoch.eq (k : Nat) (a0 : ByteArray) : fromTop Tryz.prog spec_ReadEpoch.E k spec_ReadEpoch.a (spec_ReadEpoch.G k) 1000 (bodyOf Tryz.prog 78) [.v (.string a0)] [] = spec_ReadEpoch.f k a0 := by kernel_rfl
theorem spec_ReadEpoch.E_ok : EnvOk Tryz.prog spec_ReadEpoch.E := ⟨⟨spec_ReadWord.sound, callable_of (by kernel_rfl)⟩, ⟨spec_EpochLine.sound, callable_of (by kernel_rfl)⟩, trivial⟩
theorem spec_ReadEpoch.sound : Sound Tryz.prog 78 spec_ReadEpoch.s := by
  refine func_sound (f := spec_ReadEpoch.a) (G := spec_ReadEpoch.G) (fn := Tryz.f78) (body := bodyOf Tryz.prog 78) 1000 (by kernel_rfl) spec_ReadEpoch.E_ok Tryz.func78 (by kernel_rfl) (by kernel_rfl) (by kernel_rfl) (ptsOk_of (by kernel_rfl)) ?_ ?_ ?_ ?_
  · intro r H x h
    unfold spec_ReadEpoch.a at h
    simp only at h
    split at h
    · cases h; rfl
    · cases h
  · intro q avs H; rfl
  · intro k q pt avs H x _ h; cases h
  · intro k avs H o h
    try dsimp only at h
    split at h
    · cases h; exact spec_ReadEpoch.eq _ _
    · cases h

def spec_EpochOf.a : FnA (Int) := ⟨20, [.tmp 4], .val, [], [], fun x H => match x, H with
  | .v (.int .i64 r), [] => some r
  | _, _ => none⟩
def spec_EpochOf.s : Spec := mkS [.agg [.val, .val, .val, .con .str], .val] (fun k avs H => match avs, H with
  | [.agg [.v (.int .i64 a0_0), .v (.int .i64 a0_1), .v (.int .i64 a0_2), .con .str a0_3], .v (.string a1)], [] => some (spec_EpochOf.f k a0_0 a0_1 a0_2 a0_3 a1)
  | _, _ => none) (fun r => (.v (.int .i64 r), []))
def spec_EpochOf.E : Env := [((77, []), spec_l5Image.s), ((66, []), spec_l5Line.s), ((78, []), spec_ReadEpoch.s)]
def spec_EpochOf.G (k p : Nat) (avs : List AV) (H : List HE) : Option (Int) := none
set_option maxRecDepth 100000 in
theorem spec_EpochOf.eq (k : Nat) (a0_0 : Int) (a0_1 : Int) (a0_2 : Int) (a0_3 : List ByteArray) (a1 : ByteArray) : fromTop Tryz.prog spec_EpochOf.E k spec_EpochOf.a (spec_EpochOf.G k) 1000 (bodyOf Tryz.prog 23) [.agg [.v (.int .i64 a0_0), .v (.int .i64 a0_1), .v (.int .i64 a0_2), .con .str a0_3], .v (.string a1)] [] = spec_EpochOf.f k a0_0 a0_1 a0_2 a0_3 a1 := by kernel_rfl
theorem spec_EpochOf.E_ok : EnvOk Tryz.prog spec_EpochOf.E := ⟨⟨spec_l5Image.sound, callable_of (by kernel_rfl)⟩, ⟨spec_l5Line.sound, callable_of (by kernel_rfl)⟩, ⟨spec_ReadEpoch.sound, callable_of (by kernel_rfl)⟩, trivial⟩
theorem spec_EpochOf.sound : Sound Tryz.prog 23 spec_EpochOf.s := by
  refine func_sound (f := spec_EpochOf.a) (G := spec_EpochOf.G) (fn := Tryz.f23) (body := bodyOf Tryz.prog 23) 1000 (by kernel_rfl) spec_EpochOf.E_ok Tryz.func23 (by kernel_rfl) (by kernel_rfl) (by kernel_rfl) (ptsOk_of (by kernel_rfl)) ?_ ?_ ?_ ?_
  · intro r H x h
    unfold spec_EpochOf.a at h
    simp only at h
    split at h
    · cases h; rfl
    · cases h
  · intro q avs H; rfl
  · intro k q pt avs H x _ h; cases h
  · intro k avs H o h
    try dsimp only at h
    split at h
    · cases h; exact spec_EpochOf.eq _ _ _ _ _ _
    · cases h

def spec_ReadShort.a : FnA (Int × Bool) := ⟨15, [.tmp 2, .tmp 3], .tup [.val, .bool], [], [], fun x H => match x, H with
  | .tup [.v (.int .i64 r_0), .bs false r_1], [] => some (r_0, r_1)
  | _, _ => none⟩
def spec_ReadShort.s : Spec := mkS [.val] (fun k avs H => match avs, H with
  | [.v (.string a0)], [] => some (spec_ReadShort.f a0)
  | _, _ => none) (fun r => (.tup [.v (.int .i64 r.1), .bs false r.2], []))
def spec_ReadShort.E : Env := []
def spec_ReadShort.G (k p : Nat) (avs : List AV) (H : List HE) : Option (Int × Bool) := none
set_option maxRecDepth 100000 in
theorem spec_ReadShort.eq (k : Nat) (a0 : ByteArray) : fromTop Tryz.prog spec_ReadShort.E k spec_ReadShort.a (spec_ReadShort.G k) 1000 (bodyOf Tryz.prog 122) [.v (.string a0)] [] = spec_ReadShort.f a0 := by kernel_rfl
theorem spec_ReadShort.E_ok : EnvOk Tryz.prog spec_ReadShort.E := trivial
theorem spec_ReadShort.sound : Sound Tryz.prog 122 spec_ReadShort.s := by
  refine func_sound (f := spec_ReadShort.a) (G := spec_ReadShort.G) (fn := Tryz.f122) (body := bodyOf Tryz.prog 122) 1000 (by kernel_rfl) spec_ReadShort.E_ok Tryz.func122 (by kernel_rfl) (by kernel_rfl) (by kernel_rfl) (ptsOk_of (by kernel_rfl)) ?_ ?_ ?_ ?_
  · intro r H x h
    unfold spec_ReadShort.a at h
    simp only at h
    split at h
    · cases h; rfl
    · cases h
  · intro q avs H; rfl
  · intro k q pt avs H x _ h; cases h
  · intro k avs H o h
    try dsimp only at h
    split at h
    · cases h; exact spec_ReadShort.eq _ _
    · cases h

def spec_RecordLine.a : FnA (ByteArray) := ⟨43, [.tmp 2], .val, [], [⟨5, [1, 24], [.box [.val, .val, .val, .val], .bool], []⟩], fun x H => match x, H with
  | .v (.string r), [] => some r
  | _, _ => none⟩
def spec_RecordLine.s : Spec := mkS [.agg [.val, .val, .val, .val]] (fun k avs H => match avs, H with
  | [.agg [.v (.int .i64 a0_0), .v (.int .i64 a0_1), .v (.int .i64 a0_2), .v (.string a0_3)]], [] => some (spec_RecordLine.f k a0_0 a0_1 a0_2 a0_3)
  | _, _ => none) (fun r => (.v (.string r), []))
def spec_RecordLine.E : Env := [((54, []), spec_l1In.s), ((142, []), spec_ShortBytes.s), ((141, []), spec_WordBytes.s), ((140, []), spec_Sealed.s)]
def spec_RecordLine.G5 (k : Nat) (avs : List AV) (H : List HE) : Option (ByteArray) := match avs, H with
  | [.box 0 0, .bs false x24], [.box [.v (.int .i64 x1_0), .v (.int .i64 x1_1), .v (.int .i64 x1_2), .v (.string x1_3)]] => spec_RecordLine.p5 k x1_0 x1_1 x1_2 x1_3 x24
  | _, _ => none
def spec_RecordLine.G (k p : Nat) (avs : List AV) (H : List HE) : Option (ByteArray) := (pick1 5 (spec_RecordLine.G5 k avs H) none p)
set_option maxRecDepth 100000 in
theorem spec_RecordLine.eq (k : Nat) (a0_0 : Int) (a0_1 : Int) (a0_2 : Int) (a0_3 : ByteArray) : fromTop Tryz.prog spec_RecordLine.E k spec_RecordLine.a (spec_RecordLine.G k) 1000 (bodyOf Tryz.prog 100) [.agg [.v (.int .i64 a0_0), .v (.int .i64 a0_1), .v (.int .i64 a0_2), .v (.string a0_3)]] [] = spec_RecordLine.f k a0_0 a0_1 a0_2 a0_3 := by kernel_rfl
set_option maxRecDepth 100000 in
theorem spec_RecordLine.eq5 (k : Nat) (x1_0 : Int) (x1_1 : Int) (x1_2 : Int) (x1_3 : ByteArray) (x24 : Bool) : fromPt Tryz.prog spec_RecordLine.E k spec_RecordLine.a (spec_RecordLine.G k) 1000 (bodyOf Tryz.prog 100) 5 [.box 0 0, .bs false x24] [.box [.v (.int .i64 x1_0), .v (.int .i64 x1_1), .v (.int .i64 x1_2), .v (.string x1_3)]] = spec_RecordLine.p5 (k + 1) x1_0 x1_1 x1_2 x1_3 x24 := by kernel_rfl
theorem spec_RecordLine.G5_0 {avs : List AV} {H : List HE} : spec_RecordLine.G5 0 avs H = none := by unfold spec_RecordLine.G5; split <;> rfl
theorem spec_RecordLine.G5_s (k : Nat) {avs : List AV} {H : List HE} {x : ByteArray} (h : spec_RecordLine.G5 (k + 1) avs H = some x) : fromPt Tryz.prog spec_RecordLine.E k spec_RecordLine.a (spec_RecordLine.G k) 1000 (bodyOf Tryz.prog 100) 5 avs H = some x := by
  unfold spec_RecordLine.G5 at h
  split at h
  · rw [← h]; exact spec_RecordLine.eq5 _ _ _ _ _ _
  · cases h
theorem spec_RecordLine.E_ok : EnvOk Tryz.prog spec_RecordLine.E := ⟨⟨spec_l1In.sound, callable_of (by kernel_rfl)⟩, ⟨spec_ShortBytes.sound, callable_of (by kernel_rfl)⟩, ⟨spec_WordBytes.sound, callable_of (by kernel_rfl)⟩, ⟨spec_Sealed.sound, callable_of (by kernel_rfl)⟩, trivial⟩
theorem spec_RecordLine.sound : Sound Tryz.prog 100 spec_RecordLine.s := by
  refine func_sound (f := spec_RecordLine.a) (G := spec_RecordLine.G) (fn := Tryz.f100) (body := bodyOf Tryz.prog 100) 1000 (by kernel_rfl) spec_RecordLine.E_ok Tryz.func100 (by kernel_rfl) (by kernel_rfl) (by kernel_rfl) (ptsOk_of (by kernel_rfl)) ?_ ?_ ?_ ?_
  · intro r H x h
    unfold spec_RecordLine.a at h
    simp only at h
    split at h
    · cases h; rfl
    · cases h
  · exact fun q avs H => pick1_none spec_RecordLine.G5_0 (rfl)
  · intro k q pt avs H x _ h
    rcases pick1_some h with ⟨rfl, h⟩ | h
    · exact spec_RecordLine.G5_s _ h
    cases h
  · intro k avs H o h
    try dsimp only at h
    split at h
    · cases h; exact spec_RecordLine.eq _ _ _ _ _
    · cases h

def spec_ReadRecord.a : FnA (Int × Int × Int × ByteArray × Bool) := ⟨35, [.cell 2 51, .tmp 3], .tup [.agg [.val, .val, .val, .val], .bool], [], [], fun x H => match x, H with
  | .tup [.agg [.v (.int .i64 r_0_0), .v (.int .i64 r_0_1), .v (.int .i64 r_0_2), .v (.string r_0_3)], .bs false r_1], [] => some (r_0_0, r_0_1, r_0_2, r_0_3, r_1)
  | _, _ => none⟩
def spec_ReadRecord.s : Spec := mkS [.val] (fun k avs H => match avs, H with
  | [.v (.string a0)], [] => some (spec_ReadRecord.f k a0)
  | _, _ => none) (fun r => (.tup [.agg [.v (.int .i64 r.1), .v (.int .i64 r.2.1), .v (.int .i64 r.2.2.1), .v (.string r.2.2.2.1)], .bs false r.2.2.2.2], []))
def spec_ReadRecord.E : Env := [((122, []), spec_ReadShort.s), ((123, []), spec_ReadWord.s), ((100, []), spec_RecordLine.s)]
def spec_ReadRecord.G (k p : Nat) (avs : List AV) (H : List HE) : Option (Int × Int × Int × ByteArray × Bool) := none
set_option maxRecDepth 100000 in
theorem spec_ReadRecord.eq (k : Nat) (a0 : ByteArray) : fromTop Tryz.prog spec_ReadRecord.E k spec_ReadRecord.a (spec_ReadRecord.G k) 1000 (bodyOf Tryz.prog 65) [.v (.string a0)] [] = spec_ReadRecord.f k a0 := by kernel_rfl
theorem spec_ReadRecord.E_ok : EnvOk Tryz.prog spec_ReadRecord.E := ⟨⟨spec_ReadShort.sound, callable_of (by kernel_rfl)⟩, ⟨spec_ReadWord.sound, callable_of (by kernel_rfl)⟩, ⟨spec_RecordLine.sound, callable_of (by kernel_rfl)⟩, trivial⟩
theorem spec_ReadRecord.sound : Sound Tryz.prog 65 spec_ReadRecord.s := by
  refine func_sound (f := spec_ReadRecord.a) (G := spec_ReadRecord.G) (fn := Tryz.f65) (body := bodyOf Tryz.prog 65) 1000 (by kernel_rfl) spec_ReadRecord.E_ok Tryz.func65 (by kernel_rfl) (by kernel_rfl) (by kernel_rfl) (ptsOk_of (by kernel_rfl)) ?_ ?_ ?_ ?_
  · intro r H x h
    unfold spec_ReadRecord.a at h
    simp only at h
    split at h
    · cases h; rfl
    · cases h
  · intro q avs H; rfl
  · intro k q pt avs H x _ h; cases h
  · intro k avs H o h
    try dsimp only at h
    split at h
    · cases h; exact spec_ReadRecord.eq _ _
    · cases h

def spec_l5Half.a : FnA (Bool) := ⟨23, [.tmp 4], .bool, [], [], fun x H => match x, H with
  | .bs false r, [] => some r
  | _, _ => none⟩
def spec_l5Half.s : Spec := mkS [.agg [.val, .val, .val, .con .str], .val] (fun k avs H => match avs, H with
  | [.agg [.v (.int .i64 a0_0), .v (.int .i64 a0_1), .v (.int .i64 a0_2), .con .str a0_3], .v (.int .i64 a1)], [] => some (spec_l5Half.f a0_0 a0_1 a0_2 a0_3 a1)
  | _, _ => none) (fun r => (.bs false r, []))
def spec_l5Half.E : Env := [((54, []), spec_l1In.s)]
def spec_l5Half.G (k p : Nat) (avs : List AV) (H : List HE) : Option (Bool) := none
set_option maxRecDepth 100000 in
theorem spec_l5Half.eq (k : Nat) (a0_0 : Int) (a0_1 : Int) (a0_2 : Int) (a0_3 : List ByteArray) (a1 : Int) : fromTop Tryz.prog spec_l5Half.E k spec_l5Half.a (spec_l5Half.G k) 1000 (bodyOf Tryz.prog 55) [.agg [.v (.int .i64 a0_0), .v (.int .i64 a0_1), .v (.int .i64 a0_2), .con .str a0_3], .v (.int .i64 a1)] [] = spec_l5Half.f a0_0 a0_1 a0_2 a0_3 a1 := by kernel_rfl
theorem spec_l5Half.E_ok : EnvOk Tryz.prog spec_l5Half.E := ⟨⟨spec_l1In.sound, callable_of (by kernel_rfl)⟩, trivial⟩
theorem spec_l5Half.sound : Sound Tryz.prog 55 spec_l5Half.s := by
  refine func_sound (f := spec_l5Half.a) (G := spec_l5Half.G) (fn := Tryz.f55) (body := bodyOf Tryz.prog 55) 1000 (by kernel_rfl) spec_l5Half.E_ok Tryz.func55 (by kernel_rfl) (by kernel_rfl) (by kernel_rfl) (ptsOk_of (by kernel_rfl)) ?_ ?_ ?_ ?_
  · intro r H x h
    unfold spec_l5Half.a at h
    simp only at h
    split at h
    · cases h; rfl
    · cases h
  · intro q avs H; rfl
  · intro k q pt avs H x _ h; cases h
  · intro k avs H o h
    try dsimp only at h
    split at h
    · cases h; exact spec_l5Half.eq _ _ _ _ _ _
    · cases h

def spec_l5Place.a : FnA (Int) := ⟨20, [.tmp 4], .val, [], [⟨6, [0, 1, 5], [.con (.pair (.int .i64) (.pair (.int .i64) (.pair (.int .i64) .str))), .val, .val], []⟩], fun x H => match x, H with
  | .v (.int .i64 r), [] => some r
  | _, _ => none⟩
def spec_l5Place.s : Spec := mkS [.con (.pair (.int .i64) (.pair (.int .i64) (.pair (.int .i64) .str))), .val] (fun k avs H => match avs, H with
  | [.con (.pair (.int .i64) (.pair (.int .i64) (.pair (.int .i64) .str))) a0, .v (.int .i64 a1)], [] => some (spec_l5Place.f k a0 a1)
  | _, _ => none) (fun r => (.v (.int .i64 r), []))
def spec_l5Place.E : Env := []
def spec_l5Place.G6 (k : Nat) (avs : List AV) (H : List HE) : Option (Int) := match avs, H with
  | [.con (.pair (.int .i64) (.pair (.int .i64) (.pair (.int .i64) .str))) x0, .v (.int .i64 x1), .v (.int .i64 x5)], [] => spec_l5Place.p6 k x0 x1 x5
  | _, _ => none
def spec_l5Place.G (k p : Nat) (avs : List AV) (H : List HE) : Option (Int) := (pick1 6 (spec_l5Place.G6 k avs H) none p)
set_option maxRecDepth 100000 in
theorem spec_l5Place.eq (k : Nat) (a0 : List (Int × Int × Int × ByteArray)) (a1 : Int) : fromTop Tryz.prog spec_l5Place.E k spec_l5Place.a (spec_l5Place.G k) 1000 (bodyOf Tryz.prog 67) [.con (.pair (.int .i64) (.pair (.int .i64) (.pair (.int .i64) .str))) a0, .v (.int .i64 a1)] [] = spec_l5Place.f k a0 a1 := by kernel_rfl
set_option maxRecDepth 100000 in
theorem spec_l5Place.eq6 (k : Nat) (x0 : List (Int × Int × Int × ByteArray)) (x1 : Int) (x5 : Int) : fromPt Tryz.prog spec_l5Place.E k spec_l5Place.a (spec_l5Place.G k) 1000 (bodyOf Tryz.prog 67) 6 [.con (.pair (.int .i64) (.pair (.int .i64) (.pair (.int .i64) .str))) x0, .v (.int .i64 x1), .v (.int .i64 x5)] [] = spec_l5Place.p6 (k + 1) x0 x1 x5 := by kernel_rfl
theorem spec_l5Place.G6_0 {avs : List AV} {H : List HE} : spec_l5Place.G6 0 avs H = none := by unfold spec_l5Place.G6; split <;> rfl
theorem spec_l5Place.G6_s (k : Nat) {avs : List AV} {H : List HE} {x : Int} (h : spec_l5Place.G6 (k + 1) avs H = some x) : fromPt Tryz.prog spec_l5Place.E k spec_l5Place.a (spec_l5Place.G k) 1000 (bodyOf Tryz.prog 67) 6 avs H = some x := by
  unfold spec_l5Place.G6 at h
  split at h
  · rw [← h]; exact spec_l5Place.eq6 _ _ _ _
  · cases h
theorem spec_l5Place.E_ok : EnvOk Tryz.prog spec_l5Place.E := trivial
theorem spec_l5Place.sound : Sound Tryz.prog 67 spec_l5Place.s := by
  refine func_sound (f := spec_l5Place.a) (G := spec_l5Place.G) (fn := Tryz.f67) (body := bodyOf Tryz.prog 67) 1000 (by kernel_rfl) spec_l5Place.E_ok Tryz.func67 (by kernel_rfl) (by kernel_rfl) (by kernel_rfl) (ptsOk_of (by kernel_rfl)) ?_ ?_ ?_ ?_
  · intro r H x h
    unfold spec_l5Place.a at h
    simp only at h
    split at h
    · cases h; rfl
    · cases h
  · exact fun q avs H => pick1_none spec_l5Place.G6_0 (rfl)
  · intro k q pt avs H x _ h
    rcases pick1_some h with ⟨rfl, h⟩ | h
    · exact spec_l5Place.G6_s _ h
    cases h
  · intro k avs H o h
    try dsimp only at h
    split at h
    · cases h; exact spec_l5Place.eq _ _ _
    · cases h

def spec_LogOf.a : FnA (List (Int × Int × Int × ByteArray) × Bool) := ⟨75, [.tmp 4, .tmp 5], .tup [.row 51 (.pair (.int .i64) (.pair (.int .i64) (.pair (.int .i64) .str))), .bool], [], [⟨18, [1, 2, 6, 7, 8], [.val, .box [.val, .val, .val, .con .str], .val, .row 51 (.pair (.int .i64) (.pair (.int .i64) (.pair (.int .i64) .str))), .val], []⟩, ⟨32, [1, 2, 6, 7, 8, 9, 10, 37], [.val, .box [.val, .val, .val, .con .str], .val, .row 51 (.pair (.int .i64) (.pair (.int .i64) (.pair (.int .i64) .str))), .val, .box [.val, .val, .val, .val], .bool, .bool], []⟩, ⟨40, [1, 2, 6, 7, 8, 9, 45], [.val, .box [.val, .val, .val, .con .str], .val, .row 51 (.pair (.int .i64) (.pair (.int .i64) (.pair (.int .i64) .str))), .val, .box [.val, .val, .val, .val], .bool], []⟩, ⟨46, [1, 2, 6, 7, 8, 9, 69], [.val, .box [.val, .val, .val, .con .str], .val, .row 51 (.pair (.int .i64) (.pair (.int .i64) (.pair (.int .i64) .str))), .val, .box [.val, .val, .val, .val], .bool], []⟩], fun x H => match x, H with
  | .tup [.own 0, .bs false r_1], [.row 51 (.pair (.int .i64) (.pair (.int .i64) (.pair (.int .i64) .str))) r_0] => some (r_0, r_1)
  | _, _ => none⟩
def spec_LogOf.s : Spec := mkS [.agg [.val, .val, .val, .con .str], .val] (fun k avs H => match avs, H with
  | [.agg [.v (.int .i64 a0_0), .v (.int .i64 a0_1), .v (.int .i64 a0_2), .con .str a0_3], .v (.string a1)], [] => some (spec_LogOf.f k a0_0 a0_1 a0_2 a0_3 a1)
  | _, _ => none) (fun r => (.tup [.own 0, .bs false r.2], [.row 51 (.pair (.int .i64) (.pair (.int .i64) (.pair (.int .i64) .str))) r.1]))
def spec_LogOf.E : Env := [((23, []), spec_EpochOf.s), ((66, []), spec_l5Line.s), ((65, []), spec_ReadRecord.s), ((55, []), spec_l5Half.s), ((67, []), spec_l5Place.s)]
def spec_LogOf.G18 (k : Nat) (avs : List AV) (H : List HE) : Option (List (Int × Int × Int × ByteArray) × Bool) := match avs, H with
  | [.v (.string x1), .box 0 0, .v (.int .i64 x6), .own 1, .v (.int .i64 x8)], [.box [.v (.int .i64 x2_0), .v (.int .i64 x2_1), .v (.int .i64 x2_2), .con .str x2_3], .row 51 (.pair (.int .i64) (.pair (.int .i64) (.pair (.int .i64) .str))) x7] => spec_LogOf.p18 k x1 x2_0 x2_1 x2_2 x2_3 x6 x7 x8
  | _, _ => none
def spec_LogOf.G32 (k : Nat) (avs : List AV) (H : List HE) : Option (List (Int × Int × Int × ByteArray) × Bool) := match avs, H with
  | [.v (.string x1), .box 0 0, .v (.int .i64 x6), .own 1, .v (.int .i64 x8), .box 2 0, .bs false x10, .bs false x37], [.box [.v (.int .i64 x2_0), .v (.int .i64 x2_1), .v (.int .i64 x2_2), .con .str x2_3], .row 51 (.pair (.int .i64) (.pair (.int .i64) (.pair (.int .i64) .str))) x7, .box [.v (.int .i64 x9_0), .v (.int .i64 x9_1), .v (.int .i64 x9_2), .v (.string x9_3)]] => spec_LogOf.p32 k x1 x2_0 x2_1 x2_2 x2_3 x6 x7 x8 x9_0 x9_1 x9_2 x9_3 x10 x37
  | _, _ => none
def spec_LogOf.G40 (k : Nat) (avs : List AV) (H : List HE) : Option (List (Int × Int × Int × ByteArray) × Bool) := match avs, H with
  | [.v (.string x1), .box 0 0, .v (.int .i64 x6), .own 1, .v (.int .i64 x8), .box 2 0, .bs false x45], [.box [.v (.int .i64 x2_0), .v (.int .i64 x2_1), .v (.int .i64 x2_2), .con .str x2_3], .row 51 (.pair (.int .i64) (.pair (.int .i64) (.pair (.int .i64) .str))) x7, .box [.v (.int .i64 x9_0), .v (.int .i64 x9_1), .v (.int .i64 x9_2), .v (.string x9_3)]] => spec_LogOf.p40 k x1 x2_0 x2_1 x2_2 x2_3 x6 x7 x8 x9_0 x9_1 x9_2 x9_3 x45
  | _, _ => none
def spec_LogOf.G46 (k : Nat) (avs : List AV) (H : List HE) : Option (List (Int × Int × Int × ByteArray) × Bool) := match avs, H with
  | [.v (.string x1), .box 0 0, .v (.int .i64 x6), .own 1, .v (.int .i64 x8), .box 2 0, .bs false x69], [.box [.v (.int .i64 x2_0), .v (.int .i64 x2_1), .v (.int .i64 x2_2), .con .str x2_3], .row 51 (.pair (.int .i64) (.pair (.int .i64) (.pair (.int .i64) .str))) x7, .box [.v (.int .i64 x9_0), .v (.int .i64 x9_1), .v (.int .i64 x9_2), .v (.string x9_3)]] => spec_LogOf.p46 k x1 x2_0 x2_1 x2_2 x2_3 x6 x7 x8 x9_0 x9_1 x9_2 x9_3 x69
  | _, _ => none
def spec_LogOf.G (k p : Nat) (avs : List AV) (H : List HE) : Option (List (Int × Int × Int × ByteArray) × Bool) := (pick1 18 (spec_LogOf.G18 k avs H) (pick1 32 (spec_LogOf.G32 k avs H) (pick1 40 (spec_LogOf.G40 k avs H) (pick1 46 (spec_LogOf.G46 k avs H) none p) p) p) p)
set_option maxRecDepth 100000 in
theorem spec_LogOf.eq (k : Nat) (a0_0 : Int) (a0_1 : Int) (a0_2 : Int) (a0_3 : List ByteArray) (a1 : ByteArray) : fromTop Tryz.prog spec_LogOf.E k spec_LogOf.a (spec_LogOf.G k) 1000 (bodyOf Tryz.prog 18) [.agg [.v (.int .i64 a0_0), .v (.int .i64 a0_1), .v (.int .i64 a0_2), .con .str a0_3], .v (.string a1)] [] = spec_LogOf.f k a0_0 a0_1 a0_2 a0_3 a1 := by kernel_rfl
set_option maxRecDepth 100000 in
theorem spec_LogOf.eq18 (k : Nat) (x1 : ByteArray) (x2_0 : Int) (x2_1 : Int) (x2_2 : Int) (x2_3 : List ByteArray) (x6 : Int) (x7 : List (Int × Int × Int × ByteArray)) (x8 : Int) : fromPt Tryz.prog spec_LogOf.E k spec_LogOf.a (spec_LogOf.G k) 1000 (bodyOf Tryz.prog 18) 18 [.v (.string x1), .box 0 0, .v (.int .i64 x6), .own 1, .v (.int .i64 x8)] [.box [.v (.int .i64 x2_0), .v (.int .i64 x2_1), .v (.int .i64 x2_2), .con .str x2_3], .row 51 (.pair (.int .i64) (.pair (.int .i64) (.pair (.int .i64) .str))) x7] = spec_LogOf.p18 (k + 1) x1 x2_0 x2_1 x2_2 x2_3 x6 x7 x8 := by kernel_rfl
theorem spec_LogOf.G18_0 {avs : List AV} {H : List HE} : spec_LogOf.G18 0 avs H = none := by unfold spec_LogOf.G18; split <;> rfl
theorem spec_LogOf.G18_s (k : Nat) {avs : List AV} {H : List HE} {x : List (Int × Int × Int × ByteArray) × Bool} (h : spec_LogOf.G18 (k + 1) avs H = some x) : fromPt Tryz.prog spec_LogOf.E k spec_LogOf.a (spec_LogOf.G k) 1000 (bodyOf Tryz.prog 18) 18 avs H = some x := by
  unfold spec_LogOf.G18 at h
  split at h
  · rw [← h]; exact spec_LogOf.eq18 _ _ _ _ _ _ _ _ _
  · cases h
set_option maxRecDepth 100000 in
theorem spec_LogOf.eq32 (k : Nat) (x1 : ByteArray) (x2_0 : Int) (x2_1 : Int) (x2_2 : Int) (x2_3 : List ByteArray) (x6 : Int) (x7 : List (Int × Int × Int × ByteArray)) (x8 : Int) (x9_0 : Int) (x9_1 : Int) (x9_2 : Int) (x9_3 : ByteArray) (x10 : Bool) (x37 : Bool) : fromPt Tryz.prog spec_LogOf.E k spec_LogOf.a (spec_LogOf.G k) 1000 (bodyOf Tryz.prog 18) 32 [.v (.string x1), .box 0 0, .v (.int .i64 x6), .own 1, .v (.int .i64 x8), .box 2 0, .bs false x10, .bs false x37] [.box [.v (.int .i64 x2_0), .v (.int .i64 x2_1), .v (.int .i64 x2_2), .con .str x2_3], .row 51 (.pair (.int .i64) (.pair (.int .i64) (.pair (.int .i64) .str))) x7, .box [.v (.int .i64 x9_0), .v (.int .i64 x9_1), .v (.int .i64 x9_2), .v (.string x9_3)]] = spec_LogOf.p32 (k + 1) x1 x2_0 x2_1 x2_2 x2_3 x6 x7 x8 x9_0 x9_1 x9_2 x9_3 x10 x37 := by kernel_rfl
theorem spec_LogOf.G32_0 {avs : List AV} {H : List HE} : spec_LogOf.G32 0 avs H = none := by unfold spec_LogOf.G32; split <;> rfl
theorem spec_LogOf.G32_s (k : Nat) {avs : List AV} {H : List HE} {x : List (Int × Int × Int × ByteArray) × Bool} (h : spec_LogOf.G32 (k + 1) avs H = some x) : fromPt Tryz.prog spec_LogOf.E k spec_LogOf.a (spec_LogOf.G k) 1000 (bodyOf Tryz.prog 18) 32 avs H = some x := by
  unfold spec_LogOf.G32 at h
  split at h
  · rw [← h]; exact spec_LogOf.eq32 _ _ _ _ _ _ _ _ _ _ _ _ _ _ _
  · cases h
set_option maxRecDepth 100000 in
theorem spec_LogOf.eq40 (k : Nat) (x1 : ByteArray) (x2_0 : Int) (x2_1 : Int) (x2_2 : Int) (x2_3 : List ByteArray) (x6 : Int) (x7 : List (Int × Int × Int × ByteArray)) (x8 : Int) (x9_0 : Int) (x9_1 : Int) (x9_2 : Int) (x9_3 : ByteArray) (x45 : Bool) : fromPt Tryz.prog spec_LogOf.E k spec_LogOf.a (spec_LogOf.G k) 1000 (bodyOf Tryz.prog 18) 40 [.v (.string x1), .box 0 0, .v (.int .i64 x6), .own 1, .v (.int .i64 x8), .box 2 0, .bs false x45] [.box [.v (.int .i64 x2_0), .v (.int .i64 x2_1), .v (.int .i64 x2_2), .con .str x2_3], .row 51 (.pair (.int .i64) (.pair (.int .i64) (.pair (.int .i64) .str))) x7, .box [.v (.int .i64 x9_0), .v (.int .i64 x9_1), .v (.int .i64 x9_2), .v (.string x9_3)]] = spec_LogOf.p40 (k + 1) x1 x2_0 x2_1 x2_2 x2_3 x6 x7 x8 x9_0 x9_1 x9_2 x9_3 x45 := by kernel_rfl
theorem spec_LogOf.G40_0 {avs : List AV} {H : List HE} : spec_LogOf.G40 0 avs H = none := by unfold spec_LogOf.G40; split <;> rfl
theorem spec_LogOf.G40_s (k : Nat) {avs : List AV} {H : List HE} {x : List (Int × Int × Int × ByteArray) × Bool} (h : spec_LogOf.G40 (k + 1) avs H = some x) : fromPt Tryz.prog spec_LogOf.E k spec_LogOf.a (spec_LogOf.G k) 1000 (bodyOf Tryz.prog 18) 40 avs H = some x := by
  unfold spec_LogOf.G40 at h
  split at h
  · rw [← h]; exact spec_LogOf.eq40 _ _ _ _ _ _ _ _ _ _ _ _ _ _
  · cases h
set_option maxRecDepth 100000 in
theorem spec_LogOf.eq46 (k : Nat) (x1 : ByteArray) (x2_0 : Int) (x2_1 : Int) (x2_2 : Int) (x2_3 : List ByteArray) (x6 : Int) (x7 : List (Int × Int × Int × ByteArray)) (x8 : Int) (x9_0 : Int) (x9_1 : Int) (x9_2 : Int) (x9_3 : ByteArray) (x69 : Bool) : fromPt Tryz.prog spec_LogOf.E k spec_LogOf.a (spec_LogOf.G k) 1000 (bodyOf Tryz.prog 18) 46 [.v (.string x1), .box 0 0, .v (.int .i64 x6), .own 1, .v (.int .i64 x8), .box 2 0, .bs false x69] [.box [.v (.int .i64 x2_0), .v (.int .i64 x2_1), .v (.int .i64 x2_2), .con .str x2_3], .row 51 (.pair (.int .i64) (.pair (.int .i64) (.pair (.int .i64) .str))) x7, .box [.v (.int .i64 x9_0), .v (.int .i64 x9_1), .v (.int .i64 x9_2), .v (.string x9_3)]] = spec_LogOf.p46 (k + 1) x1 x2_0 x2_1 x2_2 x2_3 x6 x7 x8 x9_0 x9_1 x9_2 x9_3 x69 := by kernel_rfl
theorem spec_LogOf.G46_0 {avs : List AV} {H : List HE} : spec_LogOf.G46 0 avs H = none := by unfold spec_LogOf.G46; split <;> rfl
theorem spec_LogOf.G46_s (k : Nat) {avs : List AV} {H : List HE} {x : List (Int × Int × Int × ByteArray) × Bool} (h : spec_LogOf.G46 (k + 1) avs H = some x) : fromPt Tryz.prog spec_LogOf.E k spec_LogOf.a (spec_LogOf.G k) 1000 (bodyOf Tryz.prog 18) 46 avs H = some x := by
  unfold spec_LogOf.G46 at h
  split at h
  · rw [← h]; exact spec_LogOf.eq46 _ _ _ _ _ _ _ _ _ _ _ _ _ _
  · cases h
theorem spec_LogOf.E_ok : EnvOk Tryz.prog spec_LogOf.E := ⟨⟨spec_EpochOf.sound, callable_of (by kernel_rfl)⟩, ⟨spec_l5Line.sound, callable_of (by kernel_rfl)⟩, ⟨spec_ReadRecord.sound, callable_of (by kernel_rfl)⟩, ⟨spec_l5Half.sound, callable_of (by kernel_rfl)⟩, ⟨spec_l5Place.sound, callable_of (by kernel_rfl)⟩, trivial⟩
theorem spec_LogOf.sound : Sound Tryz.prog 18 spec_LogOf.s := by
  refine func_sound (f := spec_LogOf.a) (G := spec_LogOf.G) (fn := Tryz.f18) (body := bodyOf Tryz.prog 18) 1000 (by kernel_rfl) spec_LogOf.E_ok Tryz.func18 (by kernel_rfl) (by kernel_rfl) (by kernel_rfl) (ptsOk_of (by kernel_rfl)) ?_ ?_ ?_ ?_
  · intro r H x h
    unfold spec_LogOf.a at h
    simp only at h
    split at h
    · cases h; rfl
    · cases h
  · exact fun q avs H => pick1_none spec_LogOf.G18_0 (pick1_none spec_LogOf.G32_0 (pick1_none spec_LogOf.G40_0 (pick1_none spec_LogOf.G46_0 (rfl))))
  · intro k q pt avs H x _ h
    rcases pick1_some h with ⟨rfl, h⟩ | h
    · exact spec_LogOf.G18_s _ h
    rcases pick1_some h with ⟨rfl, h⟩ | h
    · exact spec_LogOf.G32_s _ h
    rcases pick1_some h with ⟨rfl, h⟩ | h
    · exact spec_LogOf.G40_s _ h
    rcases pick1_some h with ⟨rfl, h⟩ | h
    · exact spec_LogOf.G46_s _ h
    cases h
  · intro k avs H o h
    try dsimp only at h
    split at h
    · cases h; exact spec_LogOf.eq _ _ _ _ _ _
    · cases h

def spec_l5Bad.a : FnA (Bool) := ⟨16, [.tmp 4], .bool, [], [], fun x H => match x, H with
  | .bs false r, [] => some r
  | _, _ => none⟩
def spec_l5Bad.s : Spec := mkS [.agg [.val, .val, .val, .con .str], .agg [.val, .con (.pair (.int .i64) (.pair .str .str))]] (fun k avs H => match avs, H with
  | [.agg [.v (.int .i64 a0_0), .v (.int .i64 a0_1), .v (.int .i64 a0_2), .con .str a0_3], .agg [.v (.string a1_0), .con (.pair (.int .i64) (.pair .str .str)) a1_1]], [] => some (spec_l5Bad.f k a0_0 a0_1 a0_2 a0_3 a1_0 a1_1)
  | _, _ => none) (fun r => (.bs false r, []))
def spec_l5Bad.E : Env := [((12, []), spec_Seen.s), ((18, []), spec_LogOf.s)]
def spec_l5Bad.G (k p : Nat) (avs : List AV) (H : List HE) : Option (Bool) := none
set_option maxRecDepth 100000 in
theorem spec_l5Bad.eq (k : Nat) (a0_0 : Int) (a0_1 : Int) (a0_2 : Int) (a0_3 : List ByteArray) (a1_0 : ByteArray) (a1_1 : List (Int × ByteArray × ByteArray)) : fromTop Tryz.prog spec_l5Bad.E k spec_l5Bad.a (spec_l5Bad.G k) 1000 (bodyOf Tryz.prog 53) [.agg [.v (.int .i64 a0_0), .v (.int .i64 a0_1), .v (.int .i64 a0_2), .con .str a0_3], .agg [.v (.string a1_0), .con (.pair (.int .i64) (.pair .str .str)) a1_1]] [] = spec_l5Bad.f k a0_0 a0_1 a0_2 a0_3 a1_0 a1_1 := by kernel_rfl
theorem spec_l5Bad.E_ok : EnvOk Tryz.prog spec_l5Bad.E := ⟨⟨spec_Seen.sound, callable_of (by kernel_rfl)⟩, ⟨spec_LogOf.sound, callable_of (by kernel_rfl)⟩, trivial⟩
theorem spec_l5Bad.sound : Sound Tryz.prog 53 spec_l5Bad.s := by
  refine func_sound (f := spec_l5Bad.a) (G := spec_l5Bad.G) (fn := Tryz.f53) (body := bodyOf Tryz.prog 53) 1000 (by kernel_rfl) spec_l5Bad.E_ok Tryz.func53 (by kernel_rfl) (by kernel_rfl) (by kernel_rfl) (ptsOk_of (by kernel_rfl)) ?_ ?_ ?_ ?_
  · intro r H x h
    unfold spec_l5Bad.a at h
    simp only at h
    split at h
    · cases h; rfl
    · cases h
  · intro q avs H; rfl
  · intro k q pt avs H x _ h; cases h
  · intro k avs H o h
    try dsimp only at h
    split at h
    · cases h; exact spec_l5Bad.eq _ _ _ _ _ _ _
    · cases h

def spec_l2Copy.a : FnA (ByteArray × List (Int × ByteArray × ByteArray)) := ⟨10, [.cell 2 29], .agg [.val, .row 89 (.pair (.int .i64) (.pair .str .str))], [], [], fun x H => match x, H with
  | .agg [.v (.string r_0), .own 0], [.row 89 (.pair (.int .i64) (.pair .str .str)) r_1] => some (r_0, r_1)
  | _, _ => none⟩
def spec_l2Copy.s : Spec := mkS [.agg [.val, .con (.pair (.int .i64) (.pair .str .str))]] (fun k avs H => match avs, H with
  | [.agg [.v (.string a0_0), .con (.pair (.int .i64) (.pair .str .str)) a0_1]], [] => some (spec_l2Copy.f a0_0 a0_1)
  | _, _ => none) (fun r => (.agg [.v (.string r.1), .own 0], [.row 89 (.pair (.int .i64) (.pair .str .str)) r.2]))
def spec_l2Copy.E : Env := []
def spec_l2Copy.G (k p : Nat) (avs : List AV) (H : List HE) : Option (ByteArray × List (Int × ByteArray × ByteArray)) := none
set_option maxRecDepth 100000 in
theorem spec_l2Copy.eq (k : Nat) (a0_0 : ByteArray) (a0_1 : List (Int × ByteArray × ByteArray)) : fromTop Tryz.prog spec_l2Copy.E k spec_l2Copy.a (spec_l2Copy.G k) 1000 (bodyOf Tryz.prog 56) [.agg [.v (.string a0_0), .con (.pair (.int .i64) (.pair .str .str)) a0_1]] [] = spec_l2Copy.f a0_0 a0_1 := by kernel_rfl
theorem spec_l2Copy.E_ok : EnvOk Tryz.prog spec_l2Copy.E := trivial
theorem spec_l2Copy.sound : Sound Tryz.prog 56 spec_l2Copy.s := by
  refine func_sound (f := spec_l2Copy.a) (G := spec_l2Copy.G) (fn := Tryz.f56) (body := bodyOf Tryz.prog 56) 1000 (by kernel_rfl) spec_l2Copy.E_ok Tryz.func56 (by kernel_rfl) (by kernel_rfl) (by kernel_rfl) (ptsOk_of (by kernel_rfl)) ?_ ?_ ?_ ?_
  · intro r H x h
    unfold spec_l2Copy.a at h
    simp only at h
    split at h
    · cases h; rfl
    · cases h
  · intro q avs H; rfl
  · intro k q pt avs H x _ h; cases h
  · intro k avs H o h
    try dsimp only at h
    split at h
    · cases h; exact spec_l2Copy.eq _ _ _
    · cases h

def spec_l5W_on.a : FnA (ByteArray × List (Int × ByteArray × ByteArray) × Int × Int × Bool × Bool) := ⟨36, [.tmp 2], .bool, [.box [.val, .con (.pair (.int .i64) (.pair .str .str)), .val, .val, .bool]], [], fun x H => match x, H with
  | .bs false r, [.box [.v (.string h0_0), .con (.pair (.int .i64) (.pair .str .str)) h0_1, .v (.int .i64 h0_2), .v (.int .i64 h0_3), .bs false h0_4]] => some (h0_0, h0_1, h0_2, h0_3, h0_4, r)
  | _, _ => none⟩
def spec_l5W_on.s : Spec := mkS [.box [.val, .con (.pair (.int .i64) (.pair .str .str)), .val, .val, .bool]] (fun k avs H => match avs, H with
  | [.box 0 0], [.box [.v (.string a0_0), .con (.pair (.int .i64) (.pair .str .str)) a0_1, .v (.int .i64 a0_2), .v (.int .i64 a0_3), .bs false a0_4]] => some (spec_l5W_on.f a0_0 a0_1 a0_2 a0_3 a0_4)
  | _, _ => none) (fun r => (.bs false r.2.2.2.2.2, [.box [.v (.string r.1), .con (.pair (.int .i64) (.pair .str .str)) r.2.1, .v (.int .i64 r.2.2.1), .v (.int .i64 r.2.2.2.1), .bs false r.2.2.2.2.1]]))
def spec_l5W_on.E : Env := []
def spec_l5W_on.G (k p : Nat) (avs : List AV) (H : List HE) : Option (ByteArray × List (Int × ByteArray × ByteArray) × Int × Int × Bool × Bool) := none
set_option maxRecDepth 100000 in
theorem spec_l5W_on.eq (k : Nat) (a0_0 : ByteArray) (a0_1 : List (Int × ByteArray × ByteArray)) (a0_2 : Int) (a0_3 : Int) (a0_4 : Bool) : fromTop Tryz.prog spec_l5W_on.E k spec_l5W_on.a (spec_l5W_on.G k) 1000 (bodyOf Tryz.prog 110) [.box 0 0] [.box [.v (.string a0_0), .con (.pair (.int .i64) (.pair .str .str)) a0_1, .v (.int .i64 a0_2), .v (.int .i64 a0_3), .bs false a0_4]] = spec_l5W_on.f a0_0 a0_1 a0_2 a0_3 a0_4 := by kernel_rfl
theorem spec_l5W_on.E_ok : EnvOk Tryz.prog spec_l5W_on.E := trivial
theorem spec_l5W_on.sound : Sound Tryz.prog 110 spec_l5W_on.s := by
  refine func_sound (f := spec_l5W_on.a) (G := spec_l5W_on.G) (fn := Tryz.f110) (body := bodyOf Tryz.prog 110) 1000 (by kernel_rfl) spec_l5W_on.E_ok Tryz.func110 (by kernel_rfl) (by kernel_rfl) (by kernel_rfl) (ptsOk_of (by kernel_rfl)) ?_ ?_ ?_ ?_
  · intro r H x h
    unfold spec_l5W_on.a at h
    simp only at h
    split at h
    · cases h; rfl
    · cases h
  · intro q avs H; rfl
  · intro k q pt avs H x _ h; cases h
  · intro k avs H o h
    try dsimp only at h
    split at h
    · cases h; exact spec_l5W_on.eq _ _ _ _ _ _
    · cases h

def spec_l2Flush.a : FnA (ByteArray × List (Int × ByteArray × ByteArray)) := ⟨36, [.cell 4 29], .agg [.val, .row 89 (.pair (.int .i64) (.pair .str .str))], [], [⟨8, [1, 4, 5, 6], [.val, .box [.val, .val], .box [.val, .row 89 (.pair (.int .i64) (.pair .str .str))], .val], []⟩, ⟨22, [1, 4, 5, 6], [.val, .box [.val, .val], .box [.val, .row 89 (.pair (.int .i64) (.pair .str .str))], .val], []⟩], fun x H => match x, H with
  | .agg [.v (.string r_0), .own 0], [.row 89 (.pair (.int .i64) (.pair .str .str)) r_1] => some (r_0, r_1)
  | _, _ => none⟩
def spec_l2Flush.s : Spec := mkS [.agg [.val, .con (.pair (.int .i64) (.pair .str .str))], .val] (fun k avs H => match avs, H with
  | [.agg [.v (.string a0_0), .con (.pair (.int .i64) (.pair .str .str)) a0_1], .v (.int .i64 a1)], [] => some (spec_l2Flush.f k a0_0 a0_1 a1)
  | _, _ => none) (fun r => (.agg [.v (.string r.1), .own 0], [.row 89 (.pair (.int .i64) (.pair .str .str)) r.2]))
def spec_l2Flush.E : Env := [((56, []), spec_l2Copy.s)]
def spec_l2Flush.G8 (k : Nat) (avs : List AV) (H : List HE) : Option (ByteArray × List (Int × ByteArray × ByteArray)) := match avs, H with
  | [.v (.int .i64 x1), .box 0 0, .box 1 0, .v (.int .i64 x6)], [.box [.v (.string x4_0), .v (.slice none 0 0)], .box [.v (.string x5_0), .own 2], .row 89 (.pair (.int .i64) (.pair .str .str)) x5_1] => spec_l2Flush.p8 k x1 x4_0 x5_0 x5_1 x6
  | _, _ => none
def spec_l2Flush.G22 (k : Nat) (avs : List AV) (H : List HE) : Option (ByteArray × List (Int × ByteArray × ByteArray)) := match avs, H with
  | [.v (.int .i64 x1), .box 0 0, .box 1 0, .v (.int .i64 x6)], [.box [.v (.string x4_0), .v (.slice none 0 0)], .box [.v (.string x5_0), .own 2], .row 89 (.pair (.int .i64) (.pair .str .str)) x5_1] => spec_l2Flush.p22 k x1 x4_0 x5_0 x5_1 x6
  | _, _ => none
def spec_l2Flush.G (k p : Nat) (avs : List AV) (H : List HE) : Option (ByteArray × List (Int × ByteArray × ByteArray)) := (pick1 8 (spec_l2Flush.G8 k avs H) (pick1 22 (spec_l2Flush.G22 k avs H) none p) p)
set_option maxRecDepth 100000 in
theorem spec_l2Flush.eq (k : Nat) (a0_0 : ByteArray) (a0_1 : List (Int × ByteArray × ByteArray)) (a1 : Int) : fromTop Tryz.prog spec_l2Flush.E k spec_l2Flush.a (spec_l2Flush.G k) 1000 (bodyOf Tryz.prog 147) [.agg [.v (.string a0_0), .con (.pair (.int .i64) (.pair .str .str)) a0_1], .v (.int .i64 a1)] [] = spec_l2Flush.f k a0_0 a0_1 a1 := by kernel_rfl
set_option maxRecDepth 100000 in
theorem spec_l2Flush.eq8 (k : Nat) (x1 : Int) (x4_0 : ByteArray) (x5_0 : ByteArray) (x5_1 : List (Int × ByteArray × ByteArray)) (x6 : Int) : fromPt Tryz.prog spec_l2Flush.E k spec_l2Flush.a (spec_l2Flush.G k) 1000 (bodyOf Tryz.prog 147) 8 [.v (.int .i64 x1), .box 0 0, .box 1 0, .v (.int .i64 x6)] [.box [.v (.string x4_0), .v (.slice none 0 0)], .box [.v (.string x5_0), .own 2], .row 89 (.pair (.int .i64) (.pair .str .str)) x5_1] = spec_l2Flush.p8 (k + 1) x1 x4_0 x5_0 x5_1 x6 := by kernel_rfl
theorem spec_l2Flush.G8_0 {avs : List AV} {H : List HE} : spec_l2Flush.G8 0 avs H = none := by unfold spec_l2Flush.G8; split <;> rfl
theorem spec_l2Flush.G8_s (k : Nat) {avs : List AV} {H : List HE} {x : ByteArray × List (Int × ByteArray × ByteArray)} (h : spec_l2Flush.G8 (k + 1) avs H = some x) : fromPt Tryz.prog spec_l2Flush.E k spec_l2Flush.a (spec_l2Flush.G k) 1000 (bodyOf Tryz.prog 147) 8 avs H = some x := by
  unfold spec_l2Flush.G8 at h
  split at h
  · rw [← h]; exact spec_l2Flush.eq8 _ _ _ _ _ _
  · cases h
set_option maxRecDepth 100000 in
theorem spec_l2Flush.eq22 (k : Nat) (x1 : Int) (x4_0 : ByteArray) (x5_0 : ByteArray) (x5_1 : List (Int × ByteArray × ByteArray)) (x6 : Int) : fromPt Tryz.prog spec_l2Flush.E k spec_l2Flush.a (spec_l2Flush.G k) 1000 (bodyOf Tryz.prog 147) 22 [.v (.int .i64 x1), .box 0 0, .box 1 0, .v (.int .i64 x6)] [.box [.v (.string x4_0), .v (.slice none 0 0)], .box [.v (.string x5_0), .own 2], .row 89 (.pair (.int .i64) (.pair .str .str)) x5_1] = spec_l2Flush.p22 (k + 1) x1 x4_0 x5_0 x5_1 x6 := by kernel_rfl
theorem spec_l2Flush.G22_0 {avs : List AV} {H : List HE} : spec_l2Flush.G22 0 avs H = none := by unfold spec_l2Flush.G22; split <;> rfl
theorem spec_l2Flush.G22_s (k : Nat) {avs : List AV} {H : List HE} {x : ByteArray × List (Int × ByteArray × ByteArray)} (h : spec_l2Flush.G22 (k + 1) avs H = some x) : fromPt Tryz.prog spec_l2Flush.E k spec_l2Flush.a (spec_l2Flush.G k) 1000 (bodyOf Tryz.prog 147) 22 avs H = some x := by
  unfold spec_l2Flush.G22 at h
  split at h
  · rw [← h]; exact spec_l2Flush.eq22 _ _ _ _ _ _
  · cases h
theorem spec_l2Flush.E_ok : EnvOk Tryz.prog spec_l2Flush.E := ⟨⟨spec_l2Copy.sound, callable_of (by kernel_rfl)⟩, trivial⟩
theorem spec_l2Flush.sound : Sound Tryz.prog 147 spec_l2Flush.s := by
  refine func_sound (f := spec_l2Flush.a) (G := spec_l2Flush.G) (fn := Tryz.f147) (body := bodyOf Tryz.prog 147) 1000 (by kernel_rfl) spec_l2Flush.E_ok Tryz.func147 (by kernel_rfl) (by kernel_rfl) (by kernel_rfl) (ptsOk_of (by kernel_rfl)) ?_ ?_ ?_ ?_
  · intro r H x h
    unfold spec_l2Flush.a at h
    simp only at h
    split at h
    · cases h; rfl
    · cases h
  · exact fun q avs H => pick1_none spec_l2Flush.G8_0 (pick1_none spec_l2Flush.G22_0 (rfl))
  · intro k q pt avs H x _ h
    rcases pick1_some h with ⟨rfl, h⟩ | h
    · exact spec_l2Flush.G8_s _ h
    rcases pick1_some h with ⟨rfl, h⟩ | h
    · exact spec_l2Flush.G22_s _ h
    cases h
  · intro k avs H o h
    try dsimp only at h
    split at h
    · cases h; exact spec_l2Flush.eq _ _ _ _
    · cases h

def spec_l5W_flush.a : FnA (ByteArray × List (Int × ByteArray × ByteArray) × Int × Int × Bool) := ⟨15, [], .tup [], [.box [.val, .con (.pair (.int .i64) (.pair .str .str)), .val, .val, .bool]], [], fun x H => match x, H with
  | .tup [], [.box [.v (.string h0_0), .con (.pair (.int .i64) (.pair .str .str)) h0_1, .v (.int .i64 h0_2), .v (.int .i64 h0_3), .bs false h0_4]] => some (h0_0, h0_1, h0_2, h0_3, h0_4)
  | _, _ => none⟩
def spec_l5W_flush.s : Spec := mkS [.box [.val, .con (.pair (.int .i64) (.pair .str .str)), .val, .val, .bool], .val] (fun k avs H => match avs, H with
  | [.box 0 0, .v (.int .i64 a1)], [.box [.v (.string a0_0), .con (.pair (.int .i64) (.pair .str .str)) a0_1, .v (.int .i64 a0_2), .v (.int .i64 a0_3), .bs false a0_4]] => some (spec_l5W_flush.f k a0_0 a0_1 a0_2 a0_3 a0_4 a1)
  | _, _ => none) (fun r => (.tup [], [.box [.v (.string r.1), .con (.pair (.int .i64) (.pair .str .str)) r.2.1, .v (.int .i64 r.2.2.1), .v (.int .i64 r.2.2.2.1), .bs false r.2.2.2.2]]))
def spec_l5W_flush.E : Env := [((110, []), spec_l5W_on.s), ((147, []), spec_l2Flush.s)]
def spec_l5W_flush.G (k p : Nat) (avs : List AV) (H : List HE) : Option (ByteArray × List (Int × ByteArray × ByteArray) × Int × Int × Bool) := none
set_option maxRecDepth 100000 in
theorem spec_l5W_flush.eq (k : Nat) (a0_0 : ByteArray) (a0_1 : List (Int × ByteArray × ByteArray)) (a0_2 : Int) (a0_3 : Int) (a0_4 : Bool) (a1 : Int) : fromTop Tryz.prog spec_l5W_flush.E k spec_l5W_flush.a (spec_l5W_flush.G k) 1000 (bodyOf Tryz.prog 108) [.box 0 0, .v (.int .i64 a1)] [.box [.v (.string a0_0), .con (.pair (.int .i64) (.pair .str .str)) a0_1, .v (.int .i64 a0_2), .v (.int .i64 a0_3), .bs false a0_4]] = spec_l5W_flush.f k a0_0 a0_1 a0_2 a0_3 a0_4 a1 := by kernel_rfl
theorem spec_l5W_flush.E_ok : EnvOk Tryz.prog spec_l5W_flush.E := ⟨⟨spec_l5W_on.sound, callable_of (by kernel_rfl)⟩, ⟨spec_l2Flush.sound, callable_of (by kernel_rfl)⟩, trivial⟩
theorem spec_l5W_flush.sound : Sound Tryz.prog 108 spec_l5W_flush.s := by
  refine func_sound (f := spec_l5W_flush.a) (G := spec_l5W_flush.G) (fn := Tryz.f108) (body := bodyOf Tryz.prog 108) 1000 (by kernel_rfl) spec_l5W_flush.E_ok Tryz.func108 (by kernel_rfl) (by kernel_rfl) (by kernel_rfl) (ptsOk_of (by kernel_rfl)) ?_ ?_ ?_ ?_
  · intro r H x h
    unfold spec_l5W_flush.a at h
    simp only at h
    split at h
    · cases h; rfl
    · cases h
  · intro q avs H; rfl
  · intro k q pt avs H x _ h; cases h
  · intro k avs H o h
    try dsimp only at h
    split at h
    · cases h; exact spec_l5W_flush.eq _ _ _ _ _ _ _
    · cases h

def spec_l2Fence.a : FnA (ByteArray × List (Int × ByteArray × ByteArray)) := ⟨47, [.cell 2 29], .agg [.val, .row 89 (.pair (.int .i64) (.pair .str .str))], [], [⟨10, [1, 2, 3, 4, 5], [.box [.val, .con (.pair (.int .i64) (.pair .str .str))], .box [.val, .val], .row 0 .bool, .box [.val, .row 89 (.pair (.int .i64) (.pair .str .str))], .val], []⟩], fun x H => match x, H with
  | .agg [.v (.string r_0), .own 0], [.row 89 (.pair (.int .i64) (.pair .str .str)) r_1] => some (r_0, r_1)
  | _, _ => none⟩
def spec_l2Fence.s : Spec := mkS [.agg [.val, .con (.pair (.int .i64) (.pair .str .str))]] (fun k avs H => match avs, H with
  | [.agg [.v (.string a0_0), .con (.pair (.int .i64) (.pair .str .str)) a0_1]], [] => some (spec_l2Fence.f k a0_0 a0_1)
  | _, _ => none) (fun r => (.agg [.v (.string r.1), .own 0], [.row 89 (.pair (.int .i64) (.pair .str .str)) r.2]))
def spec_l2Fence.E : Env := []
def spec_l2Fence.G10 (k : Nat) (avs : List AV) (H : List HE) : Option (ByteArray × List (Int × ByteArray × ByteArray)) := match avs, H with
  | [.box 0 0, .box 1 0, .own 2, .box 3 0, .v (.int .i64 x5)], [.box [.v (.string x1_0), .con (.pair (.int .i64) (.pair .str .str)) x1_1], .box [.v (.string x2_0), .v (.slice none 0 0)], .bts x3, .box [.v (.string x4_0), .own 4], .row 89 (.pair (.int .i64) (.pair .str .str)) x4_1] => spec_l2Fence.p10 k x1_0 x1_1 x2_0 x3 x4_0 x4_1 x5
  | _, _ => none
def spec_l2Fence.G (k p : Nat) (avs : List AV) (H : List HE) : Option (ByteArray × List (Int × ByteArray × ByteArray)) := (pick1 10 (spec_l2Fence.G10 k avs H) none p)
set_option maxRecDepth 100000 in
theorem spec_l2Fence.eq (k : Nat) (a0_0 : ByteArray) (a0_1 : List (Int × ByteArray × ByteArray)) : fromTop Tryz.prog spec_l2Fence.E k spec_l2Fence.a (spec_l2Fence.G k) 1000 (bodyOf Tryz.prog 148) [.agg [.v (.string a0_0), .con (.pair (.int .i64) (.pair .str .str)) a0_1]] [] = spec_l2Fence.f k a0_0 a0_1 := by kernel_rfl
set_option maxRecDepth 100000 in
theorem spec_l2Fence.eq10 (k : Nat) (x1_0 : ByteArray) (x1_1 : List (Int × ByteArray × ByteArray)) (x2_0 : ByteArray) (x3 : List Int) (x4_0 : ByteArray) (x4_1 : List (Int × ByteArray × ByteArray)) (x5 : Int) : fromPt Tryz.prog spec_l2Fence.E k spec_l2Fence.a (spec_l2Fence.G k) 1000 (bodyOf Tryz.prog 148) 10 [.box 0 0, .box 1 0, .own 2, .box 3 0, .v (.int .i64 x5)] [.box [.v (.string x1_0), .con (.pair (.int .i64) (.pair .str .str)) x1_1], .box [.v (.string x2_0), .v (.slice none 0 0)], .bts x3, .box [.v (.string x4_0), .own 4], .row 89 (.pair (.int .i64) (.pair .str .str)) x4_1] = spec_l2Fence.p10 (k + 1) x1_0 x1_1 x2_0 x3 x4_0 x4_1 x5 := by kernel_rfl
theorem spec_l2Fence.G10_0 {avs : List AV} {H : List HE} : spec_l2Fence.G10 0 avs H = none := by unfold spec_l2Fence.G10; split <;> rfl
theorem spec_l2Fence.G10_s (k : Nat) {avs : List AV} {H : List HE} {x : ByteArray × List (Int × ByteArray × ByteArray)} (h : spec_l2Fence.G10 (k + 1) avs H = some x) : fromPt Tryz.prog spec_l2Fence.E k spec_l2Fence.a (spec_l2Fence.G k) 1000 (bodyOf Tryz.prog 148) 10 avs H = some x := by
  unfold spec_l2Fence.G10 at h
  split at h
  · rw [← h]; exact spec_l2Fence.eq10 _ _ _ _ _ _ _ _
  · cases h
theorem spec_l2Fence.E_ok : EnvOk Tryz.prog spec_l2Fence.E := trivial
theorem spec_l2Fence.sound : Sound Tryz.prog 148 spec_l2Fence.s := by
  refine func_sound (f := spec_l2Fence.a) (G := spec_l2Fence.G) (fn := Tryz.f148) (body := bodyOf Tryz.prog 148) 1000 (by kernel_rfl) spec_l2Fence.E_ok Tryz.func148 (by kernel_rfl) (by kernel_rfl) (by kernel_rfl) (ptsOk_of (by kernel_rfl)) ?_ ?_ ?_ ?_
  · intro r H x h
    unfold spec_l2Fence.a at h
    simp only at h
    split at h
    · cases h; rfl
    · cases h
  · exact fun q avs H => pick1_none spec_l2Fence.G10_0 (rfl)
  · intro k q pt avs H x _ h
    rcases pick1_some h with ⟨rfl, h⟩ | h
    · exact spec_l2Fence.G10_s _ h
    cases h
  · intro k avs H o h
    try dsimp only at h
    split at h
    · cases h; exact spec_l2Fence.eq _ _ _
    · cases h

def spec_l5W_fence.a : FnA (ByteArray × List (Int × ByteArray × ByteArray) × Int × Int × Bool) := ⟨12, [], .tup [], [.box [.val, .con (.pair (.int .i64) (.pair .str .str)), .val, .val, .bool]], [], fun x H => match x, H with
  | .tup [], [.box [.v (.string h0_0), .con (.pair (.int .i64) (.pair .str .str)) h0_1, .v (.int .i64 h0_2), .v (.int .i64 h0_3), .bs false h0_4]] => some (h0_0, h0_1, h0_2, h0_3, h0_4)
  | _, _ => none⟩
def spec_l5W_fence.s : Spec := mkS [.box [.val, .con (.pair (.int .i64) (.pair .str .str)), .val, .val, .bool]] (fun k avs H => match avs, H with
  | [.box 0 0], [.box [.v (.string a0_0), .con (.pair (.int .i64) (.pair .str .str)) a0_1, .v (.int .i64 a0_2), .v (.int .i64 a0_3), .bs false a0_4]] => some (spec_l5W_fence.f k a0_0 a0_1 a0_2 a0_3 a0_4)
  | _, _ => none) (fun r => (.tup [], [.box [.v (.string r.1), .con (.pair (.int .i64) (.pair .str .str)) r.2.1, .v (.int .i64 r.2.2.1), .v (.int .i64 r.2.2.2.1), .bs false r.2.2.2.2]]))
def spec_l5W_fence.E : Env := [((110, []), spec_l5W_on.s), ((148, []), spec_l2Fence.s)]
def spec_l5W_fence.G (k p : Nat) (avs : List AV) (H : List HE) : Option (ByteArray × List (Int × ByteArray × ByteArray) × Int × Int × Bool) := none
set_option maxRecDepth 100000 in
theorem spec_l5W_fence.eq (k : Nat) (a0_0 : ByteArray) (a0_1 : List (Int × ByteArray × ByteArray)) (a0_2 : Int) (a0_3 : Int) (a0_4 : Bool) : fromTop Tryz.prog spec_l5W_fence.E k spec_l5W_fence.a (spec_l5W_fence.G k) 1000 (bodyOf Tryz.prog 109) [.box 0 0] [.box [.v (.string a0_0), .con (.pair (.int .i64) (.pair .str .str)) a0_1, .v (.int .i64 a0_2), .v (.int .i64 a0_3), .bs false a0_4]] = spec_l5W_fence.f k a0_0 a0_1 a0_2 a0_3 a0_4 := by kernel_rfl
theorem spec_l5W_fence.E_ok : EnvOk Tryz.prog spec_l5W_fence.E := ⟨⟨spec_l5W_on.sound, callable_of (by kernel_rfl)⟩, ⟨spec_l2Fence.sound, callable_of (by kernel_rfl)⟩, trivial⟩
theorem spec_l5W_fence.sound : Sound Tryz.prog 109 spec_l5W_fence.s := by
  refine func_sound (f := spec_l5W_fence.a) (G := spec_l5W_fence.G) (fn := Tryz.f109) (body := bodyOf Tryz.prog 109) 1000 (by kernel_rfl) spec_l5W_fence.E_ok Tryz.func109 (by kernel_rfl) (by kernel_rfl) (by kernel_rfl) (ptsOk_of (by kernel_rfl)) ?_ ?_ ?_ ?_
  · intro r H x h
    unfold spec_l5W_fence.a at h
    simp only at h
    split at h
    · cases h; rfl
    · cases h
  · intro q avs H; rfl
  · intro k q pt avs H x _ h; cases h
  · intro k avs H o h
    try dsimp only at h
    split at h
    · cases h; exact spec_l5W_fence.eq _ _ _ _ _ _
    · cases h

def spec_l2Store.a : FnA (ByteArray × List (Int × ByteArray × ByteArray)) := ⟨95, [.cell 6 29], .agg [.val, .row 89 (.pair (.int .i64) (.pair .str .str))], [], [⟨12, [1, 2, 3, 6, 7, 8, 9, 10], [.val, .val, .box [.val, .con (.pair (.int .i64) (.pair .str .str))], .box [.val, .val], .val, .box [.val, .row 89 (.pair (.int .i64) (.pair .str .str))], .bool, .val], []⟩, ⟨26, [1, 2, 3, 6, 7, 8, 9, 10, 11, 36], [.val, .val, .box [.val, .con (.pair (.int .i64) (.pair .str .str))], .box [.val, .val], .val, .box [.val, .row 89 (.pair (.int .i64) (.pair .str .str))], .bool, .val, .box [.val, .val, .val], .bool], []⟩, ⟨31, [1, 2, 3, 6, 7, 8, 9, 10, 11], [.val, .val, .box [.val, .con (.pair (.int .i64) (.pair .str .str))], .box [.val, .val], .val, .box [.val, .row 89 (.pair (.int .i64) (.pair .str .str))], .bool, .val, .box [.val, .val, .val]], []⟩, ⟨39, [1, 2, 3, 6, 7, 8, 9, 10, 11], [.val, .val, .box [.val, .con (.pair (.int .i64) (.pair .str .str))], .box [.val, .val], .val, .box [.val, .row 89 (.pair (.int .i64) (.pair .str .str))], .bool, .val, .box [.val, .val, .val]], []⟩], fun x H => match x, H with
  | .agg [.v (.string r_0), .own 0], [.row 89 (.pair (.int .i64) (.pair .str .str)) r_1] => some (r_0, r_1)
  | _, _ => none⟩
def spec_l2Store.s : Spec := mkS [.agg [.val, .con (.pair (.int .i64) (.pair .str .str))], .val, .val] (fun k avs H => match avs, H with
  | [.agg [.v (.string a0_0), .con (.pair (.int .i64) (.pair .str .str)) a0_1], .v (.int .i64 a1), .v (.string a2)], [] => some (spec_l2Store.f k a0_0 a0_1 a1 a2)
  | _, _ => none) (fun r => (.agg [.v (.string r.1), .own 0], [.row 89 (.pair (.int .i64) (.pair .str .str)) r.2]))
def spec_l2Store.E : Env := [((93, []), spec_l2With.s)]
def spec_l2Store.G12 (k : Nat) (avs : List AV) (H : List HE) : Option (ByteArray × List (Int × ByteArray × ByteArray)) := match avs, H with
  | [.v (.int .i64 x1), .v (.string x2), .box 0 0, .box 1 0, .v (.int .i64 x7), .box 2 0, .bs false x9, .v (.int .i64 x10)], [.box [.v (.string x3_0), .con (.pair (.int .i64) (.pair .str .str)) x3_1], .box [.v (.string x6_0), .v (.slice none 0 0)], .box [.v (.string x8_0), .own 3], .row 89 (.pair (.int .i64) (.pair .str .str)) x8_1] => spec_l2Store.p12 k x1 x2 x3_0 x3_1 x6_0 x7 x8_0 x8_1 x9 x10
  | _, _ => none
def spec_l2Store.G26 (k : Nat) (avs : List AV) (H : List HE) : Option (ByteArray × List (Int × ByteArray × ByteArray)) := match avs, H with
  | [.v (.int .i64 x1), .v (.string x2), .box 0 0, .box 1 0, .v (.int .i64 x7), .box 2 0, .bs false x9, .v (.int .i64 x10), .box 4 0, .bs false x36], [.box [.v (.string x3_0), .con (.pair (.int .i64) (.pair .str .str)) x3_1], .box [.v (.string x6_0), .v (.slice none 0 0)], .box [.v (.string x8_0), .own 3], .row 89 (.pair (.int .i64) (.pair .str .str)) x8_1, .box [.v (.int .i64 x11_0), .v (.string x11_1), .v (.string x11_2)]] => spec_l2Store.p26 k x1 x2 x3_0 x3_1 x6_0 x7 x8_0 x8_1 x9 x10 x11_0 x11_1 x11_2 x36
  | _, _ => none
def spec_l2Store.G31 (k : Nat) (avs : List AV) (H : List HE) : Option (ByteArray × List (Int × ByteArray × ByteArray)) := match avs, H with
  | [.v (.int .i64 x1), .v (.string x2), .box 0 0, .box 1 0, .v (.int .i64 x7), .box 2 0, .bs false x9, .v (.int .i64 x10), .box 4 0], [.box [.v (.string x3_0), .con (.pair (.int .i64) (.pair .str .str)) x3_1], .box [.v (.string x6_0), .v (.slice none 0 0)], .box [.v (.string x8_0), .own 3], .row 89 (.pair (.int .i64) (.pair .str .str)) x8_1, .box [.v (.int .i64 x11_0), .v (.string x11_1), .v (.string x11_2)]] => spec_l2Store.p31 k x1 x2 x3_0 x3_1 x6_0 x7 x8_0 x8_1 x9 x10 x11_0 x11_1 x11_2
  | _, _ => none
def spec_l2Store.G39 (k : Nat) (avs : List AV) (H : List HE) : Option (ByteArray × List (Int × ByteArray × ByteArray)) := match avs, H with
  | [.v (.int .i64 x1), .v (.string x2), .box 0 0, .box 1 0, .v (.int .i64 x7), .box 2 0, .bs false x9, .v (.int .i64 x10), .box 4 0], [.box [.v (.string x3_0), .con (.pair (.int .i64) (.pair .str .str)) x3_1], .box [.v (.string x6_0), .v (.slice none 0 0)], .box [.v (.string x8_0), .own 3], .row 89 (.pair (.int .i64) (.pair .str .str)) x8_1, .box [.v (.int .i64 x11_0), .v (.string x11_1), .v (.string x11_2)]] => spec_l2Store.p39 k x1 x2 x3_0 x3_1 x6_0 x7 x8_0 x8_1 x9 x10 x11_0 x11_1 x11_2
  | _, _ => none
def spec_l2Store.G (k p : Nat) (avs : List AV) (H : List HE) : Option (ByteArray × List (Int × ByteArray × ByteArray)) := (pick1 12 (spec_l2Store.G12 k avs H) (pick1 26 (spec_l2Store.G26 k avs H) (pick1 31 (spec_l2Store.G31 k avs H) (pick1 39 (spec_l2Store.G39 k avs H) none p) p) p) p)
set_option maxRecDepth 100000 in
theorem spec_l2Store.eq (k : Nat) (a0_0 : ByteArray) (a0_1 : List (Int × ByteArray × ByteArray)) (a1 : Int) (a2 : ByteArray) : fromTop Tryz.prog spec_l2Store.E k spec_l2Store.a (spec_l2Store.G k) 1000 (bodyOf Tryz.prog 99) [.agg [.v (.string a0_0), .con (.pair (.int .i64) (.pair .str .str)) a0_1], .v (.int .i64 a1), .v (.string a2)] [] = spec_l2Store.f k a0_0 a0_1 a1 a2 := by kernel_rfl
set_option maxRecDepth 100000 in
theorem spec_l2Store.eq12 (k : Nat) (x1 : Int) (x2 : ByteArray) (x3_0 : ByteArray) (x3_1 : List (Int × ByteArray × ByteArray)) (x6_0 : ByteArray) (x7 : Int) (x8_0 : ByteArray) (x8_1 : List (Int × ByteArray × ByteArray)) (x9 : Bool) (x10 : Int) : fromPt Tryz.prog spec_l2Store.E k spec_l2Store.a (spec_l2Store.G k) 1000 (bodyOf Tryz.prog 99) 12 [.v (.int .i64 x1), .v (.string x2), .box 0 0, .box 1 0, .v (.int .i64 x7), .box 2 0, .bs false x9, .v (.int .i64 x10)] [.box [.v (.string x3_0), .con (.pair (.int .i64) (.pair .str .str)) x3_1], .box [.v (.string x6_0), .v (.slice none 0 0)], .box [.v (.string x8_0), .own 3], .row 89 (.pair (.int .i64) (.pair .str .str)) x8_1] = spec_l2Store.p12 (k + 1) x1 x2 x3_0 x3_1 x6_0 x7 x8_0 x8_1 x9 x10 := by kernel_rfl
theorem spec_l2Store.G12_0 {avs : List AV} {H : List HE} : spec_l2Store.G12 0 avs H = none := by unfold spec_l2Store.G12; split <;> rfl
theorem spec_l2Store.G12_s (k : Nat) {avs : List AV} {H : List HE} {x : ByteArray × List (Int × ByteArray × ByteArray)} (h : spec_l2Store.G12 (k + 1) avs H = some x) : fromPt Tryz.prog spec_l2Store.E k spec_l2Store.a (spec_l2Store.G k) 1000 (bodyOf Tryz.prog 99) 12 avs H = some x := by
  unfold spec_l2Store.G12 at h
  split at h
  · rw [← h]; exact spec_l2Store.eq12 _ _ _ _ _ _ _ _ _ _ _
  · cases h
set_option maxRecDepth 100000 in
theorem spec_l2Store.eq26 (k : Nat) (x1 : Int) (x2 : ByteArray) (x3_0 : ByteArray) (x3_1 : List (Int × ByteArray × ByteArray)) (x6_0 : ByteArray) (x7 : Int) (x8_0 : ByteArray) (x8_1 : List (Int × ByteArray × ByteArray)) (x9 : Bool) (x10 : Int) (x11_0 : Int) (x11_1 : ByteArray) (x11_2 : ByteArray) (x36 : Bool) : fromPt Tryz.prog spec_l2Store.E k spec_l2Store.a (spec_l2Store.G k) 1000 (bodyOf Tryz.prog 99) 26 [.v (.int .i64 x1), .v (.string x2), .box 0 0, .box 1 0, .v (.int .i64 x7), .box 2 0, .bs false x9, .v (.int .i64 x10), .box 4 0, .bs false x36] [.box [.v (.string x3_0), .con (.pair (.int .i64) (.pair .str .str)) x3_1], .box [.v (.string x6_0), .v (.slice none 0 0)], .box [.v (.string x8_0), .own 3], .row 89 (.pair (.int .i64) (.pair .str .str)) x8_1, .box [.v (.int .i64 x11_0), .v (.string x11_1), .v (.string x11_2)]] = spec_l2Store.p26 (k + 1) x1 x2 x3_0 x3_1 x6_0 x7 x8_0 x8_1 x9 x10 x11_0 x11_1 x11_2 x36 := by kernel_rfl
theorem spec_l2Store.G26_0 {avs : List AV} {H : List HE} : spec_l2Store.G26 0 avs H = none := by unfold spec_l2Store.G26; split <;> rfl
theorem spec_l2Store.G26_s (k : Nat) {avs : List AV} {H : List HE} {x : ByteArray × List (Int × ByteArray × ByteArray)} (h : spec_l2Store.G26 (k + 1) avs H = some x) : fromPt Tryz.prog spec_l2Store.E k spec_l2Store.a (spec_l2Store.G k) 1000 (bodyOf Tryz.prog 99) 26 avs H = some x := by
  unfold spec_l2Store.G26 at h
  split at h
  · rw [← h]; exact spec_l2Store.eq26 _ _ _ _ _ _ _ _ _ _ _ _ _ _ _
  · cases h
set_option maxRecDepth 100000 in
theorem spec_l2Store.eq31 (k : Nat) (x1 : Int) (x2 : ByteArray) (x3_0 : ByteArray) (x3_1 : List (Int × ByteArray × ByteArray)) (x6_0 : ByteArray) (x7 : Int) (x8_0 : ByteArray) (x8_1 : List (Int × ByteArray × ByteArray)) (x9 : Bool) (x10 : Int) (x11_0 : Int) (x11_1 : ByteArray) (x11_2 : ByteArray) : fromPt Tryz.prog spec_l2Store.E k spec_l2Store.a (spec_l2Store.G k) 1000 (bodyOf Tryz.prog 99) 31 [.v (.int .i64 x1), .v (.string x2), .box 0 0, .box 1 0, .v (.int .i64 x7), .box 2 0, .bs false x9, .v (.int .i64 x10), .box 4 0] [.box [.v (.string x3_0), .con (.pair (.int .i64) (.pair .str .str)) x3_1], .box [.v (.string x6_0), .v (.slice none 0 0)], .box [.v (.string x8_0), .own 3], .row 89 (.pair (.int .i64) (.pair .str .str)) x8_1, .box [.v (.int .i64 x11_0), .v (.string x11_1), .v (.string x11_2)]] = spec_l2Store.p31 (k + 1) x1 x2 x3_0 x3_1 x6_0 x7 x8_0 x8_1 x9 x10 x11_0 x11_1 x11_2 := by kernel_rfl
theorem spec_l2Store.G31_0 {avs : List AV} {H : List HE} : spec_l2Store.G31 0 avs H = none := by unfold spec_l2Store.G31; split <;> rfl
theorem spec_l2Store.G31_s (k : Nat) {avs : List AV} {H : List HE} {x : ByteArray × List (Int × ByteArray × ByteArray)} (h : spec_l2Store.G31 (k + 1) avs H = some x) : fromPt Tryz.prog spec_l2Store.E k spec_l2Store.a (spec_l2Store.G k) 1000 (bodyOf Tryz.prog 99) 31 avs H = some x := by
  unfold spec_l2Store.G31 at h
  split at h
  · rw [← h]; exact spec_l2Store.eq31 _ _ _ _ _ _ _ _ _ _ _ _ _ _
  · cases h
set_option maxRecDepth 100000 in
theorem spec_l2Store.eq39 (k : Nat) (x1 : Int) (x2 : ByteArray) (x3_0 : ByteArray) (x3_1 : List (Int × ByteArray × ByteArray)) (x6_0 : ByteArray) (x7 : Int) (x8_0 : ByteArray) (x8_1 : List (Int × ByteArray × ByteArray)) (x9 : Bool) (x10 : Int) (x11_0 : Int) (x11_1 : ByteArray) (x11_2 : ByteArray) : fromPt Tryz.prog spec_l2Store.E k spec_l2Store.a (spec_l2Store.G k) 1000 (bodyOf Tryz.prog 99) 39 [.v (.int .i64 x1), .v (.string x2), .box 0 0, .box 1 0, .v (.int .i64 x7), .box 2 0, .bs false x9, .v (.int .i64 x10), .box 4 0] [.box [.v (.string x3_0), .con (.pair (.int .i64) (.pair .str .str)) x3_1], .box [.v (.string x6_0), .v (.slice none 0 0)], .box [.v (.string x8_0), .own 3], .row 89 (.pair (.int .i64) (.pair .str .str)) x8_1, .box [.v (.int .i64 x11_0), .v (.string x11_1), .v (.string x11_2)]] = spec_l2Store.p39 (k + 1) x1 x2 x3_0 x3_1 x6_0 x7 x8_0 x8_1 x9 x10 x11_0 x11_1 x11_2 := by kernel_rfl
theorem spec_l2Store.G39_0 {avs : List AV} {H : List HE} : spec_l2Store.G39 0 avs H = none := by unfold spec_l2Store.G39; split <;> rfl
theorem spec_l2Store.G39_s (k : Nat) {avs : List AV} {H : List HE} {x : ByteArray × List (Int × ByteArray × ByteArray)} (h : spec_l2Store.G39 (k + 1) avs H = some x) : fromPt Tryz.prog spec_l2Store.E k spec_l2Store.a (spec_l2Store.G k) 1000 (bodyOf Tryz.prog 99) 39 avs H = some x := by
  unfold spec_l2Store.G39 at h
  split at h
  · rw [← h]; exact spec_l2Store.eq39 _ _ _ _ _ _ _ _ _ _ _ _ _ _
  · cases h
theorem spec_l2Store.E_ok : EnvOk Tryz.prog spec_l2Store.E := ⟨⟨spec_l2With.sound, callable_of (by kernel_rfl)⟩, trivial⟩
theorem spec_l2Store.sound : Sound Tryz.prog 99 spec_l2Store.s := by
  refine func_sound (f := spec_l2Store.a) (G := spec_l2Store.G) (fn := Tryz.f99) (body := bodyOf Tryz.prog 99) 1000 (by kernel_rfl) spec_l2Store.E_ok Tryz.func99 (by kernel_rfl) (by kernel_rfl) (by kernel_rfl) (ptsOk_of (by kernel_rfl)) ?_ ?_ ?_ ?_
  · intro r H x h
    unfold spec_l2Store.a at h
    simp only at h
    split at h
    · cases h; rfl
    · cases h
  · exact fun q avs H => pick1_none spec_l2Store.G12_0 (pick1_none spec_l2Store.G26_0 (pick1_none spec_l2Store.G31_0 (pick1_none spec_l2Store.G39_0 (rfl))))
  · intro k q pt avs H x _ h
    rcases pick1_some h with ⟨rfl, h⟩ | h
    · exact spec_l2Store.G12_s _ h
    rcases pick1_some h with ⟨rfl, h⟩ | h
    · exact spec_l2Store.G26_s _ h
    rcases pick1_some h with ⟨rfl, h⟩ | h
    · exact spec_l2Store.G31_s _ h
    rcases pick1_some h with ⟨rfl, h⟩ | h
    · exact spec_l2Store.G39_s _ h
    cases h
  · intro k avs H o h
    try dsimp only at h
    split at h
    · cases h; exact spec_l2Store.eq _ _ _ _ _
    · cases h

def spec_l5W_store.a : FnA (ByteArray × List (Int × ByteArray × ByteArray) × Int × Int × Bool) := ⟨18, [], .tup [], [.box [.val, .con (.pair (.int .i64) (.pair .str .str)), .val, .val, .bool]], [], fun x H => match x, H with
  | .tup [], [.box [.v (.string h0_0), .con (.pair (.int .i64) (.pair .str .str)) h0_1, .v (.int .i64 h0_2), .v (.int .i64 h0_3), .bs false h0_4]] => some (h0_0, h0_1, h0_2, h0_3, h0_4)
  | _, _ => none⟩
def spec_l5W_store.s : Spec := mkS [.box [.val, .con (.pair (.int .i64) (.pair .str .str)), .val, .val, .bool], .val, .val] (fun k avs H => match avs, H with
  | [.box 0 0, .v (.int .i64 a1), .v (.string a2)], [.box [.v (.string a0_0), .con (.pair (.int .i64) (.pair .str .str)) a0_1, .v (.int .i64 a0_2), .v (.int .i64 a0_3), .bs false a0_4]] => some (spec_l5W_store.f k a0_0 a0_1 a0_2 a0_3 a0_4 a1 a2)
  | _, _ => none) (fun r => (.tup [], [.box [.v (.string r.1), .con (.pair (.int .i64) (.pair .str .str)) r.2.1, .v (.int .i64 r.2.2.1), .v (.int .i64 r.2.2.2.1), .bs false r.2.2.2.2]]))
def spec_l5W_store.E : Env := [((110, []), spec_l5W_on.s), ((99, []), spec_l2Store.s)]
def spec_l5W_store.G (k p : Nat) (avs : List AV) (H : List HE) : Option (ByteArray × List (Int × ByteArray × ByteArray) × Int × Int × Bool) := none
set_option maxRecDepth 100000 in
theorem spec_l5W_store.eq (k : Nat) (a0_0 : ByteArray) (a0_1 : List (Int × ByteArray × ByteArray)) (a0_2 : Int) (a0_3 : Int) (a0_4 : Bool) (a1 : Int) (a2 : ByteArray) : fromTop Tryz.prog spec_l5W_store.E k spec_l5W_store.a (spec_l5W_store.G k) 1000 (bodyOf Tryz.prog 58) [.box 0 0, .v (.int .i64 a1), .v (.string a2)] [.box [.v (.string a0_0), .con (.pair (.int .i64) (.pair .str .str)) a0_1, .v (.int .i64 a0_2), .v (.int .i64 a0_3), .bs false a0_4]] = spec_l5W_store.f k a0_0 a0_1 a0_2 a0_3 a0_4 a1 a2 := by kernel_rfl
theorem spec_l5W_store.E_ok : EnvOk Tryz.prog spec_l5W_store.E := ⟨⟨spec_l5W_on.sound, callable_of (by kernel_rfl)⟩, ⟨spec_l2Store.sound, callable_of (by kernel_rfl)⟩, trivial⟩
theorem spec_l5W_store.sound : Sound Tryz.prog 58 spec_l5W_store.s := by
  refine func_sound (f := spec_l5W_store.a) (G := spec_l5W_store.G) (fn := Tryz.f58) (body := bodyOf Tryz.prog 58) 1000 (by kernel_rfl) spec_l5W_store.E_ok Tryz.func58 (by kernel_rfl) (by kernel_rfl) (by kernel_rfl) (ptsOk_of (by kernel_rfl)) ?_ ?_ ?_ ?_
  · intro r H x h
    unfold spec_l5W_store.a at h
    simp only at h
    split at h
    · cases h; rfl
    · cases h
  · intro q avs H; rfl
  · intro k q pt avs H x _ h; cases h
  · intro k avs H o h
    try dsimp only at h
    split at h
    · cases h; exact spec_l5W_store.eq _ _ _ _ _ _ _ _
    · cases h

def spec_l5W_next.a : FnA (ByteArray × List (Int × ByteArray × ByteArray) × Int × Int × Bool) := ⟨15, [], .tup [], [.box [.val, .con (.pair (.int .i64) (.pair .str .str)), .val, .val, .bool]], [], fun x H => match x, H with
  | .tup [], [.box [.v (.string h0_0), .con (.pair (.int .i64) (.pair .str .str)) h0_1, .v (.int .i64 h0_2), .v (.int .i64 h0_3), .bs false h0_4]] => some (h0_0, h0_1, h0_2, h0_3, h0_4)
  | _, _ => none⟩
def spec_l5W_next.s : Spec := mkS [.box [.val, .con (.pair (.int .i64) (.pair .str .str)), .val, .val, .bool], .agg [.val, .val, .val, .con .str], .val] (fun k avs H => match avs, H with
  | [.box 0 0, .agg [.v (.int .i64 a1_0), .v (.int .i64 a1_1), .v (.int .i64 a1_2), .con .str a1_3], .v (.int .i64 a2)], [.box [.v (.string a0_0), .con (.pair (.int .i64) (.pair .str .str)) a0_1, .v (.int .i64 a0_2), .v (.int .i64 a0_3), .bs false a0_4]] => some (spec_l5W_next.f k a0_0 a0_1 a0_2 a0_3 a0_4 a1_0 a1_1 a1_2 a1_3 a2)
  | _, _ => none) (fun r => (.tup [], [.box [.v (.string r.1), .con (.pair (.int .i64) (.pair .str .str)) r.2.1, .v (.int .i64 r.2.2.1), .v (.int .i64 r.2.2.2.1), .bs false r.2.2.2.2]]))
def spec_l5W_next.E : Env := [((94, []), spec_EpochLine.s), ((58, []), spec_l5W_store.s), ((108, []), spec_l5W_flush.s), ((109, []), spec_l5W_fence.s)]
def spec_l5W_next.G (k p : Nat) (avs : List AV) (H : List HE) : Option (ByteArray × List (Int × ByteArray × ByteArray) × Int × Int × Bool) := none
set_option maxRecDepth 100000 in
theorem spec_l5W_next.eq (k : Nat) (a0_0 : ByteArray) (a0_1 : List (Int × ByteArray × ByteArray)) (a0_2 : Int) (a0_3 : Int) (a0_4 : Bool) (a1_0 : Int) (a1_1 : Int) (a1_2 : Int) (a1_3 : List ByteArray) (a2 : Int) : fromTop Tryz.prog spec_l5W_next.E k spec_l5W_next.a (spec_l5W_next.G k) 1000 (bodyOf Tryz.prog 121) [.box 0 0, .agg [.v (.int .i64 a1_0), .v (.int .i64 a1_1), .v (.int .i64 a1_2), .con .str a1_3], .v (.int .i64 a2)] [.box [.v (.string a0_0), .con (.pair (.int .i64) (.pair .str .str)) a0_1, .v (.int .i64 a0_2), .v (.int .i64 a0_3), .bs false a0_4]] = spec_l5W_next.f k a0_0 a0_1 a0_2 a0_3 a0_4 a1_0 a1_1 a1_2 a1_3 a2 := by kernel_rfl
theorem spec_l5W_next.E_ok : EnvOk Tryz.prog spec_l5W_next.E := ⟨⟨spec_EpochLine.sound, callable_of (by kernel_rfl)⟩, ⟨spec_l5W_store.sound, callable_of (by kernel_rfl)⟩, ⟨spec_l5W_flush.sound, callable_of (by kernel_rfl)⟩, ⟨spec_l5W_fence.sound, callable_of (by kernel_rfl)⟩, trivial⟩
theorem spec_l5W_next.sound : Sound Tryz.prog 121 spec_l5W_next.s := by
  refine func_sound (f := spec_l5W_next.a) (G := spec_l5W_next.G) (fn := Tryz.f121) (body := bodyOf Tryz.prog 121) 1000 (by kernel_rfl) spec_l5W_next.E_ok Tryz.func121 (by kernel_rfl) (by kernel_rfl) (by kernel_rfl) (ptsOk_of (by kernel_rfl)) ?_ ?_ ?_ ?_
  · intro r H x h
    unfold spec_l5W_next.a at h
    simp only at h
    split at h
    · cases h; rfl
    · cases h
  · intro q avs H; rfl
  · intro k q pt avs H x _ h; cases h
  · intro k avs H o h
    try dsimp only at h
    split at h
    · cases h; exact spec_l5W_next.eq _ _ _ _ _ _ _ _ _ _ _
    · cases h

def spec_l5W_end.a : FnA (ByteArray × List (Int × ByteArray × ByteArray) × Int × Int × Bool) := ⟨50, [], .tup [], [.box [.val, .con (.pair (.int .i64) (.pair .str .str)), .val, .val, .bool]], [⟨18, [0, 3, 4, 7, 8], [.box [], .box [.val, .val, .val, .con .str], .val, .row 89 (.pair (.int .i64) (.pair .str .str)), .val], [.box [.val, .con (.pair (.int .i64) (.pair .str .str)), .val, .val, .bool]]⟩], fun x H => match x, H with
  | .tup [], [.box [.v (.string h0_0), .con (.pair (.int .i64) (.pair .str .str)) h0_1, .v (.int .i64 h0_2), .v (.int .i64 h0_3), .bs false h0_4]] => some (h0_0, h0_1, h0_2, h0_3, h0_4)
  | _, _ => none⟩
def spec_l5W_end.s : Spec := mkS [.box [.val, .con (.pair (.int .i64) (.pair .str .str)), .val, .val, .bool], .agg [.val, .val, .val, .con .str]] (fun k avs H => match avs, H with
  | [.box 0 0, .agg [.v (.int .i64 a1_0), .v (.int .i64 a1_1), .v (.int .i64 a1_2), .con .str a1_3]], [.box [.v (.string a0_0), .con (.pair (.int .i64) (.pair .str .str)) a0_1, .v (.int .i64 a0_2), .v (.int .i64 a0_3), .bs false a0_4]] => some (spec_l5W_end.f k a0_0 a0_1 a0_2 a0_3 a0_4 a1_0 a1_1 a1_2 a1_3)
  | _, _ => none) (fun r => (.tup [], [.box [.v (.string r.1), .con (.pair (.int .i64) (.pair .str .str)) r.2.1, .v (.int .i64 r.2.2.1), .v (.int .i64 r.2.2.2.1), .bs false r.2.2.2.2]]))
def spec_l5W_end.E : Env := [((60, []), spec_l2Seen.s), ((18, []), spec_LogOf.s), ((56, []), spec_l2Copy.s), ((108, []), spec_l5W_flush.s), ((109, []), spec_l5W_fence.s), ((23, []), spec_EpochOf.s), ((121, []), spec_l5W_next.s)]
def spec_l5W_end.G18 (k : Nat) (avs : List AV) (H : List HE) : Option (ByteArray × List (Int × ByteArray × ByteArray) × Int × Int × Bool) := match avs, H with
  | [.box 0 0, .box 1 0, .v (.string x4), .own 2, .v (.int .i64 x8)], [.box [.v (.string h0_0), .con (.pair (.int .i64) (.pair .str .str)) h0_1, .v (.int .i64 h0_2), .v (.int .i64 h0_3), .bs false h0_4], .box [.v (.int .i64 x3_0), .v (.int .i64 x3_1), .v (.int .i64 x3_2), .con .str x3_3], .row 89 (.pair (.int .i64) (.pair .str .str)) x7] => spec_l5W_end.p18 k h0_0 h0_1 h0_2 h0_3 h0_4 x3_0 x3_1 x3_2 x3_3 x4 x7 x8
  | _, _ => none
def spec_l5W_end.G (k p : Nat) (avs : List AV) (H : List HE) : Option (ByteArray × List (Int × ByteArray × ByteArray) × Int × Int × Bool) := (pick1 18 (spec_l5W_end.G18 k avs H) none p)
set_option maxRecDepth 100000 in
theorem spec_l5W_end.eq (k : Nat) (a0_0 : ByteArray) (a0_1 : List (Int × ByteArray × ByteArray)) (a0_2 : Int) (a0_3 : Int) (a0_4 : Bool) (a1_0 : Int) (a1_1 : Int) (a1_2 : Int) (a1_3 : List ByteArray) : fromTop Tryz.prog spec_l5W_end.E k spec_l5W_end.a (spec_l5W_end.G k) 1000 (bodyOf Tryz.prog 64) [.box 0 0, .agg [.v (.int .i64 a1_0), .v (.int .i64 a1_1), .v (.int .i64 a1_2), .con .str a1_3]] [.box [.v (.string a0_0), .con (.pair (.int .i64) (.pair .str .str)) a0_1, .v (.int .i64 a0_2), .v (.int .i64 a0_3), .bs false a0_4]] = spec_l5W_end.f k a0_0 a0_1 a0_2 a0_3 a0_4 a1_0 a1_1 a1_2 a1_3 := by kernel_rfl
set_option maxRecDepth 100000 in
theorem spec_l5W_end.eq18 (k : Nat) (h0_0 : ByteArray) (h0_1 : List (Int × ByteArray × ByteArray)) (h0_2 : Int) (h0_3 : Int) (h0_4 : Bool) (x3_0 : Int) (x3_1 : Int) (x3_2 : Int) (x3_3 : List ByteArray) (x4 : ByteArray) (x7 : List (Int × ByteArray × ByteArray)) (x8 : Int) : fromPt Tryz.prog spec_l5W_end.E k spec_l5W_end.a (spec_l5W_end.G k) 1000 (bodyOf Tryz.prog 64) 18 [.box 0 0, .box 1 0, .v (.string x4), .own 2, .v (.int .i64 x8)] [.box [.v (.string h0_0), .con (.pair (.int .i64) (.pair .str .str)) h0_1, .v (.int .i64 h0_2), .v (.int .i64 h0_3), .bs false h0_4], .box [.v (.int .i64 x3_0), .v (.int .i64 x3_1), .v (.int .i64 x3_2), .con .str x3_3], .row 89 (.pair (.int .i64) (.pair .str .str)) x7] = spec_l5W_end.p18 (k + 1) h0_0 h0_1 h0_2 h0_3 h0_4 x3_0 x3_1 x3_2 x3_3 x4 x7 x8 := by kernel_rfl
theorem spec_l5W_end.G18_0 {avs : List AV} {H : List HE} : spec_l5W_end.G18 0 avs H = none := by unfold spec_l5W_end.G18; split <;> rfl
theorem spec_l5W_end.G18_s (k : Nat) {avs : List AV} {H : List HE} {x : ByteArray × List (Int × ByteArray × ByteArray) × Int × Int × Bool} (h : spec_l5W_end.G18 (k + 1) avs H = some x) : fromPt Tryz.prog spec_l5W_end.E k spec_l5W_end.a (spec_l5W_end.G k) 1000 (bodyOf Tryz.prog 64) 18 avs H = some x := by
  unfold spec_l5W_end.G18 at h
  split at h
  · rw [← h]; exact spec_l5W_end.eq18 _ _ _ _ _ _ _ _ _ _ _ _ _
  · cases h
theorem spec_l5W_end.E_ok : EnvOk Tryz.prog spec_l5W_end.E := ⟨⟨spec_l2Seen.sound, callable_of (by kernel_rfl)⟩, ⟨spec_LogOf.sound, callable_of (by kernel_rfl)⟩, ⟨spec_l2Copy.sound, callable_of (by kernel_rfl)⟩, ⟨spec_l5W_flush.sound, callable_of (by kernel_rfl)⟩, ⟨spec_l5W_fence.sound, callable_of (by kernel_rfl)⟩, ⟨spec_EpochOf.sound, callable_of (by kernel_rfl)⟩, ⟨spec_l5W_next.sound, callable_of (by kernel_rfl)⟩, trivial⟩
theorem spec_l5W_end.sound : Sound Tryz.prog 64 spec_l5W_end.s := by
  refine func_sound (f := spec_l5W_end.a) (G := spec_l5W_end.G) (fn := Tryz.f64) (body := bodyOf Tryz.prog 64) 1000 (by kernel_rfl) spec_l5W_end.E_ok Tryz.func64 (by kernel_rfl) (by kernel_rfl) (by kernel_rfl) (ptsOk_of (by kernel_rfl)) ?_ ?_ ?_ ?_
  · intro r H x h
    unfold spec_l5W_end.a at h
    simp only at h
    split at h
    · cases h; rfl
    · cases h
  · exact fun q avs H => pick1_none spec_l5W_end.G18_0 (rfl)
  · intro k q pt avs H x _ h
    rcases pick1_some h with ⟨rfl, h⟩ | h
    · exact spec_l5W_end.G18_s _ h
    cases h
  · intro k avs H o h
    try dsimp only at h
    split at h
    · cases h; exact spec_l5W_end.eq _ _ _ _ _ _ _ _ _ _
    · cases h

def spec_Ended.a : FnA (ByteArray × List (Int × ByteArray × ByteArray) × Int) := ⟨18, [.cell 4 29, .tmp 5], .tup [.agg [.val, .con (.pair (.int .i64) (.pair .str .str))], .val], [], [], fun x H => match x, H with
  | .tup [.agg [.v (.string r_0_0), .con (.pair (.int .i64) (.pair .str .str)) r_0_1], .v (.int .i64 r_1)], [] => some (r_0_0, r_0_1, r_1)
  | _, _ => none⟩
def spec_Ended.s : Spec := mkS [.agg [.val, .val, .val, .con .str], .agg [.val, .con (.pair (.int .i64) (.pair .str .str))]] (fun k avs H => match avs, H with
  | [.agg [.v (.int .i64 a0_0), .v (.int .i64 a0_1), .v (.int .i64 a0_2), .con .str a0_3], .agg [.v (.string a1_0), .con (.pair (.int .i64) (.pair .str .str)) a1_1]], [] => some (spec_Ended.f k a0_0 a0_1 a0_2 a0_3 a1_0 a1_1)
  | _, _ => none) (fun r => (.tup [.agg [.v (.string r.1), .con (.pair (.int .i64) (.pair .str .str)) r.2.1], .v (.int .i64 r.2.2)], []))
def spec_Ended.E : Env := [((53, []), spec_l5Bad.s), ((56, []), spec_l2Copy.s), ((64, []), spec_l5W_end.s)]
def spec_Ended.G (k p : Nat) (avs : List AV) (H : List HE) : Option (ByteArray × List (Int × ByteArray × ByteArray) × Int) := none
set_option maxRecDepth 100000 in
theorem spec_Ended.eq (k : Nat) (a0_0 : Int) (a0_1 : Int) (a0_2 : Int) (a0_3 : List ByteArray) (a1_0 : ByteArray) (a1_1 : List (Int × ByteArray × ByteArray)) : fromTop Tryz.prog spec_Ended.E k spec_Ended.a (spec_Ended.G k) 1000 (bodyOf Tryz.prog 17) [.agg [.v (.int .i64 a0_0), .v (.int .i64 a0_1), .v (.int .i64 a0_2), .con .str a0_3], .agg [.v (.string a1_0), .con (.pair (.int .i64) (.pair .str .str)) a1_1]] [] = spec_Ended.f k a0_0 a0_1 a0_2 a0_3 a1_0 a1_1 := by kernel_rfl
theorem spec_Ended.E_ok : EnvOk Tryz.prog spec_Ended.E := ⟨⟨spec_l5Bad.sound, callable_of (by kernel_rfl)⟩, ⟨spec_l2Copy.sound, callable_of (by kernel_rfl)⟩, ⟨spec_l5W_end.sound, callable_of (by kernel_rfl)⟩, trivial⟩
theorem spec_Ended.sound : Sound Tryz.prog 17 spec_Ended.s := by
  refine func_sound (f := spec_Ended.a) (G := spec_Ended.G) (fn := Tryz.f17) (body := bodyOf Tryz.prog 17) 1000 (by kernel_rfl) spec_Ended.E_ok Tryz.func17 (by kernel_rfl) (by kernel_rfl) (by kernel_rfl) (ptsOk_of (by kernel_rfl)) ?_ ?_ ?_ ?_
  · intro r H x h
    unfold spec_Ended.a at h
    simp only at h
    split at h
    · cases h; rfl
    · cases h
  · intro q avs H; rfl
  · intro k q pt avs H x _ h; cases h
  · intro k avs H o h
    try dsimp only at h
    split at h
    · cases h; exact spec_Ended.eq _ _ _ _ _ _ _
    · cases h

def spec_l5W_back.a : FnA (ByteArray × List (Int × ByteArray × ByteArray) × Int × Int × Bool) := ⟨73, [], .tup [], [.box [.val, .con (.pair (.int .i64) (.pair .str .str)), .val, .val, .bool]], [⟨16, [0, 3, 4, 5, 7], [.box [], .box [.val, .val, .val, .con .str], .val, .row 51 (.pair (.int .i64) (.pair (.int .i64) (.pair (.int .i64) .str))), .val], [.box [.val, .con (.pair (.int .i64) (.pair .str .str)), .val, .val, .bool]]⟩, ⟨31, [0, 3, 4, 5, 8], [.box [], .box [.val, .val, .val, .con .str], .val, .row 51 (.pair (.int .i64) (.pair (.int .i64) (.pair (.int .i64) .str))), .val], [.box [.val, .con (.pair (.int .i64) (.pair .str .str)), .val, .val, .bool]]⟩], fun x H => match x, H with
  | .tup [], [.box [.v (.string h0_0), .con (.pair (.int .i64) (.pair .str .str)) h0_1, .v (.int .i64 h0_2), .v (.int .i64 h0_3), .bs false h0_4]] => some (h0_0, h0_1, h0_2, h0_3, h0_4)
  | _, _ => none⟩
def spec_l5W_back.s : Spec := mkS [.box [.val, .con (.pair (.int .i64) (.pair .str .str)), .val, .val, .bool], .agg [.val, .val, .val, .con .str]] (fun k avs H => match avs, H with
  | [.box 0 0, .agg [.v (.int .i64 a1_0), .v (.int .i64 a1_1), .v (.int .i64 a1_2), .con .str a1_3]], [.box [.v (.string a0_0), .con (.pair (.int .i64) (.pair .str .str)) a0_1, .v (.int .i64 a0_2), .v (.int .i64 a0_3), .bs false a0_4]] => some (spec_l5W_back.f k a0_0 a0_1 a0_2 a0_3 a0_4 a1_0 a1_1 a1_2 a1_3)
  | _, _ => none) (fun r => (.tup [], [.box [.v (.string r.1), .con (.pair (.int .i64) (.pair .str .str)) r.2.1, .v (.int .i64 r.2.2.1), .v (.int .i64 r.2.2.2.1), .bs false r.2.2.2.2]]))
def spec_l5W_back.E : Env := [((60, []), spec_l2Seen.s), ((18, []), spec_LogOf.s), ((58, []), spec_l5W_store.s), ((67, []), spec_l5Place.s), ((108, []), spec_l5W_flush.s), ((109, []), spec_l5W_fence.s), ((23, []), spec_EpochOf.s), ((121, []), spec_l5W_next.s)]
def spec_l5W_back.G16 (k : Nat) (avs : List AV) (H : List HE) : Option (ByteArray × List (Int × ByteArray × ByteArray) × Int × Int × Bool) := match avs, H with
  | [.box 0 0, .box 1 0, .v (.string x4), .own 2, .v (.int .i64 x7)], [.box [.v (.string h0_0), .con (.pair (.int .i64) (.pair .str .str)) h0_1, .v (.int .i64 h0_2), .v (.int .i64 h0_3), .bs false h0_4], .box [.v (.int .i64 x3_0), .v (.int .i64 x3_1), .v (.int .i64 x3_2), .con .str x3_3], .row 51 (.pair (.int .i64) (.pair (.int .i64) (.pair (.int .i64) .str))) x5] => spec_l5W_back.p16 k h0_0 h0_1 h0_2 h0_3 h0_4 x3_0 x3_1 x3_2 x3_3 x4 x5 x7
  | _, _ => none
def spec_l5W_back.G31 (k : Nat) (avs : List AV) (H : List HE) : Option (ByteArray × List (Int × ByteArray × ByteArray) × Int × Int × Bool) := match avs, H with
  | [.box 0 0, .box 1 0, .v (.string x4), .own 2, .v (.int .i64 x8)], [.box [.v (.string h0_0), .con (.pair (.int .i64) (.pair .str .str)) h0_1, .v (.int .i64 h0_2), .v (.int .i64 h0_3), .bs false h0_4], .box [.v (.int .i64 x3_0), .v (.int .i64 x3_1), .v (.int .i64 x3_2), .con .str x3_3], .row 51 (.pair (.int .i64) (.pair (.int .i64) (.pair (.int .i64) .str))) x5] => spec_l5W_back.p31 k h0_0 h0_1 h0_2 h0_3 h0_4 x3_0 x3_1 x3_2 x3_3 x4 x5 x8
  | _, _ => none
def spec_l5W_back.G (k p : Nat) (avs : List AV) (H : List HE) : Option (ByteArray × List (Int × ByteArray × ByteArray) × Int × Int × Bool) := (pick1 16 (spec_l5W_back.G16 k avs H) (pick1 31 (spec_l5W_back.G31 k avs H) none p) p)
set_option maxRecDepth 100000 in
theorem spec_l5W_back.eq (k : Nat) (a0_0 : ByteArray) (a0_1 : List (Int × ByteArray × ByteArray)) (a0_2 : Int) (a0_3 : Int) (a0_4 : Bool) (a1_0 : Int) (a1_1 : Int) (a1_2 : Int) (a1_3 : List ByteArray) : fromTop Tryz.prog spec_l5W_back.E k spec_l5W_back.a (spec_l5W_back.G k) 1000 (bodyOf Tryz.prog 82) [.box 0 0, .agg [.v (.int .i64 a1_0), .v (.int .i64 a1_1), .v (.int .i64 a1_2), .con .str a1_3]] [.box [.v (.string a0_0), .con (.pair (.int .i64) (.pair .str .str)) a0_1, .v (.int .i64 a0_2), .v (.int .i64 a0_3), .bs false a0_4]] = spec_l5W_back.f k a0_0 a0_1 a0_2 a0_3 a0_4 a1_0 a1_1 a1_2 a1_3 := by kernel_rfl
set_option maxRecDepth 100000 in
theorem spec_l5W_back.eq16 (k : Nat) (h0_0 : ByteArray) (h0_1 : List (Int × ByteArray × ByteArray)) (h0_2 : Int) (h0_3 : Int) (h0_4 : Bool) (x3_0 : Int) (x3_1 : Int) (x3_2 : Int) (x3_3 : List ByteArray) (x4 : ByteArray) (x5 : List (Int × Int × Int × ByteArray)) (x7 : Int) : fromPt Tryz.prog spec_l5W_back.E k spec_l5W_back.a (spec_l5W_back.G k) 1000 (bodyOf Tryz.prog 82) 16 [.box 0 0, .box 1 0, .v (.string x4), .own 2, .v (.int .i64 x7)] [.box [.v (.string h0_0), .con (.pair (.int .i64) (.pair .str .str)) h0_1, .v (.int .i64 h0_2), .v (.int .i64 h0_3), .bs false h0_4], .box [.v (.int .i64 x3_0), .v (.int .i64 x3_1), .v (.int .i64 x3_2), .con .str x3_3], .row 51 (.pair (.int .i64) (.pair (.int .i64) (.pair (.int .i64) .str))) x5] = spec_l5W_back.p16 (k + 1) h0_0 h0_1 h0_2 h0_3 h0_4 x3_0 x3_1 x3_2 x3_3 x4 x5 x7 := by kernel_rfl
theorem spec_l5W_back.G16_0 {avs : List AV} {H : List HE} : spec_l5W_back.G16 0 avs H = none := by unfold spec_l5W_back.G16; split <;> rfl
theorem spec_l5W_back.G16_s (k : Nat) {avs : List AV} {H : List HE} {x : ByteArray × List (Int × ByteArray × ByteArray) × Int × Int × Bool} (h : spec_l5W_back.G16 (k + 1) avs H = some x) : fromPt Tryz.prog spec_l5W_back.E k spec_l5W_back.a (spec_l5W_back.G k) 1000 (bodyOf Tryz.prog 82) 16 avs H = some x := by
  unfold spec_l5W_back.G16 at h
  split at h
  · rw [← h]; exact spec_l5W_back.eq16 _ _ _ _ _ _ _ _ _ _ _ _ _
  · cases h
set_option maxRecDepth 100000 in
theorem spec_l5W_back.eq31 (k : Nat) (h0_0 : ByteArray) (h0_1 : List (Int × ByteArray × ByteArray)) (h0_2 : Int) (h0_3 : Int) (h0_4 : Bool) (x3_0 : Int) (x3_1 : Int) (x3_2 : Int) (x3_3 : List ByteArray) (x4 : ByteArray) (x5 : List (Int × Int × Int × ByteArray)) (x8 : Int) : fromPt Tryz.prog spec_l5W_back.E k spec_l5W_back.a (spec_l5W_back.G k) 1000 (bodyOf Tryz.prog 82) 31 [.box 0 0, .box 1 0, .v (.string x4), .own 2, .v (.int .i64 x8)] [.box [.v (.string h0_0), .con (.pair (.int .i64) (.pair .str .str)) h0_1, .v (.int .i64 h0_2), .v (.int .i64 h0_3), .bs false h0_4], .box [.v (.int .i64 x3_0), .v (.int .i64 x3_1), .v (.int .i64 x3_2), .con .str x3_3], .row 51 (.pair (.int .i64) (.pair (.int .i64) (.pair (.int .i64) .str))) x5] = spec_l5W_back.p31 (k + 1) h0_0 h0_1 h0_2 h0_3 h0_4 x3_0 x3_1 x3_2 x3_3 x4 x5 x8 := by kernel_rfl
theorem spec_l5W_back.G31_0 {avs : List AV} {H : List HE} : spec_l5W_back.G31 0 avs H = none := by unfold spec_l5W_back.G31; split <;> rfl
theorem spec_l5W_back.G31_s (k : Nat) {avs : List AV} {H : List HE} {x : ByteArray × List (Int × ByteArray × ByteArray) × Int × Int × Bool} (h : spec_l5W_back.G31 (k + 1) avs H = some x) : fromPt Tryz.prog spec_l5W_back.E k spec_l5W_back.a (spec_l5W_back.G k) 1000 (bodyOf Tryz.prog 82) 31 avs H = some x := by
  unfold spec_l5W_back.G31 at h
  split at h
  · rw [← h]; exact spec_l5W_back.eq31 _ _ _ _ _ _ _ _ _ _ _ _ _
  · cases h
theorem spec_l5W_back.E_ok : EnvOk Tryz.prog spec_l5W_back.E := ⟨⟨spec_l2Seen.sound, callable_of (by kernel_rfl)⟩, ⟨spec_LogOf.sound, callable_of (by kernel_rfl)⟩, ⟨spec_l5W_store.sound, callable_of (by kernel_rfl)⟩, ⟨spec_l5Place.sound, callable_of (by kernel_rfl)⟩, ⟨spec_l5W_flush.sound, callable_of (by kernel_rfl)⟩, ⟨spec_l5W_fence.sound, callable_of (by kernel_rfl)⟩, ⟨spec_EpochOf.sound, callable_of (by kernel_rfl)⟩, ⟨spec_l5W_next.sound, callable_of (by kernel_rfl)⟩, trivial⟩
theorem spec_l5W_back.sound : Sound Tryz.prog 82 spec_l5W_back.s := by
  refine func_sound (f := spec_l5W_back.a) (G := spec_l5W_back.G) (fn := Tryz.f82) (body := bodyOf Tryz.prog 82) 1000 (by kernel_rfl) spec_l5W_back.E_ok Tryz.func82 (by kernel_rfl) (by kernel_rfl) (by kernel_rfl) (ptsOk_of (by kernel_rfl)) ?_ ?_ ?_ ?_
  · intro r H x h
    unfold spec_l5W_back.a at h
    simp only at h
    split at h
    · cases h; rfl
    · cases h
  · exact fun q avs H => pick1_none spec_l5W_back.G16_0 (pick1_none spec_l5W_back.G31_0 (rfl))
  · intro k q pt avs H x _ h
    rcases pick1_some h with ⟨rfl, h⟩ | h
    · exact spec_l5W_back.G16_s _ h
    rcases pick1_some h with ⟨rfl, h⟩ | h
    · exact spec_l5W_back.G31_s _ h
    cases h
  · intro k avs H o h
    try dsimp only at h
    split at h
    · cases h; exact spec_l5W_back.eq _ _ _ _ _ _ _ _ _ _
    · cases h

def spec_RolledBack.a : FnA (ByteArray × List (Int × ByteArray × ByteArray) × Int) := ⟨18, [.cell 4 29, .tmp 5], .tup [.agg [.val, .con (.pair (.int .i64) (.pair .str .str))], .val], [], [], fun x H => match x, H with
  | .tup [.agg [.v (.string r_0_0), .con (.pair (.int .i64) (.pair .str .str)) r_0_1], .v (.int .i64 r_1)], [] => some (r_0_0, r_0_1, r_1)
  | _, _ => none⟩
def spec_RolledBack.s : Spec := mkS [.agg [.val, .val, .val, .con .str], .agg [.val, .con (.pair (.int .i64) (.pair .str .str))]] (fun k avs H => match avs, H with
  | [.agg [.v (.int .i64 a0_0), .v (.int .i64 a0_1), .v (.int .i64 a0_2), .con .str a0_3], .agg [.v (.string a1_0), .con (.pair (.int .i64) (.pair .str .str)) a1_1]], [] => some (spec_RolledBack.f k a0_0 a0_1 a0_2 a0_3 a1_0 a1_1)
  | _, _ => none) (fun r => (.tup [.agg [.v (.string r.1), .con (.pair (.int .i64) (.pair .str .str)) r.2.1], .v (.int .i64 r.2.2)], []))
def spec_RolledBack.E : Env := [((53, []), spec_l5Bad.s), ((56, []), spec_l2Copy.s), ((82, []), spec_l5W_back.s)]
def spec_RolledBack.G (k p : Nat) (avs : List AV) (H : List HE) : Option (ByteArray × List (Int × ByteArray × ByteArray) × Int) := none
set_option maxRecDepth 100000 in
theorem spec_RolledBack.eq (k : Nat) (a0_0 : Int) (a0_1 : Int) (a0_2 : Int) (a0_3 : List ByteArray) (a1_0 : ByteArray) (a1_1 : List (Int × ByteArray × ByteArray)) : fromTop Tryz.prog spec_RolledBack.E k spec_RolledBack.a (spec_RolledBack.G k) 1000 (bodyOf Tryz.prog 30) [.agg [.v (.int .i64 a0_0), .v (.int .i64 a0_1), .v (.int .i64 a0_2), .con .str a0_3], .agg [.v (.string a1_0), .con (.pair (.int .i64) (.pair .str .str)) a1_1]] [] = spec_RolledBack.f k a0_0 a0_1 a0_2 a0_3 a1_0 a1_1 := by kernel_rfl
theorem spec_RolledBack.E_ok : EnvOk Tryz.prog spec_RolledBack.E := ⟨⟨spec_l5Bad.sound, callable_of (by kernel_rfl)⟩, ⟨spec_l2Copy.sound, callable_of (by kernel_rfl)⟩, ⟨spec_l5W_back.sound, callable_of (by kernel_rfl)⟩, trivial⟩
theorem spec_RolledBack.sound : Sound Tryz.prog 30 spec_RolledBack.s := by
  refine func_sound (f := spec_RolledBack.a) (G := spec_RolledBack.G) (fn := Tryz.f30) (body := bodyOf Tryz.prog 30) 1000 (by kernel_rfl) spec_RolledBack.E_ok Tryz.func30 (by kernel_rfl) (by kernel_rfl) (by kernel_rfl) (ptsOk_of (by kernel_rfl)) ?_ ?_ ?_ ?_
  · intro r H x h
    unfold spec_RolledBack.a at h
    simp only at h
    split at h
    · cases h; rfl
    · cases h
  · intro q avs H; rfl
  · intro k q pt avs H x _ h; cases h
  · intro k avs H o h
    try dsimp only at h
    split at h
    · cases h; exact spec_RolledBack.eq _ _ _ _ _ _ _
    · cases h

def spec_l2Evict.a : FnA (ByteArray × List (Int × ByteArray × ByteArray)) := ⟨42, [.cell 4 29], .agg [.val, .row 89 (.pair (.int .i64) (.pair .str .str))], [], [⟨8, [1, 2, 4, 5, 6], [.val, .box [.val, .con (.pair (.int .i64) (.pair .str .str))], .box [.val, .val], .box [.val, .row 89 (.pair (.int .i64) (.pair .str .str))], .val], []⟩], fun x H => match x, H with
  | .agg [.v (.string r_0), .own 0], [.row 89 (.pair (.int .i64) (.pair .str .str)) r_1] => some (r_0, r_1)
  | _, _ => none⟩
def spec_l2Evict.s : Spec := mkS [.agg [.val, .con (.pair (.int .i64) (.pair .str .str))], .val] (fun k avs H => match avs, H with
  | [.agg [.v (.string a0_0), .con (.pair (.int .i64) (.pair .str .str)) a0_1], .v (.int .i64 a1)], [] => some (spec_l2Evict.f k a0_0 a0_1 a1)
  | _, _ => none) (fun r => (.agg [.v (.string r.1), .own 0], [.row 89 (.pair (.int .i64) (.pair .str .str)) r.2]))
def spec_l2Evict.E : Env := [((93, []), spec_l2With.s)]
def spec_l2Evict.G8 (k : Nat) (avs : List AV) (H : List HE) : Option (ByteArray × List (Int × ByteArray × ByteArray)) := match avs, H with
  | [.v (.int .i64 x1), .box 0 0, .box 1 0, .box 2 0, .v (.int .i64 x6)], [.box [.v (.string x2_0), .con (.pair (.int .i64) (.pair .str .str)) x2_1], .box [.v (.string x4_0), .v (.slice none 0 0)], .box [.v (.string x5_0), .own 3], .row 89 (.pair (.int .i64) (.pair .str .str)) x5_1] => spec_l2Evict.p8 k x1 x2_0 x2_1 x4_0 x5_0 x5_1 x6
  | _, _ => none
def spec_l2Evict.G (k p : Nat) (avs : List AV) (H : List HE) : Option (ByteArray × List (Int × ByteArray × ByteArray)) := (pick1 8 (spec_l2Evict.G8 k avs H) none p)
set_option maxRecDepth 100000 in
theorem spec_l2Evict.eq (k : Nat) (a0_0 : ByteArray) (a0_1 : List (Int × ByteArray × ByteArray)) (a1 : Int) : fromTop Tryz.prog spec_l2Evict.E k spec_l2Evict.a (spec_l2Evict.G k) 1000 (bodyOf Tryz.prog 96) [.agg [.v (.string a0_0), .con (.pair (.int .i64) (.pair .str .str)) a0_1], .v (.int .i64 a1)] [] = spec_l2Evict.f k a0_0 a0_1 a1 := by kernel_rfl
set_option maxRecDepth 100000 in
theorem spec_l2Evict.eq8 (k : Nat) (x1 : Int) (x2_0 : ByteArray) (x2_1 : List (Int × ByteArray × ByteArray)) (x4_0 : ByteArray) (x5_0 : ByteArray) (x5_1 : List (Int × ByteArray × ByteArray)) (x6 : Int) : fromPt Tryz.prog spec_l2Evict.E k spec_l2Evict.a (spec_l2Evict.G k) 1000 (bodyOf Tryz.prog 96) 8 [.v (.int .i64 x1), .box 0 0, .box 1 0, .box 2 0, .v (.int .i64 x6)] [.box [.v (.string x2_0), .con (.pair (.int .i64) (.pair .str .str)) x2_1], .box [.v (.string x4_0), .v (.slice none 0 0)], .box [.v (.string x5_0), .own 3], .row 89 (.pair (.int .i64) (.pair .str .str)) x5_1] = spec_l2Evict.p8 (k + 1) x1 x2_0 x2_1 x4_0 x5_0 x5_1 x6 := by kernel_rfl
theorem spec_l2Evict.G8_0 {avs : List AV} {H : List HE} : spec_l2Evict.G8 0 avs H = none := by unfold spec_l2Evict.G8; split <;> rfl
theorem spec_l2Evict.G8_s (k : Nat) {avs : List AV} {H : List HE} {x : ByteArray × List (Int × ByteArray × ByteArray)} (h : spec_l2Evict.G8 (k + 1) avs H = some x) : fromPt Tryz.prog spec_l2Evict.E k spec_l2Evict.a (spec_l2Evict.G k) 1000 (bodyOf Tryz.prog 96) 8 avs H = some x := by
  unfold spec_l2Evict.G8 at h
  split at h
  · rw [← h]; exact spec_l2Evict.eq8 _ _ _ _ _ _ _ _
  · cases h
theorem spec_l2Evict.E_ok : EnvOk Tryz.prog spec_l2Evict.E := ⟨⟨spec_l2With.sound, callable_of (by kernel_rfl)⟩, trivial⟩
theorem spec_l2Evict.sound : Sound Tryz.prog 96 spec_l2Evict.s := by
  refine func_sound (f := spec_l2Evict.a) (G := spec_l2Evict.G) (fn := Tryz.f96) (body := bodyOf Tryz.prog 96) 1000 (by kernel_rfl) spec_l2Evict.E_ok Tryz.func96 (by kernel_rfl) (by kernel_rfl) (by kernel_rfl) (ptsOk_of (by kernel_rfl)) ?_ ?_ ?_ ?_
  · intro r H x h
    unfold spec_l2Evict.a at h
    simp only at h
    split at h
    · cases h; rfl
    · cases h
  · exact fun q avs H => pick1_none spec_l2Evict.G8_0 (rfl)
  · intro k q pt avs H x _ h
    rcases pick1_some h with ⟨rfl, h⟩ | h
    · exact spec_l2Evict.G8_s _ h
    cases h
  · intro k avs H o h
    try dsimp only at h
    split at h
    · cases h; exact spec_l2Evict.eq _ _ _ _
    · cases h

def spec_l1Rd_word.a : FnA (List Int × Int × Int) := ⟨16, [.tmp 2], .val, [.box [.con (.int .u8), .val]], [⟨8, [0, 3, 4], [.box [], .val, .val], [.box [.con (.int .u8), .val]]⟩], fun x H => match x, H with
  | .v (.int .u64 r), [.box [.con (.int .u8) h0_0, .v (.int .i64 h0_1)]] => some (h0_0, h0_1, r)
  | _, _ => none⟩
def spec_l1Rd_word.s : Spec := mkS [.box [.con (.int .u8), .val]] (fun k avs H => match avs, H with
  | [.box 0 0], [.box [.con (.int .u8) a0_0, .v (.int .i64 a0_1)]] => some (spec_l1Rd_word.f k a0_0 a0_1)
  | _, _ => none) (fun r => (.v (.int .u64 r.2.2), [.box [.con (.int .u8) r.1, .v (.int .i64 r.2.1)]]))
def spec_l1Rd_word.E : Env := [((104, []), spec_l1Rd_next.s)]
def spec_l1Rd_word.G8 (k : Nat) (avs : List AV) (H : List HE) : Option (List Int × Int × Int) := match avs, H with
  | [.box 0 0, .v (.int .u64 x3), .v (.int .i64 x4)], [.box [.con (.int .u8) h0_0, .v (.int .i64 h0_1)]] => spec_l1Rd_word.p8 k h0_0 h0_1 x3 x4
  | _, _ => none
def spec_l1Rd_word.G (k p : Nat) (avs : List AV) (H : List HE) : Option (List Int × Int × Int) := (pick1 8 (spec_l1Rd_word.G8 k avs H) none p)
set_option maxRecDepth 100000 in
theorem spec_l1Rd_word.eq (k : Nat) (a0_0 : List Int) (a0_1 : Int) : fromTop Tryz.prog spec_l1Rd_word.E k spec_l1Rd_word.a (spec_l1Rd_word.G k) 1000 (bodyOf Tryz.prog 143) [.box 0 0] [.box [.con (.int .u8) a0_0, .v (.int .i64 a0_1)]] = spec_l1Rd_word.f k a0_0 a0_1 := by kernel_rfl
set_option maxRecDepth 100000 in
theorem spec_l1Rd_word.eq8 (k : Nat) (h0_0 : List Int) (h0_1 : Int) (x3 : Int) (x4 : Int) : fromPt Tryz.prog spec_l1Rd_word.E k spec_l1Rd_word.a (spec_l1Rd_word.G k) 1000 (bodyOf Tryz.prog 143) 8 [.box 0 0, .v (.int .u64 x3), .v (.int .i64 x4)] [.box [.con (.int .u8) h0_0, .v (.int .i64 h0_1)]] = spec_l1Rd_word.p8 (k + 1) h0_0 h0_1 x3 x4 := by kernel_rfl
theorem spec_l1Rd_word.G8_0 {avs : List AV} {H : List HE} : spec_l1Rd_word.G8 0 avs H = none := by unfold spec_l1Rd_word.G8; split <;> rfl
theorem spec_l1Rd_word.G8_s (k : Nat) {avs : List AV} {H : List HE} {x : List Int × Int × Int} (h : spec_l1Rd_word.G8 (k + 1) avs H = some x) : fromPt Tryz.prog spec_l1Rd_word.E k spec_l1Rd_word.a (spec_l1Rd_word.G k) 1000 (bodyOf Tryz.prog 143) 8 avs H = some x := by
  unfold spec_l1Rd_word.G8 at h
  split at h
  · rw [← h]; exact spec_l1Rd_word.eq8 _ _ _ _ _
  · cases h
theorem spec_l1Rd_word.E_ok : EnvOk Tryz.prog spec_l1Rd_word.E := ⟨⟨spec_l1Rd_next.sound, callable_of (by kernel_rfl)⟩, trivial⟩
theorem spec_l1Rd_word.sound : Sound Tryz.prog 143 spec_l1Rd_word.s := by
  refine func_sound (f := spec_l1Rd_word.a) (G := spec_l1Rd_word.G) (fn := Tryz.f143) (body := bodyOf Tryz.prog 143) 1000 (by kernel_rfl) spec_l1Rd_word.E_ok Tryz.func143 (by kernel_rfl) (by kernel_rfl) (by kernel_rfl) (ptsOk_of (by kernel_rfl)) ?_ ?_ ?_ ?_
  · intro r H x h
    unfold spec_l1Rd_word.a at h
    simp only at h
    split at h
    · cases h; rfl
    · cases h
  · exact fun q avs H => pick1_none spec_l1Rd_word.G8_0 (rfl)
  · intro k q pt avs H x _ h
    rcases pick1_some h with ⟨rfl, h⟩ | h
    · exact spec_l1Rd_word.G8_s _ h
    cases h
  · intro k avs H o h
    try dsimp only at h
    split at h
    · cases h; exact spec_l1Rd_word.eq _ _ _
    · cases h

def spec_l1Rd_near.a : FnA (List Int × Int × Int) := ⟨31, [.tmp 6], .val, [.box [.con (.int .u8), .val]], [], fun x H => match x, H with
  | .v (.int .i64 r), [.box [.con (.int .u8) h0_0, .v (.int .i64 h0_1)]] => some (h0_0, h0_1, r)
  | _, _ => none⟩
def spec_l1Rd_near.s : Spec := mkS [.box [.con (.int .u8), .val], .val, .val] (fun k avs H => match avs, H with
  | [.box 0 0, .v (.int .i64 a1), .v (.int .i64 a2)], [.box [.con (.int .u8) a0_0, .v (.int .i64 a0_1)]] => some (spec_l1Rd_near.f k a0_0 a0_1 a1 a2)
  | _, _ => none) (fun r => (.v (.int .i64 r.2.2), [.box [.con (.int .u8) r.1, .v (.int .i64 r.2.1)]]))
def spec_l1Rd_near.E : Env := [((46, []), spec_l1Rd_below.s), ((143, []), spec_l1Rd_word.s)]
def spec_l1Rd_near.G (k p : Nat) (avs : List AV) (H : List HE) : Option (List Int × Int × Int) := none
set_option maxRecDepth 100000 in
theorem spec_l1Rd_near.eq (k : Nat) (a0_0 : List Int) (a0_1 : Int) (a1 : Int) (a2 : Int) : fromTop Tryz.prog spec_l1Rd_near.E k spec_l1Rd_near.a (spec_l1Rd_near.G k) 1000 (bodyOf Tryz.prog 103) [.box 0 0, .v (.int .i64 a1), .v (.int .i64 a2)] [.box [.con (.int .u8) a0_0, .v (.int .i64 a0_1)]] = spec_l1Rd_near.f k a0_0 a0_1 a1 a2 := by kernel_rfl
theorem spec_l1Rd_near.E_ok : EnvOk Tryz.prog spec_l1Rd_near.E := ⟨⟨spec_l1Rd_below.sound, callable_of (by kernel_rfl)⟩, ⟨spec_l1Rd_word.sound, callable_of (by kernel_rfl)⟩, trivial⟩
theorem spec_l1Rd_near.sound : Sound Tryz.prog 103 spec_l1Rd_near.s := by
  refine func_sound (f := spec_l1Rd_near.a) (G := spec_l1Rd_near.G) (fn := Tryz.f103) (body := bodyOf Tryz.prog 103) 1000 (by kernel_rfl) spec_l1Rd_near.E_ok Tryz.func103 (by kernel_rfl) (by kernel_rfl) (by kernel_rfl) (ptsOk_of (by kernel_rfl)) ?_ ?_ ?_ ?_
  · intro r H x h
    unfold spec_l1Rd_near.a at h
    simp only at h
    split at h
    · cases h; rfl
    · cases h
  · intro q avs H; rfl
  · intro k q pt avs H x _ h; cases h
  · intro k avs H o h
    try dsimp only at h
    split at h
    · cases h; exact spec_l1Rd_near.eq _ _ _ _ _
    · cases h

def spec_l1Rd_off.a : FnA (List Int × Int × Int) := ⟨22, [.tmp 6], .val, [.box [.con (.int .u8), .val]], [], fun x H => match x, H with
  | .v (.int .i64 r), [.box [.con (.int .u8) h0_0, .v (.int .i64 h0_1)]] => some (h0_0, h0_1, r)
  | _, _ => none⟩
def spec_l1Rd_off.s : Spec := mkS [.box [.con (.int .u8), .val], .val, .val] (fun k avs H => match avs, H with
  | [.box 0 0, .v (.int .i64 a1), .v (.int .i64 a2)], [.box [.con (.int .u8) a0_0, .v (.int .i64 a0_1)]] => some (spec_l1Rd_off.f k a0_0 a0_1 a1 a2)
  | _, _ => none) (fun r => (.v (.int .i64 r.2.2), [.box [.con (.int .u8) r.1, .v (.int .i64 r.2.1)]]))
def spec_l1Rd_off.E : Env := [((42, []), spec_l1Rd_once.s), ((46, []), spec_l1Rd_below.s), ((103, []), spec_l1Rd_near.s)]
def spec_l1Rd_off.G (k p : Nat) (avs : List AV) (H : List HE) : Option (List Int × Int × Int) := none
set_option maxRecDepth 100000 in
theorem spec_l1Rd_off.eq (k : Nat) (a0_0 : List Int) (a0_1 : Int) (a1 : Int) (a2 : Int) : fromTop Tryz.prog spec_l1Rd_off.E k spec_l1Rd_off.a (spec_l1Rd_off.G k) 1000 (bodyOf Tryz.prog 43) [.box 0 0, .v (.int .i64 a1), .v (.int .i64 a2)] [.box [.con (.int .u8) a0_0, .v (.int .i64 a0_1)]] = spec_l1Rd_off.f k a0_0 a0_1 a1 a2 := by kernel_rfl
theorem spec_l1Rd_off.E_ok : EnvOk Tryz.prog spec_l1Rd_off.E := ⟨⟨spec_l1Rd_once.sound, callable_of (by kernel_rfl)⟩, ⟨spec_l1Rd_below.sound, callable_of (by kernel_rfl)⟩, ⟨spec_l1Rd_near.sound, callable_of (by kernel_rfl)⟩, trivial⟩
theorem spec_l1Rd_off.sound : Sound Tryz.prog 43 spec_l1Rd_off.s := by
  refine func_sound (f := spec_l1Rd_off.a) (G := spec_l1Rd_off.G) (fn := Tryz.f43) (body := bodyOf Tryz.prog 43) 1000 (by kernel_rfl) spec_l1Rd_off.E_ok Tryz.func43 (by kernel_rfl) (by kernel_rfl) (by kernel_rfl) (ptsOk_of (by kernel_rfl)) ?_ ?_ ?_ ?_
  · intro r H x h
    unfold spec_l1Rd_off.a at h
    simp only at h
    split at h
    · cases h; rfl
    · cases h
  · intro q avs H; rfl
  · intro k q pt avs H x _ h; cases h
  · intro k avs H o h
    try dsimp only at h
    split at h
    · cases h; exact spec_l1Rd_off.eq _ _ _ _ _
    · cases h

def spec_l1Rd_keep.a : FnA (List Int × Int × List Int) := ⟨48, [.tmp 4], .con (.int .i64), [.box [.con (.int .u8), .val]], [⟨8, [0, 1, 5, 6], [.box [], .val, .row 2 (.int .i64), .val], [.box [.con (.int .u8), .val]]⟩], fun x H => match x, H with
  | .con (.int .i64) r, [.box [.con (.int .u8) h0_0, .v (.int .i64 h0_1)]] => some (h0_0, h0_1, r)
  | _, _ => none⟩
def spec_l1Rd_keep.s : Spec := mkS [.box [.con (.int .u8), .val], .val] (fun k avs H => match avs, H with
  | [.box 0 0, .v (.int .i64 a1)], [.box [.con (.int .u8) a0_0, .v (.int .i64 a0_1)]] => some (spec_l1Rd_keep.f k a0_0 a0_1 a1)
  | _, _ => none) (fun r => (.con (.int .i64) r.2.2, [.box [.con (.int .u8) r.1, .v (.int .i64 r.2.1)]]))
def spec_l1Rd_keep.E : Env := [((46, []), spec_l1Rd_below.s), ((43, []), spec_l1Rd_off.s)]
def spec_l1Rd_keep.G8 (k : Nat) (avs : List AV) (H : List HE) : Option (List Int × Int × List Int) := match avs, H with
  | [.box 0 0, .v (.int .i64 x1), .own 1, .v (.int .i64 x6)], [.box [.con (.int .u8) h0_0, .v (.int .i64 h0_1)], .row 2 (.int .i64) x5] => spec_l1Rd_keep.p8 k h0_0 h0_1 x1 x5 x6
  | _, _ => none
def spec_l1Rd_keep.G (k p : Nat) (avs : List AV) (H : List HE) : Option (List Int × Int × List Int) := (pick1 8 (spec_l1Rd_keep.G8 k avs H) none p)
set_option maxRecDepth 100000 in
theorem spec_l1Rd_keep.eq (k : Nat) (a0_0 : List Int) (a0_1 : Int) (a1 : Int) : fromTop Tryz.prog spec_l1Rd_keep.E k spec_l1Rd_keep.a (spec_l1Rd_keep.G k) 1000 (bodyOf Tryz.prog 98) [.box 0 0, .v (.int .i64 a1)] [.box [.con (.int .u8) a0_0, .v (.int .i64 a0_1)]] = spec_l1Rd_keep.f k a0_0 a0_1 a1 := by kernel_rfl
set_option maxRecDepth 100000 in
theorem spec_l1Rd_keep.eq8 (k : Nat) (h0_0 : List Int) (h0_1 : Int) (x1 : Int) (x5 : List Int) (x6 : Int) : fromPt Tryz.prog spec_l1Rd_keep.E k spec_l1Rd_keep.a (spec_l1Rd_keep.G k) 1000 (bodyOf Tryz.prog 98) 8 [.box 0 0, .v (.int .i64 x1), .own 1, .v (.int .i64 x6)] [.box [.con (.int .u8) h0_0, .v (.int .i64 h0_1)], .row 2 (.int .i64) x5] = spec_l1Rd_keep.p8 (k + 1) h0_0 h0_1 x1 x5 x6 := by kernel_rfl
theorem spec_l1Rd_keep.G8_0 {avs : List AV} {H : List HE} : spec_l1Rd_keep.G8 0 avs H = none := by unfold spec_l1Rd_keep.G8; split <;> rfl
theorem spec_l1Rd_keep.G8_s (k : Nat) {avs : List AV} {H : List HE} {x : List Int × Int × List Int} (h : spec_l1Rd_keep.G8 (k + 1) avs H = some x) : fromPt Tryz.prog spec_l1Rd_keep.E k spec_l1Rd_keep.a (spec_l1Rd_keep.G k) 1000 (bodyOf Tryz.prog 98) 8 avs H = some x := by
  unfold spec_l1Rd_keep.G8 at h
  split at h
  · rw [← h]; exact spec_l1Rd_keep.eq8 _ _ _ _ _ _
  · cases h
theorem spec_l1Rd_keep.E_ok : EnvOk Tryz.prog spec_l1Rd_keep.E := ⟨⟨spec_l1Rd_below.sound, callable_of (by kernel_rfl)⟩, ⟨spec_l1Rd_off.sound, callable_of (by kernel_rfl)⟩, trivial⟩
theorem spec_l1Rd_keep.sound : Sound Tryz.prog 98 spec_l1Rd_keep.s := by
  refine func_sound (f := spec_l1Rd_keep.a) (G := spec_l1Rd_keep.G) (fn := Tryz.f98) (body := bodyOf Tryz.prog 98) 1000 (by kernel_rfl) spec_l1Rd_keep.E_ok Tryz.func98 (by kernel_rfl) (by kernel_rfl) (by kernel_rfl) (ptsOk_of (by kernel_rfl)) ?_ ?_ ?_ ?_
  · intro r H x h
    unfold spec_l1Rd_keep.a at h
    simp only at h
    split at h
    · cases h; rfl
    · cases h
  · exact fun q avs H => pick1_none spec_l1Rd_keep.G8_0 (rfl)
  · intro k q pt avs H x _ h
    rcases pick1_some h with ⟨rfl, h⟩ | h
    · exact spec_l1Rd_keep.G8_s _ h
    cases h
  · intro k avs H o h
    try dsimp only at h
    split at h
    · cases h; exact spec_l1Rd_keep.eq _ _ _ _
    · cases h

def spec_l2Crash.a : FnA (ByteArray) := ⟨56, [.cell 4 29], .agg [.val, .val], [], [⟨8, [1, 2, 4, 5, 6], [.con (.int .i64), .box [.val, .con (.pair (.int .i64) (.pair .str .str))], .box [.val, .val], .row 0 .bool, .val], []⟩, ⟨12, [1, 2, 4, 5, 6, 21], [.con (.int .i64), .box [.val, .con (.pair (.int .i64) (.pair .str .str))], .box [.val, .val], .row 0 .bool, .val, .bool], []⟩], fun x H => match x, H with
  | .agg [.v (.string r_0), .v (.slice none 0 0)], [] => some r_0
  | _, _ => none⟩
def spec_l2Crash.s : Spec := mkS [.agg [.val, .con (.pair (.int .i64) (.pair .str .str))], .con (.int .i64)] (fun k avs H => match avs, H with
  | [.agg [.v (.string a0_0), .con (.pair (.int .i64) (.pair .str .str)) a0_1], .con (.int .i64) a1], [] => some (spec_l2Crash.f k a0_0 a0_1 a1)
  | _, _ => none) (fun r => (.agg [.v (.string r), .v (.slice none 0 0)], []))
def spec_l2Crash.E : Env := []
def spec_l2Crash.G8 (k : Nat) (avs : List AV) (H : List HE) : Option (ByteArray) := match avs, H with
  | [.con (.int .i64) x1, .box 0 0, .box 1 0, .own 2, .v (.int .i64 x6)], [.box [.v (.string x2_0), .con (.pair (.int .i64) (.pair .str .str)) x2_1], .box [.v (.string x4_0), .v (.slice none 0 0)], .bts x5] => spec_l2Crash.p8 k x1 x2_0 x2_1 x4_0 x5 x6
  | _, _ => none
def spec_l2Crash.G12 (k : Nat) (avs : List AV) (H : List HE) : Option (ByteArray) := match avs, H with
  | [.con (.int .i64) x1, .box 0 0, .box 1 0, .own 2, .v (.int .i64 x6), .bs false x21], [.box [.v (.string x2_0), .con (.pair (.int .i64) (.pair .str .str)) x2_1], .box [.v (.string x4_0), .v (.slice none 0 0)], .bts x5] => spec_l2Crash.p12 k x1 x2_0 x2_1 x4_0 x5 x6 x21
  | _, _ => none
def spec_l2Crash.G (k p : Nat) (avs : List AV) (H : List HE) : Option (ByteArray) := (pick1 8 (spec_l2Crash.G8 k avs H) (pick1 12 (spec_l2Crash.G12 k avs H) none p) p)
set_option maxRecDepth 100000 in
theorem spec_l2Crash.eq (k : Nat) (a0_0 : ByteArray) (a0_1 : List (Int × ByteArray × ByteArray)) (a1 : List Int) : fromTop Tryz.prog spec_l2Crash.E k spec_l2Crash.a (spec_l2Crash.G k) 1000 (bodyOf Tryz.prog 97) [.agg [.v (.string a0_0), .con (.pair (.int .i64) (.pair .str .str)) a0_1], .con (.int .i64) a1] [] = spec_l2Crash.f k a0_0 a0_1 a1 := by kernel_rfl
set_option maxRecDepth 100000 in
theorem spec_l2Crash.eq8 (k : Nat) (x1 : List Int) (x2_0 : ByteArray) (x2_1 : List (Int × ByteArray × ByteArray)) (x4_0 : ByteArray) (x5 : List Int) (x6 : Int) : fromPt Tryz.prog spec_l2Crash.E k spec_l2Crash.a (spec_l2Crash.G k) 1000 (bodyOf Tryz.prog 97) 8 [.con (.int .i64) x1, .box 0 0, .box 1 0, .own 2, .v (.int .i64 x6)] [.box [.v (.string x2_0), .con (.pair (.int .i64) (.pair .str .str)) x2_1], .box [.v (.string x4_0), .v (.slice none 0 0)], .bts x5] = spec_l2Crash.p8 (k + 1) x1 x2_0 x2_1 x4_0 x5 x6 := by kernel_rfl
theorem spec_l2Crash.G8_0 {avs : List AV} {H : List HE} : spec_l2Crash.G8 0 avs H = none := by unfold spec_l2Crash.G8; split <;> rfl
theorem spec_l2Crash.G8_s (k : Nat) {avs : List AV} {H : List HE} {x : ByteArray} (h : spec_l2Crash.G8 (k + 1) avs H = some x) : fromPt Tryz.prog spec_l2Crash.E k spec_l2Crash.a (spec_l2Crash.G k) 1000 (bodyOf Tryz.prog 97) 8 avs H = some x := by
  unfold spec_l2Crash.G8 at h
  split at h
  · rw [← h]; exact spec_l2Crash.eq8 _ _ _ _ _ _ _
  · cases h
set_option maxRecDepth 100000 in
theorem spec_l2Crash.eq12 (k : Nat) (x1 : List Int) (x2_0 : ByteArray) (x2_1 : List (Int × ByteArray × ByteArray)) (x4_0 : ByteArray) (x5 : List Int) (x6 : Int) (x21 : Bool) : fromPt Tryz.prog spec_l2Crash.E k spec_l2Crash.a (spec_l2Crash.G k) 1000 (bodyOf Tryz.prog 97) 12 [.con (.int .i64) x1, .box 0 0, .box 1 0, .own 2, .v (.int .i64 x6), .bs false x21] [.box [.v (.string x2_0), .con (.pair (.int .i64) (.pair .str .str)) x2_1], .box [.v (.string x4_0), .v (.slice none 0 0)], .bts x5] = spec_l2Crash.p12 (k + 1) x1 x2_0 x2_1 x4_0 x5 x6 x21 := by kernel_rfl
theorem spec_l2Crash.G12_0 {avs : List AV} {H : List HE} : spec_l2Crash.G12 0 avs H = none := by unfold spec_l2Crash.G12; split <;> rfl
theorem spec_l2Crash.G12_s (k : Nat) {avs : List AV} {H : List HE} {x : ByteArray} (h : spec_l2Crash.G12 (k + 1) avs H = some x) : fromPt Tryz.prog spec_l2Crash.E k spec_l2Crash.a (spec_l2Crash.G k) 1000 (bodyOf Tryz.prog 97) 12 avs H = some x := by
  unfold spec_l2Crash.G12 at h
  split at h
  · rw [← h]; exact spec_l2Crash.eq12 _ _ _ _ _ _ _ _
  · cases h
theorem spec_l2Crash.E_ok : EnvOk Tryz.prog spec_l2Crash.E := trivial
theorem spec_l2Crash.sound : Sound Tryz.prog 97 spec_l2Crash.s := by
  refine func_sound (f := spec_l2Crash.a) (G := spec_l2Crash.G) (fn := Tryz.f97) (body := bodyOf Tryz.prog 97) 1000 (by kernel_rfl) spec_l2Crash.E_ok Tryz.func97 (by kernel_rfl) (by kernel_rfl) (by kernel_rfl) (ptsOk_of (by kernel_rfl)) ?_ ?_ ?_ ?_
  · intro r H x h
    unfold spec_l2Crash.a at h
    simp only at h
    split at h
    · cases h; rfl
    · cases h
  · exact fun q avs H => pick1_none spec_l2Crash.G8_0 (pick1_none spec_l2Crash.G12_0 (rfl))
  · intro k q pt avs H x _ h
    rcases pick1_some h with ⟨rfl, h⟩ | h
    · exact spec_l2Crash.G8_s _ h
    rcases pick1_some h with ⟨rfl, h⟩ | h
    · exact spec_l2Crash.G12_s _ h
    cases h
  · intro k avs H o h
    try dsimp only at h
    split at h
    · cases h; exact spec_l2Crash.eq _ _ _ _
    · cases h

def spec_l1Rd_loggable.a : FnA (List Int × Int × Int) := ⟨24, [.tmp 4], .val, [.box [.con (.int .u8), .val]], [], fun x H => match x, H with
  | .v (.int .i64 r), [.box [.con (.int .u8) h0_0, .v (.int .i64 h0_1)]] => some (h0_0, h0_1, r)
  | _, _ => none⟩
def spec_l1Rd_loggable.s : Spec := mkS [.box [.con (.int .u8), .val], .agg [.val, .val, .val, .con .str]] (fun k avs H => match avs, H with
  | [.box 0 0, .agg [.v (.int .i64 a1_0), .v (.int .i64 a1_1), .v (.int .i64 a1_2), .con .str a1_3]], [.box [.con (.int .u8) a0_0, .v (.int .i64 a0_1)]] => some (spec_l1Rd_loggable.f a0_0 a0_1 a1_0 a1_1 a1_2 a1_3)
  | _, _ => none) (fun r => (.v (.int .i64 r.2.2), [.box [.con (.int .u8) r.1, .v (.int .i64 r.2.1)]]))
def spec_l1Rd_loggable.E : Env := [((42, []), spec_l1Rd_once.s), ((46, []), spec_l1Rd_below.s)]
def spec_l1Rd_loggable.G (k p : Nat) (avs : List AV) (H : List HE) : Option (List Int × Int × Int) := none
set_option maxRecDepth 100000 in
theorem spec_l1Rd_loggable.eq (k : Nat) (a0_0 : List Int) (a0_1 : Int) (a1_0 : Int) (a1_1 : Int) (a1_2 : Int) (a1_3 : List ByteArray) : fromTop Tryz.prog spec_l1Rd_loggable.E k spec_l1Rd_loggable.a (spec_l1Rd_loggable.G k) 1000 (bodyOf Tryz.prog 45) [.box 0 0, .agg [.v (.int .i64 a1_0), .v (.int .i64 a1_1), .v (.int .i64 a1_2), .con .str a1_3]] [.box [.con (.int .u8) a0_0, .v (.int .i64 a0_1)]] = spec_l1Rd_loggable.f a0_0 a0_1 a1_0 a1_1 a1_2 a1_3 := by kernel_rfl
theorem spec_l1Rd_loggable.E_ok : EnvOk Tryz.prog spec_l1Rd_loggable.E := ⟨⟨spec_l1Rd_once.sound, callable_of (by kernel_rfl)⟩, ⟨spec_l1Rd_below.sound, callable_of (by kernel_rfl)⟩, trivial⟩
theorem spec_l1Rd_loggable.sound : Sound Tryz.prog 45 spec_l1Rd_loggable.s := by
  refine func_sound (f := spec_l1Rd_loggable.a) (G := spec_l1Rd_loggable.G) (fn := Tryz.f45) (body := bodyOf Tryz.prog 45) 1000 (by kernel_rfl) spec_l1Rd_loggable.E_ok Tryz.func45 (by kernel_rfl) (by kernel_rfl) (by kernel_rfl) (ptsOk_of (by kernel_rfl)) ?_ ?_ ?_ ?_
  · intro r H x h
    unfold spec_l1Rd_loggable.a at h
    simp only at h
    split at h
    · cases h; rfl
    · cases h
  · intro q avs H; rfl
  · intro k q pt avs H x _ h; cases h
  · intro k avs H o h
    try dsimp only at h
    split at h
    · cases h; exact spec_l1Rd_loggable.eq _ _ _ _ _ _ _
    · cases h

def spec_l5W_note.a : FnA (ByteArray × List (Int × ByteArray × ByteArray) × Int × Int × Bool × Int) := ⟨63, [.tmp 6], .val, [.box [.val, .con (.pair (.int .i64) (.pair .str .str)), .val, .val, .bool]], [], fun x H => match x, H with
  | .v (.int .i64 r), [.box [.v (.string h0_0), .con (.pair (.int .i64) (.pair .str .str)) h0_1, .v (.int .i64 h0_2), .v (.int .i64 h0_3), .bs false h0_4]] => some (h0_0, h0_1, h0_2, h0_3, h0_4, r)
  | _, _ => none⟩
def spec_l5W_note.s : Spec := mkS [.box [.val, .con (.pair (.int .i64) (.pair .str .str)), .val, .val, .bool], .agg [.val, .val, .val, .con .str], .val] (fun k avs H => match avs, H with
  | [.box 0 0, .agg [.v (.int .i64 a1_0), .v (.int .i64 a1_1), .v (.int .i64 a1_2), .con .str a1_3], .v (.int .i64 a2)], [.box [.v (.string a0_0), .con (.pair (.int .i64) (.pair .str .str)) a0_1, .v (.int .i64 a0_2), .v (.int .i64 a0_3), .bs false a0_4]] => some (spec_l5W_note.f k a0_0 a0_1 a0_2 a0_3 a0_4 a1_0 a1_1 a1_2 a1_3 a2)
  | _, _ => none) (fun r => (.v (.int .i64 r.2.2.2.2.2), [.box [.v (.string r.1), .con (.pair (.int .i64) (.pair .str .str)) r.2.1, .v (.int .i64 r.2.2.1), .v (.int .i64 r.2.2.2.1), .bs false r.2.2.2.2.1]]))
def spec_l5W_note.E : Env := [((60, []), spec_l2Seen.s), ((18, []), spec_LogOf.s), ((23, []), spec_EpochOf.s), ((67, []), spec_l5Place.s), ((100, []), spec_RecordLine.s), ((58, []), spec_l5W_store.s), ((108, []), spec_l5W_flush.s), ((109, []), spec_l5W_fence.s)]
def spec_l5W_note.G (k p : Nat) (avs : List AV) (H : List HE) : Option (ByteArray × List (Int × ByteArray × ByteArray) × Int × Int × Bool × Int) := none
set_option maxRecDepth 100000 in
theorem spec_l5W_note.eq (k : Nat) (a0_0 : ByteArray) (a0_1 : List (Int × ByteArray × ByteArray)) (a0_2 : Int) (a0_3 : Int) (a0_4 : Bool) (a1_0 : Int) (a1_1 : Int) (a1_2 : Int) (a1_3 : List ByteArray) (a2 : Int) : fromTop Tryz.prog spec_l5W_note.E k spec_l5W_note.a (spec_l5W_note.G k) 1000 (bodyOf Tryz.prog 57) [.box 0 0, .agg [.v (.int .i64 a1_0), .v (.int .i64 a1_1), .v (.int .i64 a1_2), .con .str a1_3], .v (.int .i64 a2)] [.box [.v (.string a0_0), .con (.pair (.int .i64) (.pair .str .str)) a0_1, .v (.int .i64 a0_2), .v (.int .i64 a0_3), .bs false a0_4]] = spec_l5W_note.f k a0_0 a0_1 a0_2 a0_3 a0_4 a1_0 a1_1 a1_2 a1_3 a2 := by kernel_rfl
theorem spec_l5W_note.E_ok : EnvOk Tryz.prog spec_l5W_note.E := ⟨⟨spec_l2Seen.sound, callable_of (by kernel_rfl)⟩, ⟨spec_LogOf.sound, callable_of (by kernel_rfl)⟩, ⟨spec_EpochOf.sound, callable_of (by kernel_rfl)⟩, ⟨spec_l5Place.sound, callable_of (by kernel_rfl)⟩, ⟨spec_RecordLine.sound, callable_of (by kernel_rfl)⟩, ⟨spec_l5W_store.sound, callable_of (by kernel_rfl)⟩, ⟨spec_l5W_flush.sound, callable_of (by kernel_rfl)⟩, ⟨spec_l5W_fence.sound, callable_of (by kernel_rfl)⟩, trivial⟩
theorem spec_l5W_note.sound : Sound Tryz.prog 57 spec_l5W_note.s := by
  refine func_sound (f := spec_l5W_note.a) (G := spec_l5W_note.G) (fn := Tryz.f57) (body := bodyOf Tryz.prog 57) 1000 (by kernel_rfl) spec_l5W_note.E_ok Tryz.func57 (by kernel_rfl) (by kernel_rfl) (by kernel_rfl) (ptsOk_of (by kernel_rfl)) ?_ ?_ ?_ ?_
  · intro r H x h
    unfold spec_l5W_note.a at h
    simp only at h
    split at h
    · cases h; rfl
    · cases h
  · intro q avs H; rfl
  · intro k q pt avs H x _ h; cases h
  · intro k avs H o h
    try dsimp only at h
    split at h
    · cases h; exact spec_l5W_note.eq _ _ _ _ _ _ _ _ _ _ _
    · cases h
end
end Go.Proofs.YtmciidoohbmipaaGreatDoor.Abs
