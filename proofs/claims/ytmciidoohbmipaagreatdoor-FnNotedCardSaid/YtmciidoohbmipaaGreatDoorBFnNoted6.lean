/- They are sound. (Merged out of this claim's own texts.) -/
import Derived.Test.YtmciidoohbmipaaGreatDoorBFnNoted5
import Derived.Shelf.Strings.SlTrimAscii
import Derived.Laws.Externs
import Derived.Laws.IdiomCopy
import Derived.Shelf.RegionOpenPlain
import Derived.Lib.Repeat
import Derived.Deep.RegionHeld3
import Derived.Deep.LoopGhost
import Derived.Lib.Hide
import Derived.Lib.AppendZeros
import Derived.Lib.Overlaps
import Derived.Test.YtmciidoohbmipaaGreatDoorProg
import Derived.Test.YtmciidoohbmipaaGreatDoorRows
import Derived.Test.YtmciidoohbmipaaGreatDoorTie
import Derived.Test.YtmciidoohbmipaaGreatDoorCards
import Derived.WalkKit
import Derived.LaidMore
import Derived.Lay
import Derived.SevenTiedAt
import Derived.Stop.Joined
import Derived.ProofKit
import Derived.OpenShut
import Derived.ShutString
import Derived.ChangeOld
import Derived.Below
import Derived.SizedLaws
import Derived.Carry
namespace Go.Proofs.YtmciidoohbmipaaGreatDoor.Abs
open Go Go.RowKit
set_option linter.unusedVariables false
set_option linter.unusedSectionVars false
set_option linter.unusedSimpArgs false
noncomputable section
def spec_Logged.a : FnA (ByteArray × List (Int × ByteArray × ByteArray) × Int) := ⟨57, [.cell 8 29, .tmp 9], .tup [.agg [.val, .con (.pair (.int .i64) (.pair .str .str))], .val], [], [⟨15, [2, 3, 4, 5, 8, 39], [.val, .val, .box [.val, .val, .val, .con .str], .box [.val, .con (.pair (.int .i64) (.pair .str .str))], .box [.val, .val], .bool], []⟩], fun x H => match x, H with
  | .tup [.agg [.v (.string r_0_0), .con (.pair (.int .i64) (.pair .str .str)) r_0_1], .v (.int .i64 r_1)], [] => some (r_0_0, r_0_1, r_1)
  | _, _ => none⟩
def spec_Logged.s : Spec := mkS [.agg [.val, .val, .val, .con .str], .agg [.val, .con (.pair (.int .i64) (.pair .str .str))], .val, .val] (fun k avs H => match avs, H with
  | [.agg [.v (.int .i64 a0_0), .v (.int .i64 a0_1), .v (.int .i64 a0_2), .con .str a0_3], .agg [.v (.string a1_0), .con (.pair (.int .i64) (.pair .str .str)) a1_1], .v (.int .i64 a2), .v (.string a3)], [] => some (spec_Logged.f k a0_0 a0_1 a0_2 a0_3 a1_0 a1_1 a2 a3)
  | _, _ => none) (fun r => (.tup [.agg [.v (.string r.1), .con (.pair (.int .i64) (.pair .str .str)) r.2.1], .v (.int .i64 r.2.2)], []))
def spec_Logged.E : Env := [((53, []), spec_l5Bad.s), ((54, []), spec_l1In.s), ((55, []), spec_l5Half.s), ((56, []), spec_l2Copy.s), ((57, []), spec_l5W_note.s), ((58, []), spec_l5W_store.s)]
def spec_Logged.G15 (k : Nat) (avs : List AV) (H : List HE) : Option (ByteArray × List (Int × ByteArray × ByteArray) × Int) := match avs, H with
  | [.v (.int .i64 x2), .v (.string x3), .box 0 0, .box 1 0, .box 2 0, .bs false x39], [.box [.v (.int .i64 x4_0), .v (.int .i64 x4_1), .v (.int .i64 x4_2), .con .str x4_3], .box [.v (.string x5_0), .con (.pair (.int .i64) (.pair .str .str)) x5_1], .box [.v (.string x8_0), .v (.slice none 0 0)]] => spec_Logged.p15 k x2 x3 x4_0 x4_1 x4_2 x4_3 x5_0 x5_1 x8_0 x39
  | _, _ => none
def spec_Logged.G (k p : Nat) (avs : List AV) (H : List HE) : Option (ByteArray × List (Int × ByteArray × ByteArray) × Int) := (pick1 15 (spec_Logged.G15 k avs H) none p)
set_option maxRecDepth 100000 in
theorem spec_Logged.eq (k : Nat) (a0_0 : Int) (a0_1 : Int) (a0_2 : Int) (a0_3 : List ByteArray) (a1_0 : ByteArray) (a1_1 : List (Int × ByteArray × ByteArray)) (a2 : Int) (a3 : ByteArray) : fromTop Tryz.prog spec_Logged.E k spec_Logged.a (spec_Logged.G k) 1000 (bodyOf Tryz.prog 10) [.agg [.v (.int .i64 a0_0), .v (.int .i64 a0_1), .v (.int .i64 a0_2), .con .str a0_3], .agg [.v (.string a1_0), .con (.pair (.int .i64) (.pair .str .str)) a1_1], .v (.int .i64 a2), .v (.string a3)] [] = spec_Logged.f k a0_0 a0_1 a0_2 a0_3 a1_0 a1_1 a2 a3 := by kernel_rfl
set_option maxRecDepth 100000 in
theorem spec_Logged.eq15 (k : Nat) (x2 : Int) (x3 : ByteArray) (x4_0 : Int) (x4_1 : Int) (x4_2 : Int) (x4_3 : List ByteArray) (x5_0 : ByteArray) (x5_1 : List (Int × ByteArray × ByteArray)) (x8_0 : ByteArray) (x39 : Bool) : fromPt Tryz.prog spec_Logged.E k spec_Logged.a (spec_Logged.G k) 1000 (bodyOf Tryz.prog 10) 15 [.v (.int .i64 x2), .v (.string x3), .box 0 0, .box 1 0, .box 2 0, .bs false x39] [.box [.v (.int .i64 x4_0), .v (.int .i64 x4_1), .v (.int .i64 x4_2), .con .str x4_3], .box [.v (.string x5_0), .con (.pair (.int .i64) (.pair .str .str)) x5_1], .box [.v (.string x8_0), .v (.slice none 0 0)]] = spec_Logged.p15 (k + 1) x2 x3 x4_0 x4_1 x4_2 x4_3 x5_0 x5_1 x8_0 x39 := by kernel_rfl
theorem spec_Logged.G15_0 {avs : List AV} {H : List HE} : spec_Logged.G15 0 avs H = none := by unfold spec_Logged.G15; split <;> rfl
theorem spec_Logged.G15_s (k : Nat) {avs : List AV} {H : List HE} {x : ByteArray × List (Int × ByteArray × ByteArray) × Int} (h : spec_Logged.G15 (k + 1) avs H = some x) : fromPt Tryz.prog spec_Logged.E k spec_Logged.a (spec_Logged.G k) 1000 (bodyOf Tryz.prog 10) 15 avs H = some x := by
  unfold spec_Logged.G15 at h
  split at h
  · rw [← h]; exact spec_Logged.eq15 _ _ _ _ _ _ _ _ _ _ _
  · cases h
theorem spec_Logged.E_ok : EnvOk Tryz.prog spec_Logged.E := ⟨⟨spec_l5Bad.sound, callable_of (by kernel_rfl)⟩, ⟨spec_l1In.sound, callable_of (by kernel_rfl)⟩, ⟨spec_l5Half.sound, callable_of (by kernel_rfl)⟩, ⟨spec_l2Copy.sound, callable_of (by kernel_rfl)⟩, ⟨spec_l5W_note.sound, callable_of (by kernel_rfl)⟩, ⟨spec_l5W_store.sound, callable_of (by kernel_rfl)⟩, trivial⟩
theorem spec_Logged.sound : Sound Tryz.prog 10 spec_Logged.s := by
  refine func_sound (f := spec_Logged.a) (G := spec_Logged.G) (fn := Tryz.f10) (body := bodyOf Tryz.prog 10) 1000 (by kernel_rfl) spec_Logged.E_ok Tryz.func10 (by kernel_rfl) (by kernel_rfl) (by kernel_rfl) (ptsOk_of (by kernel_rfl)) ?_ ?_ ?_ ?_
  · intro r H x h
    unfold spec_Logged.a at h
    simp only at h
    split at h
    · cases h; rfl
    · cases h
  · exact fun q avs H => pick1_none spec_Logged.G15_0 (rfl)
  · intro k q pt avs H x _ h
    rcases pick1_some h with ⟨rfl, h⟩ | h
    · exact spec_Logged.G15_s _ h
    cases h
  · intro k avs H o h
    try dsimp only at h
    split at h
    · cases h; exact spec_Logged.eq _ _ _ _ _ _ _ _ _
    · cases h

def spec_l1Rd_bytes.a : FnA (List Int × Int × ByteArray) := ⟨24, [.tmp 4], .val, [.box [.con (.int .u8), .val]], [⟨8, [0, 5, 6], [.box [], .row 5 (.int .u8), .val], [.box [.con (.int .u8), .val]]⟩], fun x H => match x, H with
  | .v (.string r), [.box [.con (.int .u8) h0_0, .v (.int .i64 h0_1)]] => some (h0_0, h0_1, r)
  | _, _ => none⟩
def spec_l1Rd_bytes.s : Spec := mkS [.box [.con (.int .u8), .val], .val] (fun k avs H => match avs, H with
  | [.box 0 0, .v (.int .i64 a1)], [.box [.con (.int .u8) a0_0, .v (.int .i64 a0_1)]] => some (spec_l1Rd_bytes.f k a0_0 a0_1 a1)
  | _, _ => none) (fun r => (.v (.string r.2.2), [.box [.con (.int .u8) r.1, .v (.int .i64 r.2.1)]]))
def spec_l1Rd_bytes.E : Env := [((46, []), spec_l1Rd_below.s)]
def spec_l1Rd_bytes.G8 (k : Nat) (avs : List AV) (H : List HE) : Option (List Int × Int × ByteArray) := match avs, H with
  | [.box 0 0, .own 1, .v (.int .i64 x6)], [.box [.con (.int .u8) h0_0, .v (.int .i64 h0_1)], .row 5 (.int .u8) x5] => spec_l1Rd_bytes.p8 k h0_0 h0_1 x5 x6
  | _, _ => none
def spec_l1Rd_bytes.G (k p : Nat) (avs : List AV) (H : List HE) : Option (List Int × Int × ByteArray) := (pick1 8 (spec_l1Rd_bytes.G8 k avs H) none p)
set_option maxRecDepth 100000 in
theorem spec_l1Rd_bytes.eq (k : Nat) (a0_0 : List Int) (a0_1 : Int) (a1 : Int) : fromTop Tryz.prog spec_l1Rd_bytes.E k spec_l1Rd_bytes.a (spec_l1Rd_bytes.G k) 1000 (bodyOf Tryz.prog 44) [.box 0 0, .v (.int .i64 a1)] [.box [.con (.int .u8) a0_0, .v (.int .i64 a0_1)]] = spec_l1Rd_bytes.f k a0_0 a0_1 a1 := by kernel_rfl
set_option maxRecDepth 100000 in
theorem spec_l1Rd_bytes.eq8 (k : Nat) (h0_0 : List Int) (h0_1 : Int) (x5 : List Int) (x6 : Int) : fromPt Tryz.prog spec_l1Rd_bytes.E k spec_l1Rd_bytes.a (spec_l1Rd_bytes.G k) 1000 (bodyOf Tryz.prog 44) 8 [.box 0 0, .own 1, .v (.int .i64 x6)] [.box [.con (.int .u8) h0_0, .v (.int .i64 h0_1)], .row 5 (.int .u8) x5] = spec_l1Rd_bytes.p8 (k + 1) h0_0 h0_1 x5 x6 := by kernel_rfl
theorem spec_l1Rd_bytes.G8_0 {avs : List AV} {H : List HE} : spec_l1Rd_bytes.G8 0 avs H = none := by unfold spec_l1Rd_bytes.G8; split <;> rfl
theorem spec_l1Rd_bytes.G8_s (k : Nat) {avs : List AV} {H : List HE} {x : List Int × Int × ByteArray} (h : spec_l1Rd_bytes.G8 (k + 1) avs H = some x) : fromPt Tryz.prog spec_l1Rd_bytes.E k spec_l1Rd_bytes.a (spec_l1Rd_bytes.G k) 1000 (bodyOf Tryz.prog 44) 8 avs H = some x := by
  unfold spec_l1Rd_bytes.G8 at h
  split at h
  · rw [← h]; exact spec_l1Rd_bytes.eq8 _ _ _ _ _
  · cases h
theorem spec_l1Rd_bytes.E_ok : EnvOk Tryz.prog spec_l1Rd_bytes.E := ⟨⟨spec_l1Rd_below.sound, callable_of (by kernel_rfl)⟩, trivial⟩
theorem spec_l1Rd_bytes.sound : Sound Tryz.prog 44 spec_l1Rd_bytes.s := by
  refine func_sound (f := spec_l1Rd_bytes.a) (G := spec_l1Rd_bytes.G) (fn := Tryz.f44) (body := bodyOf Tryz.prog 44) 1000 (by kernel_rfl) spec_l1Rd_bytes.E_ok Tryz.func44 (by kernel_rfl) (by kernel_rfl) (by kernel_rfl) (ptsOk_of (by kernel_rfl)) ?_ ?_ ?_ ?_
  · intro r H x h
    unfold spec_l1Rd_bytes.a at h
    simp only at h
    split at h
    · cases h; rfl
    · cases h
  · exact fun q avs H => pick1_none spec_l1Rd_bytes.G8_0 (rfl)
  · intro k q pt avs H x _ h
    rcases pick1_some h with ⟨rfl, h⟩ | h
    · exact spec_l1Rd_bytes.G8_s _ h
    cases h
  · intro k avs H o h
    try dsimp only at h
    split at h
    · cases h; exact spec_l1Rd_bytes.eq _ _ _ _
    · cases h

def spec_l1Rd_hurt.a : FnA (List Int × Int × ByteArray) := ⟨50, [.tmp 4], .val, [.box [.con (.int .u8), .val]], [], fun x H => match x, H with
  | .v (.string r), [.box [.con (.int .u8) h0_0, .v (.int .i64 h0_1)]] => some (h0_0, h0_1, r)
  | _, _ => none⟩
def spec_l1Rd_hurt.s : Spec := mkS [.box [.con (.int .u8), .val], .val] (fun k avs H => match avs, H with
  | [.box 0 0, .v (.string a1)], [.box [.con (.int .u8) a0_0, .v (.int .i64 a0_1)]] => some (spec_l1Rd_hurt.f a0_0 a0_1 a1)
  | _, _ => none) (fun r => (.v (.string r.2.2), [.box [.con (.int .u8) r.1, .v (.int .i64 r.2.1)]]))
def spec_l1Rd_hurt.E : Env := [((46, []), spec_l1Rd_below.s)]
def spec_l1Rd_hurt.G (k p : Nat) (avs : List AV) (H : List HE) : Option (List Int × Int × ByteArray) := none
set_option maxRecDepth 100000 in
theorem spec_l1Rd_hurt.eq (k : Nat) (a0_0 : List Int) (a0_1 : Int) (a1 : ByteArray) : fromTop Tryz.prog spec_l1Rd_hurt.E k spec_l1Rd_hurt.a (spec_l1Rd_hurt.G k) 1000 (bodyOf Tryz.prog 102) [.box 0 0, .v (.string a1)] [.box [.con (.int .u8) a0_0, .v (.int .i64 a0_1)]] = spec_l1Rd_hurt.f a0_0 a0_1 a1 := by kernel_rfl
theorem spec_l1Rd_hurt.E_ok : EnvOk Tryz.prog spec_l1Rd_hurt.E := ⟨⟨spec_l1Rd_below.sound, callable_of (by kernel_rfl)⟩, trivial⟩
theorem spec_l1Rd_hurt.sound : Sound Tryz.prog 102 spec_l1Rd_hurt.s := by
  refine func_sound (f := spec_l1Rd_hurt.a) (G := spec_l1Rd_hurt.G) (fn := Tryz.f102) (body := bodyOf Tryz.prog 102) 1000 (by kernel_rfl) spec_l1Rd_hurt.E_ok Tryz.func102 (by kernel_rfl) (by kernel_rfl) (by kernel_rfl) (ptsOk_of (by kernel_rfl)) ?_ ?_ ?_ ?_
  · intro r H x h
    unfold spec_l1Rd_hurt.a at h
    simp only at h
    split at h
    · cases h; rfl
    · cases h
  · intro q avs H; rfl
  · intro k q pt avs H x _ h; cases h
  · intro k avs H o h
    try dsimp only at h
    split at h
    · cases h; exact spec_l1Rd_hurt.eq _ _ _ _
    · cases h

def spec_l1Rd_logged.a : FnA (List Int × Int × ByteArray × List (Int × ByteArray × ByteArray)) := ⟨117, [.cell 4 29], .agg [.val, .con (.pair (.int .i64) (.pair .str .str))], [.box [.con (.int .u8), .val]], [⟨14, [0, 3, 4, 5, 6], [.box [], .box [.val, .val, .val, .con .str], .box [.val, .val], .box [.val, .con (.pair (.int .i64) (.pair .str .str))], .val], [.box [.con (.int .u8), .val]]⟩], fun x H => match x, H with
  | .agg [.v (.string r_0), .con (.pair (.int .i64) (.pair .str .str)) r_1], [.box [.con (.int .u8) h0_0, .v (.int .i64 h0_1)]] => some (h0_0, h0_1, r_0, r_1)
  | _, _ => none⟩
def spec_l1Rd_logged.s : Spec := mkS [.box [.con (.int .u8), .val], .agg [.val, .val, .val, .con .str]] (fun k avs H => match avs, H with
  | [.box 0 0, .agg [.v (.int .i64 a1_0), .v (.int .i64 a1_1), .v (.int .i64 a1_2), .con .str a1_3]], [.box [.con (.int .u8) a0_0, .v (.int .i64 a0_1)]] => some (spec_l1Rd_logged.f k a0_0 a0_1 a1_0 a1_1 a1_2 a1_3)
  | _, _ => none) (fun r => (.agg [.v (.string r.2.2.1), .con (.pair (.int .i64) (.pair .str .str)) r.2.2.2], [.box [.con (.int .u8) r.1, .v (.int .i64 r.2.1)]]))
def spec_l1Rd_logged.E : Env := [((92, []), spec_Format.s), ((42, []), spec_l1Rd_once.s), ((46, []), spec_l1Rd_below.s), ((94, []), spec_EpochLine.s), ((93, []), spec_l2With.s), ((95, []), spec_l1Rd_size.s), ((17, []), spec_Ended.s), ((30, []), spec_RolledBack.s), ((96, []), spec_l2Evict.s), ((98, []), spec_l1Rd_keep.s), ((97, []), spec_l2Crash.s), ((45, []), spec_l1Rd_loggable.s), ((10, []), spec_Logged.s), ((44, []), spec_l1Rd_bytes.s), ((99, []), spec_l2Store.s), ((101, []), spec_l1Zeros.s), ((100, []), spec_RecordLine.s), ((102, []), spec_l1Rd_hurt.s)]
def spec_l1Rd_logged.G14 (k : Nat) (avs : List AV) (H : List HE) : Option (List Int × Int × ByteArray × List (Int × ByteArray × ByteArray)) := match avs, H with
  | [.box 0 0, .box 1 0, .box 2 0, .box 3 0, .v (.int .i64 x6)], [.box [.con (.int .u8) h0_0, .v (.int .i64 h0_1)], .box [.v (.int .i64 x3_0), .v (.int .i64 x3_1), .v (.int .i64 x3_2), .con .str x3_3], .box [.v (.string x4_0), .v (.slice none 0 0)], .box [.v (.string x5_0), .con (.pair (.int .i64) (.pair .str .str)) x5_1]] => spec_l1Rd_logged.p14 k h0_0 h0_1 x3_0 x3_1 x3_2 x3_3 x4_0 x5_0 x5_1 x6
  | _, _ => none
def spec_l1Rd_logged.G (k p : Nat) (avs : List AV) (H : List HE) : Option (List Int × Int × ByteArray × List (Int × ByteArray × ByteArray)) := (pick1 14 (spec_l1Rd_logged.G14 k avs H) none p)
set_option maxRecDepth 100000 in
theorem spec_l1Rd_logged.eq (k : Nat) (a0_0 : List Int) (a0_1 : Int) (a1_0 : Int) (a1_1 : Int) (a1_2 : Int) (a1_3 : List ByteArray) : fromTop Tryz.prog spec_l1Rd_logged.E k spec_l1Rd_logged.a (spec_l1Rd_logged.G k) 1000 (bodyOf Tryz.prog 41) [.box 0 0, .agg [.v (.int .i64 a1_0), .v (.int .i64 a1_1), .v (.int .i64 a1_2), .con .str a1_3]] [.box [.con (.int .u8) a0_0, .v (.int .i64 a0_1)]] = spec_l1Rd_logged.f k a0_0 a0_1 a1_0 a1_1 a1_2 a1_3 := by kernel_rfl
set_option maxRecDepth 100000 in
theorem spec_l1Rd_logged.eq14 (k : Nat) (h0_0 : List Int) (h0_1 : Int) (x3_0 : Int) (x3_1 : Int) (x3_2 : Int) (x3_3 : List ByteArray) (x4_0 : ByteArray) (x5_0 : ByteArray) (x5_1 : List (Int × ByteArray × ByteArray)) (x6 : Int) : fromPt Tryz.prog spec_l1Rd_logged.E k spec_l1Rd_logged.a (spec_l1Rd_logged.G k) 1000 (bodyOf Tryz.prog 41) 14 [.box 0 0, .box 1 0, .box 2 0, .box 3 0, .v (.int .i64 x6)] [.box [.con (.int .u8) h0_0, .v (.int .i64 h0_1)], .box [.v (.int .i64 x3_0), .v (.int .i64 x3_1), .v (.int .i64 x3_2), .con .str x3_3], .box [.v (.string x4_0), .v (.slice none 0 0)], .box [.v (.string x5_0), .con (.pair (.int .i64) (.pair .str .str)) x5_1]] = spec_l1Rd_logged.p14 (k + 1) h0_0 h0_1 x3_0 x3_1 x3_2 x3_3 x4_0 x5_0 x5_1 x6 := by kernel_rfl
theorem spec_l1Rd_logged.G14_0 {avs : List AV} {H : List HE} : spec_l1Rd_logged.G14 0 avs H = none := by unfold spec_l1Rd_logged.G14; split <;> rfl
theorem spec_l1Rd_logged.G14_s (k : Nat) {avs : List AV} {H : List HE} {x : List Int × Int × ByteArray × List (Int × ByteArray × ByteArray)} (h : spec_l1Rd_logged.G14 (k + 1) avs H = some x) : fromPt Tryz.prog spec_l1Rd_logged.E k spec_l1Rd_logged.a (spec_l1Rd_logged.G k) 1000 (bodyOf Tryz.prog 41) 14 avs H = some x := by
  unfold spec_l1Rd_logged.G14 at h
  split at h
  · rw [← h]; exact spec_l1Rd_logged.eq14 _ _ _ _ _ _ _ _ _ _ _
  · cases h
theorem spec_l1Rd_logged.E_ok : EnvOk Tryz.prog spec_l1Rd_logged.E := ⟨⟨spec_Format.sound, callable_of (by kernel_rfl)⟩, ⟨spec_l1Rd_once.sound, callable_of (by kernel_rfl)⟩, ⟨spec_l1Rd_below.sound, callable_of (by kernel_rfl)⟩, ⟨spec_EpochLine.sound, callable_of (by kernel_rfl)⟩, ⟨spec_l2With.sound, callable_of (by kernel_rfl)⟩, ⟨spec_l1Rd_size.sound, callable_of (by kernel_rfl)⟩, ⟨spec_Ended.sound, callable_of (by kernel_rfl)⟩, ⟨spec_RolledBack.sound, callable_of (by kernel_rfl)⟩, ⟨spec_l2Evict.sound, callable_of (by kernel_rfl)⟩, ⟨spec_l1Rd_keep.sound, callable_of (by kernel_rfl)⟩, ⟨spec_l2Crash.sound, callable_of (by kernel_rfl)⟩, ⟨spec_l1Rd_loggable.sound, callable_of (by kernel_rfl)⟩, ⟨spec_Logged.sound, callable_of (by kernel_rfl)⟩, ⟨spec_l1Rd_bytes.sound, callable_of (by kernel_rfl)⟩, ⟨spec_l2Store.sound, callable_of (by kernel_rfl)⟩, ⟨spec_l1Zeros.sound, callable_of (by kernel_rfl)⟩, ⟨spec_RecordLine.sound, callable_of (by kernel_rfl)⟩, ⟨spec_l1Rd_hurt.sound, callable_of (by kernel_rfl)⟩, trivial⟩
theorem spec_l1Rd_logged.sound : Sound Tryz.prog 41 spec_l1Rd_logged.s := by
  refine func_sound (f := spec_l1Rd_logged.a) (G := spec_l1Rd_logged.G) (fn := Tryz.f41) (body := bodyOf Tryz.prog 41) 1000 (by kernel_rfl) spec_l1Rd_logged.E_ok Tryz.func41 (by kernel_rfl) (by kernel_rfl) (by kernel_rfl) (ptsOk_of (by kernel_rfl)) ?_ ?_ ?_ ?_
  · intro r H x h
    unfold spec_l1Rd_logged.a at h
    simp only at h
    split at h
    · cases h; rfl
    · cases h
  · exact fun q avs H => pick1_none spec_l1Rd_logged.G14_0 (rfl)
  · intro k q pt avs H x _ h
    rcases pick1_some h with ⟨rfl, h⟩ | h
    · exact spec_l1Rd_logged.G14_s _ h
    cases h
  · intro k avs H o h
    try dsimp only at h
    split at h
    · cases h; exact spec_l1Rd_logged.eq _ _ _ _ _ _ _
    · cases h

def spec_DrawNoted.a : FnA (Int × Int × Int × List ByteArray × ByteArray × List (Int × ByteArray × ByteArray) × Int) := ⟨30, [.cell 2 26, .cell 3 29, .tmp 4], .tup [.agg [.val, .val, .val, .con .str], .agg [.val, .con (.pair (.int .i64) (.pair .str .str))], .val], [], [], fun x H => match x, H with
  | .tup [.agg [.v (.int .i64 r_0_0), .v (.int .i64 r_0_1), .v (.int .i64 r_0_2), .con .str r_0_3], .agg [.v (.string r_1_0), .con (.pair (.int .i64) (.pair .str .str)) r_1_1], .v (.int .i64 r_2)], [] => some (r_0_0, r_0_1, r_0_2, r_0_3, r_1_0, r_1_1, r_2)
  | _, _ => none⟩
def spec_DrawNoted.s : Spec := mkS [.con (.int .u8)] (fun k avs H => match avs, H with
  | [.con (.int .u8) a0], [] => some (spec_DrawNoted.f k a0)
  | _, _ => none) (fun r => (.tup [.agg [.v (.int .i64 r.1), .v (.int .i64 r.2.1), .v (.int .i64 r.2.2.1), .con .str r.2.2.2.1], .agg [.v (.string r.2.2.2.2.1), .con (.pair (.int .i64) (.pair .str .str)) r.2.2.2.2.2.1], .v (.int .i64 r.2.2.2.2.2.2)], []))
def spec_DrawNoted.E : Env := [((39, []), spec_l1Open.s), ((40, []), spec_l1Rd_small.s), ((41, []), spec_l1Rd_logged.s), ((42, []), spec_l1Rd_once.s), ((43, []), spec_l1Rd_off.s), ((45, []), spec_l1Rd_loggable.s)]
def spec_DrawNoted.G (k p : Nat) (avs : List AV) (H : List HE) : Option (Int × Int × Int × List ByteArray × ByteArray × List (Int × ByteArray × ByteArray) × Int) := none
set_option maxRecDepth 100000 in
theorem spec_DrawNoted.eq (k : Nat) (a0 : List Int) : fromTop Tryz.prog spec_DrawNoted.E k spec_DrawNoted.a (spec_DrawNoted.G k) 1000 (bodyOf Tryz.prog 24) [.con (.int .u8) a0] [] = spec_DrawNoted.f k a0 := by kernel_rfl
theorem spec_DrawNoted.E_ok : EnvOk Tryz.prog spec_DrawNoted.E := ⟨⟨spec_l1Open.sound, callable_of (by kernel_rfl)⟩, ⟨spec_l1Rd_small.sound, callable_of (by kernel_rfl)⟩, ⟨spec_l1Rd_logged.sound, callable_of (by kernel_rfl)⟩, ⟨spec_l1Rd_once.sound, callable_of (by kernel_rfl)⟩, ⟨spec_l1Rd_off.sound, callable_of (by kernel_rfl)⟩, ⟨spec_l1Rd_loggable.sound, callable_of (by kernel_rfl)⟩, trivial⟩
theorem spec_DrawNoted.sound : Sound Tryz.prog 24 spec_DrawNoted.s := by
  refine func_sound (f := spec_DrawNoted.a) (G := spec_DrawNoted.G) (fn := Tryz.f24) (body := bodyOf Tryz.prog 24) 1000 (by kernel_rfl) spec_DrawNoted.E_ok Tryz.func24 (by kernel_rfl) (by kernel_rfl) (by kernel_rfl) (ptsOk_of (by kernel_rfl)) ?_ ?_ ?_ ?_
  · intro r H x h
    unfold spec_DrawNoted.a at h
    simp only at h
    split at h
    · cases h; rfl
    · cases h
  · intro q avs H; rfl
  · intro k q pt avs H x _ h; cases h
  · intro k avs H o h
    try dsimp only at h
    split at h
    · cases h; exact spec_DrawNoted.eq _ _
    · cases h

def impl_within.a : FnA (Bool) := ⟨15, [.tmp 6], .bool, [], [], fun x H => match x, H with
  | .bs false r, [] => some r
  | _, _ => none⟩
def impl_within.s : Spec := mkS [.val, .val, .val] (fun k avs H => match avs, H with
  | [.v (.int .i64 a0), .v (.int .i64 a1), .v (.int .i64 a2)], [] => some (impl_within.f a0 a1 a2)
  | _, _ => none) (fun r => (.bs false r, []))
def impl_within.E : Env := []
def impl_within.G (k p : Nat) (avs : List AV) (H : List HE) : Option (Bool) := none
set_option maxRecDepth 100000 in
theorem impl_within.eq (k : Nat) (a0 : Int) (a1 : Int) (a2 : Int) : fromTop Tryz.prog impl_within.E k impl_within.a (impl_within.G k) 1000 (bodyOf Tryz.prog 49) [.v (.int .i64 a0), .v (.int .i64 a1), .v (.int .i64 a2)] [] = impl_within.f a0 a1 a2 := by kernel_rfl
theorem impl_within.E_ok : EnvOk Tryz.prog impl_within.E := trivial
theorem impl_within.sound : Sound Tryz.prog 49 impl_within.s := by
  refine func_sound (f := impl_within.a) (G := impl_within.G) (fn := Tryz.f49) (body := bodyOf Tryz.prog 49) 1000 (by kernel_rfl) impl_within.E_ok Tryz.func49 (by kernel_rfl) (by kernel_rfl) (by kernel_rfl) (ptsOk_of (by kernel_rfl)) ?_ ?_ ?_ ?_
  · intro r H x h
    unfold impl_within.a at h
    simp only at h
    split at h
    · cases h; rfl
    · cases h
  · intro q avs H; rfl
  · intro k q pt avs H x _ h; cases h
  · intro k avs H o h
    try dsimp only at h
    split at h
    · cases h; exact impl_within.eq _ _ _ _
    · cases h

def impl_size_string.a : FnA (Int) := ⟨5, [.tmp 2], .val, [], [], fun x H => match x, H with
  | .v (.int .i64 r), [] => some r
  | _, _ => none⟩
def impl_size_string.s : Spec := mkS [.con .str] (fun k avs H => match avs, H with
  | [.con .str a0], [] => some (impl_size_string.f a0)
  | _, _ => none) (fun r => (.v (.int .i64 r), []))
def impl_size_string.E : Env := []
def impl_size_string.G (k p : Nat) (avs : List AV) (H : List HE) : Option (Int) := none
set_option maxRecDepth 100000 in
theorem impl_size_string.eq (k : Nat) (a0 : List ByteArray) : fromTop Tryz.prog impl_size_string.E k impl_size_string.a (impl_size_string.G k) 1000 (bodyOf Tryz.prog 162) [.con .str a0] [] = impl_size_string.f a0 := by kernel_rfl
theorem impl_size_string.E_ok : EnvOk Tryz.prog impl_size_string.E := trivial
theorem impl_size_string.sound : Sound Tryz.prog 162 impl_size_string.s := by
  refine func_sound (f := impl_size_string.a) (G := impl_size_string.G) (fn := Tryz.f162) (body := bodyOf Tryz.prog 162) 1000 (by kernel_rfl) impl_size_string.E_ok Tryz.func162 (by kernel_rfl) (by kernel_rfl) (by kernel_rfl) (ptsOk_of (by kernel_rfl)) ?_ ?_ ?_ ?_
  · intro r H x h
    unfold impl_size_string.a at h
    simp only at h
    split at h
    · cases h; rfl
    · cases h
  · intro q avs H; rfl
  · intro k q pt avs H x _ h; cases h
  · intro k avs H o h
    try dsimp only at h
    split at h
    · cases h; exact impl_size_string.eq _ _
    · cases h

def strings_Trim.s : Spec := mkS [.val, .val] (fun _ avs H => match avs, H with
  | [.v (.string a0), .v (.string a1)], [] => some (strings_Trim.f a0 a1)
  | _, _ => none) (fun r => (.v (.string r), []))
theorem strings_Trim.sound : Sound Tryz.prog 186 strings_Trim.s := by
  refine sound_plain (emb := fun r => .v (.string r)) ?_
  intro k avs H o x h hx
  split at h
  case h_2 => cases h
  rename_i a0 a1
  cases h
  refine ⟨rfl, fun M w ρ hp vals hr => ?_⟩
  obtain ⟨v0, q0, rfl, rfl, v1, q1, rfl, rfl, rfl⟩ := hr
  unfold strings_Trim.f at hx
  split at hx
  case isFalse => cases hx
  rename_i h0
  split at hx
  case isFalse => cases hx
  rename_i h1
  split at hx
  case isFalse => cases hx
  rename_i h2
  cases hx
  refine (Go.Proofs.Any.strings_Trim_laid Go.Proofs.Tryz.lays160 (by kernel_rfl) a0 a1 w h0 (by omega) (Go.Proofs.ascii_of_all h2)).mono ?_
  rintro e w' ⟨rfl, hb⟩
  exact ⟨_, rfl, hb, fun _ _ _ _ => rfl⟩

def impl_isType.a : FnA (Bool) := ⟨11, [.tmp 2], .bool, [], [], fun x H => match x, H with
  | .bs false r, [] => some r
  | _, _ => none⟩
def impl_isType.s : Spec := mkS [.val] (fun k avs H => match avs, H with
  | [.v (.string a0)], [] => some (impl_isType.f a0)
  | _, _ => none) (fun r => (.bs false r, []))
def impl_isType.E : Env := [((49, []), impl_within.s), ((186, []), strings_Trim.s)]
def impl_isType.G (k p : Nat) (avs : List AV) (H : List HE) : Option (Bool) := none
set_option maxRecDepth 100000 in
theorem impl_isType.eq (k : Nat) (a0 : ByteArray) : fromTop Tryz.prog impl_isType.E k impl_isType.a (impl_isType.G k) 1000 (bodyOf Tryz.prog 165) [.v (.string a0)] [] = impl_isType.f a0 := by kernel_rfl
theorem impl_isType.E_ok : EnvOk Tryz.prog impl_isType.E := ⟨⟨impl_within.sound, callable_of (by kernel_rfl)⟩, ⟨strings_Trim.sound, callable_of (by kernel_rfl)⟩, trivial⟩
theorem impl_isType.sound : Sound Tryz.prog 165 impl_isType.s := by
  refine func_sound (f := impl_isType.a) (G := impl_isType.G) (fn := Tryz.f165) (body := bodyOf Tryz.prog 165) 1000 (by kernel_rfl) impl_isType.E_ok Tryz.func165 (by kernel_rfl) (by kernel_rfl) (by kernel_rfl) (ptsOk_of (by kernel_rfl)) ?_ ?_ ?_ ?_
  · intro r H x h
    unfold impl_isType.a at h
    simp only at h
    split at h
    · cases h; rfl
    · cases h
  · intro q avs H; rfl
  · intro k q pt avs H x _ h; cases h
  · intro k avs H o h
    try dsimp only at h
    split at h
    · cases h; exact impl_isType.eq _ _
    · cases h

def impl_TypesOk_1.a : FnA (Bool) := ⟨6, [.tmp 2], .bool, [], [], fun x H => match x, H with
  | .bs false r, [] => some r
  | _, _ => none⟩
def impl_TypesOk_1.s : Spec := mkS [.val] (fun k avs H => match avs, H with
  | [.v (.string a0)], [] => some (impl_TypesOk_1.f a0)
  | _, _ => none) (fun r => (.bs false r, []))
def impl_TypesOk_1.E : Env := [((165, []), impl_isType.s)]
def impl_TypesOk_1.G (k p : Nat) (avs : List AV) (H : List HE) : Option (Bool) := none
set_option maxRecDepth 100000 in
theorem impl_TypesOk_1.eq (k : Nat) (a0 : ByteArray) : fromTop Tryz.prog impl_TypesOk_1.E k impl_TypesOk_1.a (impl_TypesOk_1.G k) 1000 (bodyOf Tryz.prog 164) [.v (.string a0)] [] = impl_TypesOk_1.f a0 := by kernel_rfl
theorem impl_TypesOk_1.E_ok : EnvOk Tryz.prog impl_TypesOk_1.E := ⟨⟨impl_isType.sound, callable_of (by kernel_rfl)⟩, trivial⟩
theorem impl_TypesOk_1.sound : Sound Tryz.prog 164 impl_TypesOk_1.s := by
  refine func_sound (f := impl_TypesOk_1.a) (G := impl_TypesOk_1.G) (fn := Tryz.f164) (body := bodyOf Tryz.prog 164) 1000 (by kernel_rfl) impl_TypesOk_1.E_ok Tryz.func164 (by kernel_rfl) (by kernel_rfl) (by kernel_rfl) (ptsOk_of (by kernel_rfl)) ?_ ?_ ?_ ?_
  · intro r H x h
    unfold impl_TypesOk_1.a at h
    simp only at h
    split at h
    · cases h; rfl
    · cases h
  · intro q avs H; rfl
  · intro k q pt avs H x _ h; cases h
  · intro k avs H o h
    try dsimp only at h
    split at h
    · cases h; exact impl_TypesOk_1.eq _ _
    · cases h

def slices_IndexFunc_string_at_impl_TypesOk_1.a : FnA (Int) := ⟨19, [.tmp 4], .val, [], [⟨6, [0, 1, 7, 8], [.con .str, .fn 164 0 [], .val, .val], []⟩], fun x H => match x, H with
  | .v (.int .i64 r), [] => some r
  | _, _ => none⟩
def slices_IndexFunc_string_at_impl_TypesOk_1.s : Spec := mkS [.con .str, .fn 164 0 []] (fun k avs H => match avs, H with
  | [.con .str a0, .fn 164 0 []], [] => some (slices_IndexFunc_string_at_impl_TypesOk_1.f k a0)
  | _, _ => none) (fun r => (.v (.int .i64 r), []))
def slices_IndexFunc_string_at_impl_TypesOk_1.E : Env := [((164, []), impl_TypesOk_1.s)]
def slices_IndexFunc_string_at_impl_TypesOk_1.G6 (k : Nat) (avs : List AV) (H : List HE) : Option (Int) := match avs, H with
  | [.con .str x0, .fn 164 0 [], .v (.int .i64 x7), .v (.int .i64 x8)], [] => slices_IndexFunc_string_at_impl_TypesOk_1.p6 k x0 x7 x8
  | _, _ => none
def slices_IndexFunc_string_at_impl_TypesOk_1.G (k p : Nat) (avs : List AV) (H : List HE) : Option (Int) := (pick1 6 (slices_IndexFunc_string_at_impl_TypesOk_1.G6 k avs H) none p)
set_option maxRecDepth 100000 in
theorem slices_IndexFunc_string_at_impl_TypesOk_1.eq (k : Nat) (a0 : List ByteArray) : fromTop Tryz.prog slices_IndexFunc_string_at_impl_TypesOk_1.E k slices_IndexFunc_string_at_impl_TypesOk_1.a (slices_IndexFunc_string_at_impl_TypesOk_1.G k) 1000 (bodyOf Tryz.prog 185) [.con .str a0, .fn 164 0 []] [] = slices_IndexFunc_string_at_impl_TypesOk_1.f k a0 := by kernel_rfl
set_option maxRecDepth 100000 in
theorem slices_IndexFunc_string_at_impl_TypesOk_1.eq6 (k : Nat) (x0 : List ByteArray) (x7 : Int) (x8 : Int) : fromPt Tryz.prog slices_IndexFunc_string_at_impl_TypesOk_1.E k slices_IndexFunc_string_at_impl_TypesOk_1.a (slices_IndexFunc_string_at_impl_TypesOk_1.G k) 1000 (bodyOf Tryz.prog 185) 6 [.con .str x0, .fn 164 0 [], .v (.int .i64 x7), .v (.int .i64 x8)] [] = slices_IndexFunc_string_at_impl_TypesOk_1.p6 (k + 1) x0 x7 x8 := by kernel_rfl
theorem slices_IndexFunc_string_at_impl_TypesOk_1.G6_0 {avs : List AV} {H : List HE} : slices_IndexFunc_string_at_impl_TypesOk_1.G6 0 avs H = none := by unfold slices_IndexFunc_string_at_impl_TypesOk_1.G6; split <;> rfl
theorem slices_IndexFunc_string_at_impl_TypesOk_1.G6_s (k : Nat) {avs : List AV} {H : List HE} {x : Int} (h : slices_IndexFunc_string_at_impl_TypesOk_1.G6 (k + 1) avs H = some x) : fromPt Tryz.prog slices_IndexFunc_string_at_impl_TypesOk_1.E k slices_IndexFunc_string_at_impl_TypesOk_1.a (slices_IndexFunc_string_at_impl_TypesOk_1.G k) 1000 (bodyOf Tryz.prog 185) 6 avs H = some x := by
  unfold slices_IndexFunc_string_at_impl_TypesOk_1.G6 at h
  split at h
  · rw [← h]; exact slices_IndexFunc_string_at_impl_TypesOk_1.eq6 _ _ _ _
  · cases h
theorem slices_IndexFunc_string_at_impl_TypesOk_1.E_ok : EnvOk Tryz.prog slices_IndexFunc_string_at_impl_TypesOk_1.E := ⟨⟨impl_TypesOk_1.sound, callable_of (by kernel_rfl)⟩, trivial⟩
theorem slices_IndexFunc_string_at_impl_TypesOk_1.sound : Sound Tryz.prog 185 slices_IndexFunc_string_at_impl_TypesOk_1.s := by
  refine func_sound (f := slices_IndexFunc_string_at_impl_TypesOk_1.a) (G := slices_IndexFunc_string_at_impl_TypesOk_1.G) (fn := Tryz.f185) (body := bodyOf Tryz.prog 185) 1000 (by kernel_rfl) slices_IndexFunc_string_at_impl_TypesOk_1.E_ok Tryz.func185 (by kernel_rfl) (by kernel_rfl) (by kernel_rfl) (ptsOk_of (by kernel_rfl)) ?_ ?_ ?_ ?_
  · intro r H x h
    unfold slices_IndexFunc_string_at_impl_TypesOk_1.a at h
    simp only at h
    split at h
    · cases h; rfl
    · cases h
  · exact fun q avs H => pick1_none slices_IndexFunc_string_at_impl_TypesOk_1.G6_0 (rfl)
  · intro k q pt avs H x _ h
    rcases pick1_some h with ⟨rfl, h⟩ | h
    · exact slices_IndexFunc_string_at_impl_TypesOk_1.G6_s _ h
    cases h
  · intro k avs H o h
    try dsimp only at h
    split at h
    · cases h; exact slices_IndexFunc_string_at_impl_TypesOk_1.eq _ _
    · cases h

def slices_ContainsFunc_string_at_impl_TypesOk_1.a : FnA (Bool) := ⟨9, [.tmp 4], .bool, [], [], fun x H => match x, H with
  | .bs false r, [] => some r
  | _, _ => none⟩
def slices_ContainsFunc_string_at_impl_TypesOk_1.s : Spec := mkS [.con .str, .fn 164 0 []] (fun k avs H => match avs, H with
  | [.con .str a0, .fn 164 0 []], [] => some (slices_ContainsFunc_string_at_impl_TypesOk_1.f k a0)
  | _, _ => none) (fun r => (.bs false r, []))
def slices_ContainsFunc_string_at_impl_TypesOk_1.E : Env := [((185, [164]), slices_IndexFunc_string_at_impl_TypesOk_1.s)]
def slices_ContainsFunc_string_at_impl_TypesOk_1.G (k p : Nat) (avs : List AV) (H : List HE) : Option (Bool) := none
set_option maxRecDepth 100000 in
theorem slices_ContainsFunc_string_at_impl_TypesOk_1.eq (k : Nat) (a0 : List ByteArray) : fromTop Tryz.prog slices_ContainsFunc_string_at_impl_TypesOk_1.E k slices_ContainsFunc_string_at_impl_TypesOk_1.a (slices_ContainsFunc_string_at_impl_TypesOk_1.G k) 1000 (bodyOf Tryz.prog 163) [.con .str a0, .fn 164 0 []] [] = slices_ContainsFunc_string_at_impl_TypesOk_1.f k a0 := by kernel_rfl
theorem slices_ContainsFunc_string_at_impl_TypesOk_1.E_ok : EnvOk Tryz.prog slices_ContainsFunc_string_at_impl_TypesOk_1.E := ⟨⟨slices_IndexFunc_string_at_impl_TypesOk_1.sound, callable_of (by kernel_rfl)⟩, trivial⟩
theorem slices_ContainsFunc_string_at_impl_TypesOk_1.sound : Sound Tryz.prog 163 slices_ContainsFunc_string_at_impl_TypesOk_1.s := by
  refine func_sound (f := slices_ContainsFunc_string_at_impl_TypesOk_1.a) (G := slices_ContainsFunc_string_at_impl_TypesOk_1.G) (fn := Tryz.f163) (body := bodyOf Tryz.prog 163) 1000 (by kernel_rfl) slices_ContainsFunc_string_at_impl_TypesOk_1.E_ok Tryz.func163 (by kernel_rfl) (by kernel_rfl) (by kernel_rfl) (ptsOk_of (by kernel_rfl)) ?_ ?_ ?_ ?_
  · intro r H x h
    unfold slices_ContainsFunc_string_at_impl_TypesOk_1.a at h
    simp only at h
    split at h
    · cases h; rfl
    · cases h
  · intro q avs H; rfl
  · intro k q pt avs H x _ h; cases h
  · intro k avs H o h
    try dsimp only at h
    split at h
    · cases h; exact slices_ContainsFunc_string_at_impl_TypesOk_1.eq _ _
    · cases h

def impl_TypesOk.a : FnA (Bool) := ⟨11, [.tmp 2], .bool, [], [], fun x H => match x, H with
  | .bs false r, [] => some r
  | _, _ => none⟩
def impl_TypesOk.s : Spec := mkS [.con .str] (fun k avs H => match avs, H with
  | [.con .str a0], [] => some (impl_TypesOk.f k a0)
  | _, _ => none) (fun r => (.bs false r, []))
def impl_TypesOk.E : Env := [((162, []), impl_size_string.s), ((49, []), impl_within.s), ((163, [164]), slices_ContainsFunc_string_at_impl_TypesOk_1.s)]
def impl_TypesOk.G (k p : Nat) (avs : List AV) (H : List HE) : Option (Bool) := none
set_option maxRecDepth 100000 in
theorem impl_TypesOk.eq (k : Nat) (a0 : List ByteArray) : fromTop Tryz.prog impl_TypesOk.E k impl_TypesOk.a (impl_TypesOk.G k) 1000 (bodyOf Tryz.prog 144) [.con .str a0] [] = impl_TypesOk.f k a0 := by kernel_rfl
theorem impl_TypesOk.E_ok : EnvOk Tryz.prog impl_TypesOk.E := ⟨⟨impl_size_string.sound, callable_of (by kernel_rfl)⟩, ⟨impl_within.sound, callable_of (by kernel_rfl)⟩, ⟨slices_ContainsFunc_string_at_impl_TypesOk_1.sound, callable_of (by kernel_rfl)⟩, trivial⟩
theorem impl_TypesOk.sound : Sound Tryz.prog 144 impl_TypesOk.s := by
  refine func_sound (f := impl_TypesOk.a) (G := impl_TypesOk.G) (fn := Tryz.f144) (body := bodyOf Tryz.prog 144) 1000 (by kernel_rfl) impl_TypesOk.E_ok Tryz.func144 (by kernel_rfl) (by kernel_rfl) (by kernel_rfl) (ptsOk_of (by kernel_rfl)) ?_ ?_ ?_ ?_
  · intro r H x h
    unfold impl_TypesOk.a at h
    simp only at h
    split at h
    · cases h; rfl
    · cases h
  · intro q avs H; rfl
  · intro k q pt avs H x _ h; cases h
  · intro k avs H o h
    try dsimp only at h
    split at h
    · cases h; exact impl_TypesOk.eq _ _
    · cases h

def impl_ConfigOk.a : FnA (Bool) := ⟨25, [.tmp 2], .bool, [], [], fun x H => match x, H with
  | .bs false r, [] => some r
  | _, _ => none⟩
def impl_ConfigOk.s : Spec := mkS [.agg [.val, .val, .val, .con .str]] (fun k avs H => match avs, H with
  | [.agg [.v (.int .i64 a0_0), .v (.int .i64 a0_1), .v (.int .i64 a0_2), .con .str a0_3]], [] => some (impl_ConfigOk.f k a0_0 a0_1 a0_2 a0_3)
  | _, _ => none) (fun r => (.bs false r, []))
def impl_ConfigOk.E : Env := [((49, []), impl_within.s), ((144, []), impl_TypesOk.s)]
def impl_ConfigOk.G (k p : Nat) (avs : List AV) (H : List HE) : Option (Bool) := none
set_option maxRecDepth 100000 in
theorem impl_ConfigOk.eq (k : Nat) (a0_0 : Int) (a0_1 : Int) (a0_2 : Int) (a0_3 : List ByteArray) : fromTop Tryz.prog impl_ConfigOk.E k impl_ConfigOk.a (impl_ConfigOk.G k) 1000 (bodyOf Tryz.prog 105) [.agg [.v (.int .i64 a0_0), .v (.int .i64 a0_1), .v (.int .i64 a0_2), .con .str a0_3]] [] = impl_ConfigOk.f k a0_0 a0_1 a0_2 a0_3 := by kernel_rfl
theorem impl_ConfigOk.E_ok : EnvOk Tryz.prog impl_ConfigOk.E := ⟨⟨impl_within.sound, callable_of (by kernel_rfl)⟩, ⟨impl_TypesOk.sound, callable_of (by kernel_rfl)⟩, trivial⟩
theorem impl_ConfigOk.sound : Sound Tryz.prog 105 impl_ConfigOk.s := by
  refine func_sound (f := impl_ConfigOk.a) (G := impl_ConfigOk.G) (fn := Tryz.f105) (body := bodyOf Tryz.prog 105) 1000 (by kernel_rfl) impl_ConfigOk.E_ok Tryz.func105 (by kernel_rfl) (by kernel_rfl) (by kernel_rfl) (ptsOk_of (by kernel_rfl)) ?_ ?_ ?_ ?_
  · intro r H x h
    unfold impl_ConfigOk.a at h
    simp only at h
    split at h
    · cases h; rfl
    · cases h
  · intro q avs H; rfl
  · intro k q pt avs H x _ h; cases h
  · intro k avs H o h
    try dsimp only at h
    split at h
    · cases h; exact impl_ConfigOk.eq _ _ _ _ _
    · cases h

def _impl_Device_has.a : FnA (Bool) := ⟨12, [.tmp 4], .bool, [], [], fun x H => match x, H with
  | .bs false r, [] => some r
  | _, _ => none⟩
def _impl_Device_has.s : Spec := mkS [.agg [.val, .con (.pair (.int .i64) (.pair .str .str))], .val] (fun k avs H => match avs, H with
  | [.agg [.v (.string a0_0), .con (.pair (.int .i64) (.pair .str .str)) a0_1], .v (.int .i64 a1)], [] => some (_impl_Device_has.f a0_0 a0_1 a1)
  | _, _ => none) (fun r => (.bs false r, []))
def _impl_Device_has.E : Env := [((49, []), impl_within.s)]
def _impl_Device_has.G (k p : Nat) (avs : List AV) (H : List HE) : Option (Bool) := none
set_option maxRecDepth 100000 in
theorem _impl_Device_has.eq (k : Nat) (a0_0 : ByteArray) (a0_1 : List (Int × ByteArray × ByteArray)) (a1 : Int) : fromTop Tryz.prog _impl_Device_has.E k _impl_Device_has.a (_impl_Device_has.G k) 1000 (bodyOf Tryz.prog 112) [.agg [.v (.string a0_0), .con (.pair (.int .i64) (.pair .str .str)) a0_1], .v (.int .i64 a1)] [] = _impl_Device_has.f a0_0 a0_1 a1 := by kernel_rfl
theorem _impl_Device_has.E_ok : EnvOk Tryz.prog _impl_Device_has.E := ⟨⟨impl_within.sound, callable_of (by kernel_rfl)⟩, trivial⟩
theorem _impl_Device_has.sound : Sound Tryz.prog 112 _impl_Device_has.s := by
  refine func_sound (f := _impl_Device_has.a) (G := _impl_Device_has.G) (fn := Tryz.f112) (body := bodyOf Tryz.prog 112) 1000 (by kernel_rfl) _impl_Device_has.E_ok Tryz.func112 (by kernel_rfl) (by kernel_rfl) (by kernel_rfl) (ptsOk_of (by kernel_rfl)) ?_ ?_ ?_ ?_
  · intro r H x h
    unfold _impl_Device_has.a at h
    simp only at h
    split at h
    · cases h; rfl
    · cases h
  · intro q avs H; rfl
  · intro k q pt avs H x _ h; cases h
  · intro k avs H o h
    try dsimp only at h
    split at h
    · cases h; exact _impl_Device_has.eq _ _ _ _
    · cases h

def impl_DeviceOk.a : FnA (Bool) := ⟨65, [.tmp 2], .bool, [], [⟨14, [1, 19, 20, 21], [.box [.val, .con (.pair (.int .i64) (.pair .str .str))], .con (.pair (.int .i64) (.pair .str .str)), .val, .val], []⟩], fun x H => match x, H with
  | .bs false r, [] => some r
  | _, _ => none⟩
def impl_DeviceOk.s : Spec := mkS [.agg [.val, .con (.pair (.int .i64) (.pair .str .str))]] (fun k avs H => match avs, H with
  | [.agg [.v (.string a0_0), .con (.pair (.int .i64) (.pair .str .str)) a0_1]], [] => some (impl_DeviceOk.f k a0_0 a0_1)
  | _, _ => none) (fun r => (.bs false r, []))
def impl_DeviceOk.E : Env := [((49, []), impl_within.s), ((112, []), _impl_Device_has.s)]
def impl_DeviceOk.G14 (k : Nat) (avs : List AV) (H : List HE) : Option (Bool) := match avs, H with
  | [.box 0 0, .con (.pair (.int .i64) (.pair .str .str)) x19, .v (.int .i64 x20), .v (.int .i64 x21)], [.box [.v (.string x1_0), .con (.pair (.int .i64) (.pair .str .str)) x1_1]] => impl_DeviceOk.p14 k x1_0 x1_1 x19 x20 x21
  | _, _ => none
def impl_DeviceOk.G (k p : Nat) (avs : List AV) (H : List HE) : Option (Bool) := (pick1 14 (impl_DeviceOk.G14 k avs H) none p)
set_option maxRecDepth 100000 in
theorem impl_DeviceOk.eq (k : Nat) (a0_0 : ByteArray) (a0_1 : List (Int × ByteArray × ByteArray)) : fromTop Tryz.prog impl_DeviceOk.E k impl_DeviceOk.a (impl_DeviceOk.G k) 1000 (bodyOf Tryz.prog 61) [.agg [.v (.string a0_0), .con (.pair (.int .i64) (.pair .str .str)) a0_1]] [] = impl_DeviceOk.f k a0_0 a0_1 := by kernel_rfl
set_option maxRecDepth 100000 in
theorem impl_DeviceOk.eq14 (k : Nat) (x1_0 : ByteArray) (x1_1 : List (Int × ByteArray × ByteArray)) (x19 : List (Int × ByteArray × ByteArray)) (x20 : Int) (x21 : Int) : fromPt Tryz.prog impl_DeviceOk.E k impl_DeviceOk.a (impl_DeviceOk.G k) 1000 (bodyOf Tryz.prog 61) 14 [.box 0 0, .con (.pair (.int .i64) (.pair .str .str)) x19, .v (.int .i64 x20), .v (.int .i64 x21)] [.box [.v (.string x1_0), .con (.pair (.int .i64) (.pair .str .str)) x1_1]] = impl_DeviceOk.p14 (k + 1) x1_0 x1_1 x19 x20 x21 := by kernel_rfl
theorem impl_DeviceOk.G14_0 {avs : List AV} {H : List HE} : impl_DeviceOk.G14 0 avs H = none := by unfold impl_DeviceOk.G14; split <;> rfl
theorem impl_DeviceOk.G14_s (k : Nat) {avs : List AV} {H : List HE} {x : Bool} (h : impl_DeviceOk.G14 (k + 1) avs H = some x) : fromPt Tryz.prog impl_DeviceOk.E k impl_DeviceOk.a (impl_DeviceOk.G k) 1000 (bodyOf Tryz.prog 61) 14 avs H = some x := by
  unfold impl_DeviceOk.G14 at h
  split at h
  · rw [← h]; exact impl_DeviceOk.eq14 _ _ _ _ _ _
  · cases h
theorem impl_DeviceOk.E_ok : EnvOk Tryz.prog impl_DeviceOk.E := ⟨⟨impl_within.sound, callable_of (by kernel_rfl)⟩, ⟨_impl_Device_has.sound, callable_of (by kernel_rfl)⟩, trivial⟩
theorem impl_DeviceOk.sound : Sound Tryz.prog 61 impl_DeviceOk.s := by
  refine func_sound (f := impl_DeviceOk.a) (G := impl_DeviceOk.G) (fn := Tryz.f61) (body := bodyOf Tryz.prog 61) 1000 (by kernel_rfl) impl_DeviceOk.E_ok Tryz.func61 (by kernel_rfl) (by kernel_rfl) (by kernel_rfl) (ptsOk_of (by kernel_rfl)) ?_ ?_ ?_ ?_
  · intro r H x h
    unfold impl_DeviceOk.a at h
    simp only at h
    split at h
    · cases h; rfl
    · cases h
  · exact fun q avs H => pick1_none impl_DeviceOk.G14_0 (rfl)
  · intro k q pt avs H x _ h
    rcases pick1_some h with ⟨rfl, h⟩ | h
    · exact impl_DeviceOk.G14_s _ h
    cases h
  · intro k avs H o h
    try dsimp only at h
    split at h
    · cases h; exact impl_DeviceOk.eq _ _ _
    · cases h

def cmp_isNaN_int64.a : FnA (Bool) := ⟨6, [.tmp 2], .bool, [], [], fun x H => match x, H with
  | .bs false r, [] => some r
  | _, _ => none⟩
def cmp_isNaN_int64.s : Spec := mkS [.val] (fun k avs H => match avs, H with
  | [.v (.int .i64 a0)], [] => some (cmp_isNaN_int64.f a0)
  | _, _ => none) (fun r => (.bs false r, []))
def cmp_isNaN_int64.E : Env := []
def cmp_isNaN_int64.G (k p : Nat) (avs : List AV) (H : List HE) : Option (Bool) := none
set_option maxRecDepth 100000 in
theorem cmp_isNaN_int64.eq (k : Nat) (a0 : Int) : fromTop Tryz.prog cmp_isNaN_int64.E k cmp_isNaN_int64.a (cmp_isNaN_int64.G k) 1000 (bodyOf Tryz.prog 189) [.v (.int .i64 a0)] [] = cmp_isNaN_int64.f a0 := by kernel_rfl
theorem cmp_isNaN_int64.E_ok : EnvOk Tryz.prog cmp_isNaN_int64.E := trivial
theorem cmp_isNaN_int64.sound : Sound Tryz.prog 189 cmp_isNaN_int64.s := by
  refine func_sound (f := cmp_isNaN_int64.a) (G := cmp_isNaN_int64.G) (fn := Tryz.f189) (body := bodyOf Tryz.prog 189) 1000 (by kernel_rfl) cmp_isNaN_int64.E_ok Tryz.func189 (by kernel_rfl) (by kernel_rfl) (by kernel_rfl) (ptsOk_of (by kernel_rfl)) ?_ ?_ ?_ ?_
  · intro r H x h
    unfold cmp_isNaN_int64.a at h
    simp only at h
    split at h
    · cases h; rfl
    · cases h
  · intro q avs H; rfl
  · intro k q pt avs H x _ h; cases h
  · intro k avs H o h
    try dsimp only at h
    split at h
    · cases h; exact cmp_isNaN_int64.eq _ _
    · cases h

def cmp_Compare_int64.a : FnA (Int) := ⟨20, [.tmp 4], .val, [], [], fun x H => match x, H with
  | .v (.int .i64 r), [] => some r
  | _, _ => none⟩
def cmp_Compare_int64.s : Spec := mkS [.val, .val] (fun k avs H => match avs, H with
  | [.v (.int .i64 a0), .v (.int .i64 a1)], [] => some (cmp_Compare_int64.f a0 a1)
  | _, _ => none) (fun r => (.v (.int .i64 r), []))
def cmp_Compare_int64.E : Env := [((189, []), cmp_isNaN_int64.s)]
def cmp_Compare_int64.G (k p : Nat) (avs : List AV) (H : List HE) : Option (Int) := none
set_option maxRecDepth 100000 in
theorem cmp_Compare_int64.eq (k : Nat) (a0 : Int) (a1 : Int) : fromTop Tryz.prog cmp_Compare_int64.E k cmp_Compare_int64.a (cmp_Compare_int64.G k) 1000 (bodyOf Tryz.prog 170) [.v (.int .i64 a0), .v (.int .i64 a1)] [] = cmp_Compare_int64.f a0 a1 := by kernel_rfl
theorem cmp_Compare_int64.E_ok : EnvOk Tryz.prog cmp_Compare_int64.E := ⟨⟨cmp_isNaN_int64.sound, callable_of (by kernel_rfl)⟩, trivial⟩
theorem cmp_Compare_int64.sound : Sound Tryz.prog 170 cmp_Compare_int64.s := by
  refine func_sound (f := cmp_Compare_int64.a) (G := cmp_Compare_int64.G) (fn := Tryz.f170) (body := bodyOf Tryz.prog 170) 1000 (by kernel_rfl) cmp_Compare_int64.E_ok Tryz.func170 (by kernel_rfl) (by kernel_rfl) (by kernel_rfl) (ptsOk_of (by kernel_rfl)) ?_ ?_ ?_ ?_
  · intro r H x h
    unfold cmp_Compare_int64.a at h
    simp only at h
    split at h
    · cases h; rfl
    · cases h
  · intro q avs H; rfl
  · intro k q pt avs H x _ h; cases h
  · intro k avs H o h
    try dsimp only at h
    split at h
    · cases h; exact cmp_Compare_int64.eq _ _ _
    · cases h

def _impl_Device_find_1.a : FnA (Int) := ⟨9, [.tmp 4], .val, [], [], fun x H => match x, H with
  | .v (.int .i64 r), [] => some r
  | _, _ => none⟩
def _impl_Device_find_1.s : Spec := mkS [.agg [.val, .val, .val], .val] (fun k avs H => match avs, H with
  | [.agg [.v (.int .i64 a0_0), .v (.string a0_1), .v (.string a0_2)], .v (.int .i64 a1)], [] => some (_impl_Device_find_1.f a0_0 a0_1 a0_2 a1)
  | _, _ => none) (fun r => (.v (.int .i64 r), []))
def _impl_Device_find_1.E : Env := [((170, []), cmp_Compare_int64.s)]
def _impl_Device_find_1.G (k p : Nat) (avs : List AV) (H : List HE) : Option (Int) := none
set_option maxRecDepth 100000 in
theorem _impl_Device_find_1.eq (k : Nat) (a0_0 : Int) (a0_1 : ByteArray) (a0_2 : ByteArray) (a1 : Int) : fromTop Tryz.prog _impl_Device_find_1.E k _impl_Device_find_1.a (_impl_Device_find_1.G k) 1000 (bodyOf Tryz.prog 169) [.agg [.v (.int .i64 a0_0), .v (.string a0_1), .v (.string a0_2)], .v (.int .i64 a1)] [] = _impl_Device_find_1.f a0_0 a0_1 a0_2 a1 := by kernel_rfl
theorem _impl_Device_find_1.E_ok : EnvOk Tryz.prog _impl_Device_find_1.E := ⟨⟨cmp_Compare_int64.sound, callable_of (by kernel_rfl)⟩, trivial⟩
theorem _impl_Device_find_1.sound : Sound Tryz.prog 169 _impl_Device_find_1.s := by
  refine func_sound (f := _impl_Device_find_1.a) (G := _impl_Device_find_1.G) (fn := Tryz.f169) (body := bodyOf Tryz.prog 169) 1000 (by kernel_rfl) _impl_Device_find_1.E_ok Tryz.func169 (by kernel_rfl) (by kernel_rfl) (by kernel_rfl) (ptsOk_of (by kernel_rfl)) ?_ ?_ ?_ ?_
  · intro r H x h
    unfold _impl_Device_find_1.a at h
    simp only at h
    split at h
    · cases h; rfl
    · cases h
  · intro q avs H; rfl
  · intro k q pt avs H x _ h; cases h
  · intro k avs H o h
    try dsimp only at h
    split at h
    · cases h; exact _impl_Device_find_1.eq _ _ _ _ _
    · cases h

def slices_BinarySearchFunc_int64_at__impl_Device_find_1.a : FnA (Int × Bool) := ⟨49, [.tmp 6, .tmp 7], .tup [.val, .bool], [], [⟨8, [0, 1, 2, 8, 9, 10], [.con (.pair (.int .i64) (.pair .str .str)), .val, .fn 169 0 [], .val, .val, .val], []⟩], fun x H => match x, H with
  | .tup [.v (.int .i64 r_0), .bs false r_1], [] => some (r_0, r_1)
  | _, _ => none⟩
def slices_BinarySearchFunc_int64_at__impl_Device_find_1.s : Spec := mkS [.con (.pair (.int .i64) (.pair .str .str)), .val, .fn 169 0 []] (fun k avs H => match avs, H with
  | [.con (.pair (.int .i64) (.pair .str .str)) a0, .v (.int .i64 a1), .fn 169 0 []], [] => some (slices_BinarySearchFunc_int64_at__impl_Device_find_1.f k a0 a1)
  | _, _ => none) (fun r => (.tup [.v (.int .i64 r.1), .bs false r.2], []))
def slices_BinarySearchFunc_int64_at__impl_Device_find_1.E : Env := [((169, []), _impl_Device_find_1.s)]
def slices_BinarySearchFunc_int64_at__impl_Device_find_1.G8 (k : Nat) (avs : List AV) (H : List HE) : Option (Int × Bool) := match avs, H with
  | [.con (.pair (.int .i64) (.pair .str .str)) x0, .v (.int .i64 x1), .fn 169 0 [], .v (.int .i64 x8), .v (.int .i64 x9), .v (.int .i64 x10)], [] => slices_BinarySearchFunc_int64_at__impl_Device_find_1.p8 k x0 x1 x8 x9 x10
  | _, _ => none
def slices_BinarySearchFunc_int64_at__impl_Device_find_1.G (k p : Nat) (avs : List AV) (H : List HE) : Option (Int × Bool) := (pick1 8 (slices_BinarySearchFunc_int64_at__impl_Device_find_1.G8 k avs H) none p)
set_option maxRecDepth 100000 in
theorem slices_BinarySearchFunc_int64_at__impl_Device_find_1.eq (k : Nat) (a0 : List (Int × ByteArray × ByteArray)) (a1 : Int) : fromTop Tryz.prog slices_BinarySearchFunc_int64_at__impl_Device_find_1.E k slices_BinarySearchFunc_int64_at__impl_Device_find_1.a (slices_BinarySearchFunc_int64_at__impl_Device_find_1.G k) 1000 (bodyOf Tryz.prog 168) [.con (.pair (.int .i64) (.pair .str .str)) a0, .v (.int .i64 a1), .fn 169 0 []] [] = slices_BinarySearchFunc_int64_at__impl_Device_find_1.f k a0 a1 := by kernel_rfl
set_option maxRecDepth 100000 in
theorem slices_BinarySearchFunc_int64_at__impl_Device_find_1.eq8 (k : Nat) (x0 : List (Int × ByteArray × ByteArray)) (x1 : Int) (x8 : Int) (x9 : Int) (x10 : Int) : fromPt Tryz.prog slices_BinarySearchFunc_int64_at__impl_Device_find_1.E k slices_BinarySearchFunc_int64_at__impl_Device_find_1.a (slices_BinarySearchFunc_int64_at__impl_Device_find_1.G k) 1000 (bodyOf Tryz.prog 168) 8 [.con (.pair (.int .i64) (.pair .str .str)) x0, .v (.int .i64 x1), .fn 169 0 [], .v (.int .i64 x8), .v (.int .i64 x9), .v (.int .i64 x10)] [] = slices_BinarySearchFunc_int64_at__impl_Device_find_1.p8 (k + 1) x0 x1 x8 x9 x10 := by kernel_rfl
theorem slices_BinarySearchFunc_int64_at__impl_Device_find_1.G8_0 {avs : List AV} {H : List HE} : slices_BinarySearchFunc_int64_at__impl_Device_find_1.G8 0 avs H = none := by unfold slices_BinarySearchFunc_int64_at__impl_Device_find_1.G8; split <;> rfl
theorem slices_BinarySearchFunc_int64_at__impl_Device_find_1.G8_s (k : Nat) {avs : List AV} {H : List HE} {x : Int × Bool} (h : slices_BinarySearchFunc_int64_at__impl_Device_find_1.G8 (k + 1) avs H = some x) : fromPt Tryz.prog slices_BinarySearchFunc_int64_at__impl_Device_find_1.E k slices_BinarySearchFunc_int64_at__impl_Device_find_1.a (slices_BinarySearchFunc_int64_at__impl_Device_find_1.G k) 1000 (bodyOf Tryz.prog 168) 8 avs H = some x := by
  unfold slices_BinarySearchFunc_int64_at__impl_Device_find_1.G8 at h
  split at h
  · rw [← h]; exact slices_BinarySearchFunc_int64_at__impl_Device_find_1.eq8 _ _ _ _ _ _
  · cases h
theorem slices_BinarySearchFunc_int64_at__impl_Device_find_1.E_ok : EnvOk Tryz.prog slices_BinarySearchFunc_int64_at__impl_Device_find_1.E := ⟨⟨_impl_Device_find_1.sound, callable_of (by kernel_rfl)⟩, trivial⟩
theorem slices_BinarySearchFunc_int64_at__impl_Device_find_1.sound : Sound Tryz.prog 168 slices_BinarySearchFunc_int64_at__impl_Device_find_1.s := by
  refine func_sound (f := slices_BinarySearchFunc_int64_at__impl_Device_find_1.a) (G := slices_BinarySearchFunc_int64_at__impl_Device_find_1.G) (fn := Tryz.f168) (body := bodyOf Tryz.prog 168) 1000 (by kernel_rfl) slices_BinarySearchFunc_int64_at__impl_Device_find_1.E_ok Tryz.func168 (by kernel_rfl) (by kernel_rfl) (by kernel_rfl) (ptsOk_of (by kernel_rfl)) ?_ ?_ ?_ ?_
  · intro r H x h
    unfold slices_BinarySearchFunc_int64_at__impl_Device_find_1.a at h
    simp only at h
    split at h
    · cases h; rfl
    · cases h
  · exact fun q avs H => pick1_none slices_BinarySearchFunc_int64_at__impl_Device_find_1.G8_0 (rfl)
  · intro k q pt avs H x _ h
    rcases pick1_some h with ⟨rfl, h⟩ | h
    · exact slices_BinarySearchFunc_int64_at__impl_Device_find_1.G8_s _ h
    cases h
  · intro k avs H o h
    try dsimp only at h
    split at h
    · cases h; exact slices_BinarySearchFunc_int64_at__impl_Device_find_1.eq _ _ _
    · cases h

def _impl_Device_find.a : FnA (Int × Bool) := ⟨12, [.tmp 4, .tmp 5], .tup [.val, .bool], [], [], fun x H => match x, H with
  | .tup [.v (.int .i64 r_0), .bs false r_1], [] => some (r_0, r_1)
  | _, _ => none⟩
def _impl_Device_find.s : Spec := mkS [.agg [.val, .con (.pair (.int .i64) (.pair .str .str))], .val] (fun k avs H => match avs, H with
  | [.agg [.v (.string a0_0), .con (.pair (.int .i64) (.pair .str .str)) a0_1], .v (.int .i64 a1)], [] => some (_impl_Device_find.f k a0_0 a0_1 a1)
  | _, _ => none) (fun r => (.tup [.v (.int .i64 r.1), .bs false r.2], []))
def _impl_Device_find.E : Env := [((168, [169]), slices_BinarySearchFunc_int64_at__impl_Device_find_1.s)]
def _impl_Device_find.G (k p : Nat) (avs : List AV) (H : List HE) : Option (Int × Bool) := none
set_option maxRecDepth 100000 in
theorem _impl_Device_find.eq (k : Nat) (a0_0 : ByteArray) (a0_1 : List (Int × ByteArray × ByteArray)) (a1 : Int) : fromTop Tryz.prog _impl_Device_find.E k _impl_Device_find.a (_impl_Device_find.G k) 1000 (bodyOf Tryz.prog 150) [.agg [.v (.string a0_0), .con (.pair (.int .i64) (.pair .str .str)) a0_1], .v (.int .i64 a1)] [] = _impl_Device_find.f k a0_0 a0_1 a1 := by kernel_rfl
theorem _impl_Device_find.E_ok : EnvOk Tryz.prog _impl_Device_find.E := ⟨⟨slices_BinarySearchFunc_int64_at__impl_Device_find_1.sound, callable_of (by kernel_rfl)⟩, trivial⟩
theorem _impl_Device_find.sound : Sound Tryz.prog 150 _impl_Device_find.s := by
  refine func_sound (f := _impl_Device_find.a) (G := _impl_Device_find.G) (fn := Tryz.f150) (body := bodyOf Tryz.prog 150) 1000 (by kernel_rfl) _impl_Device_find.E_ok Tryz.func150 (by kernel_rfl) (by kernel_rfl) (by kernel_rfl) (ptsOk_of (by kernel_rfl)) ?_ ?_ ?_ ?_
  · intro r H x h
    unfold _impl_Device_find.a at h
    simp only at h
    split at h
    · cases h; rfl
    · cases h
  · intro q avs H; rfl
  · intro k q pt avs H x _ h; cases h
  · intro k avs H o h
    try dsimp only at h
    split at h
    · cases h; exact _impl_Device_find.eq _ _ _ _
    · cases h

def _impl_Device_safeLine.a : FnA (ByteArray) := ⟨13, [.tmp 4], .val, [], [], fun x H => match x, H with
  | .v (.string r), [] => some r
  | _, _ => none⟩
def _impl_Device_safeLine.s : Spec := mkS [.agg [.val, .con (.pair (.int .i64) (.pair .str .str))], .val] (fun k avs H => match avs, H with
  | [.agg [.v (.string a0_0), .con (.pair (.int .i64) (.pair .str .str)) a0_1], .v (.int .i64 a1)], [] => some (_impl_Device_safeLine.f a0_0 a0_1 a1)
  | _, _ => none) (fun r => (.v (.string r), []))
def _impl_Device_safeLine.E : Env := []
def _impl_Device_safeLine.G (k p : Nat) (avs : List AV) (H : List HE) : Option (ByteArray) := none
set_option maxRecDepth 100000 in
theorem _impl_Device_safeLine.eq (k : Nat) (a0_0 : ByteArray) (a0_1 : List (Int × ByteArray × ByteArray)) (a1 : Int) : fromTop Tryz.prog _impl_Device_safeLine.E k _impl_Device_safeLine.a (_impl_Device_safeLine.G k) 1000 (bodyOf Tryz.prog 151) [.agg [.v (.string a0_0), .con (.pair (.int .i64) (.pair .str .str)) a0_1], .v (.int .i64 a1)] [] = _impl_Device_safeLine.f a0_0 a0_1 a1 := by kernel_rfl
theorem _impl_Device_safeLine.E_ok : EnvOk Tryz.prog _impl_Device_safeLine.E := trivial
theorem _impl_Device_safeLine.sound : Sound Tryz.prog 151 _impl_Device_safeLine.s := by
  refine func_sound (f := _impl_Device_safeLine.a) (G := _impl_Device_safeLine.G) (fn := Tryz.f151) (body := bodyOf Tryz.prog 151) 1000 (by kernel_rfl) _impl_Device_safeLine.E_ok Tryz.func151 (by kernel_rfl) (by kernel_rfl) (by kernel_rfl) (ptsOk_of (by kernel_rfl)) ?_ ?_ ?_ ?_
  · intro r H x h
    unfold _impl_Device_safeLine.a at h
    simp only at h
    split at h
    · cases h; rfl
    · cases h
  · intro q avs H; rfl
  · intro k q pt avs H x _ h; cases h
  · intro k avs H o h
    try dsimp only at h
    split at h
    · cases h; exact _impl_Device_safeLine.eq _ _ _ _
    · cases h

def _impl_Device_seenLine.a : FnA (ByteArray) := ⟨23, [.tmp 4], .val, [], [], fun x H => match x, H with
  | .v (.string r), [] => some r
  | _, _ => none⟩
def _impl_Device_seenLine.s : Spec := mkS [.agg [.val, .con (.pair (.int .i64) (.pair .str .str))], .val] (fun k avs H => match avs, H with
  | [.agg [.v (.string a0_0), .con (.pair (.int .i64) (.pair .str .str)) a0_1], .v (.int .i64 a1)], [] => some (_impl_Device_seenLine.f k a0_0 a0_1 a1)
  | _, _ => none) (fun r => (.v (.string r), []))
def _impl_Device_seenLine.E : Env := [((150, []), _impl_Device_find.s), ((151, []), _impl_Device_safeLine.s)]
def _impl_Device_seenLine.G (k p : Nat) (avs : List AV) (H : List HE) : Option (ByteArray) := none
set_option maxRecDepth 100000 in
theorem _impl_Device_seenLine.eq (k : Nat) (a0_0 : ByteArray) (a0_1 : List (Int × ByteArray × ByteArray)) (a1 : Int) : fromTop Tryz.prog _impl_Device_seenLine.E k _impl_Device_seenLine.a (_impl_Device_seenLine.G k) 1000 (bodyOf Tryz.prog 114) [.agg [.v (.string a0_0), .con (.pair (.int .i64) (.pair .str .str)) a0_1], .v (.int .i64 a1)] [] = _impl_Device_seenLine.f k a0_0 a0_1 a1 := by kernel_rfl
theorem _impl_Device_seenLine.E_ok : EnvOk Tryz.prog _impl_Device_seenLine.E := ⟨⟨_impl_Device_find.sound, callable_of (by kernel_rfl)⟩, ⟨_impl_Device_safeLine.sound, callable_of (by kernel_rfl)⟩, trivial⟩
theorem _impl_Device_seenLine.sound : Sound Tryz.prog 114 _impl_Device_seenLine.s := by
  refine func_sound (f := _impl_Device_seenLine.a) (G := _impl_Device_seenLine.G) (fn := Tryz.f114) (body := bodyOf Tryz.prog 114) 1000 (by kernel_rfl) _impl_Device_seenLine.E_ok Tryz.func114 (by kernel_rfl) (by kernel_rfl) (by kernel_rfl) (ptsOk_of (by kernel_rfl)) ?_ ?_ ?_ ?_
  · intro r H x h
    unfold _impl_Device_seenLine.a at h
    simp only at h
    split at h
    · cases h; rfl
    · cases h
  · intro q avs H; rfl
  · intro k q pt avs H x _ h; cases h
  · intro k avs H o h
    try dsimp only at h
    split at h
    · cases h; exact _impl_Device_seenLine.eq _ _ _ _
    · cases h

def strings_Builder_WriteString.s : Spec := mkS [.bld 134 (.row 5 (.int .u8)), .val] (fun _ avs H => match avs, H with
  | [.box 0 0, .v (.string a1)], [.bld 134 (.own 1), .row 5 (.int .u8) a0] => some (strings_Builder_WriteString.f a0 a1)
  | _, _ => none) (writeX 134 5)
set_option maxHeartbeats 1000000 in
set_option maxRecDepth 100000 in
theorem strings_Builder_WriteString.used (b : Nat) (w : World) (h0 : w.cell? ⟨b, 0, none⟩ = some (.pointer (some ⟨b, 0, none⟩))) :
    Calls Tryz.prog 149 #[.pointer (some ⟨b, 0, none⟩)] w fun e w' => e = .returned (.tuple #[]) ∧ w' = w := by
  obtain ⟨j, hj, _⟩ := Option.map_eq_some_iff.1 (show (Tryz.prog.info? 134).map (·.size) = some 2 by kernel_rfl)
  have mixed : Tryz.prog.follows .mixedOrders = true := by kernel_rfl
  go_enter Tryz.func149, Tryz.ntmps149
  go_wp2
  rw [Lib.run_neq_ptr_same w _ Tryz.underlying132 hj]
  go_wp2
  go_end0
  exact ⟨rfl, rfl⟩
set_option maxHeartbeats 1000000 in
set_option maxRecDepth 100000 in
theorem strings_Builder_WriteString.fresh (b : Nat) (w : World) (h0 : w.cell? ⟨b, 0, none⟩ = some (.pointer none)) (hsh : w.shape? b = some (134, 2)) (hfz : w.frozen? ⟨b, 0, none⟩ = false) :
    Calls Tryz.prog 149 #[.pointer (some ⟨b, 0, none⟩)] w fun e w' => e = .returned (.tuple #[]) ∧ w' = w.setCell ⟨b, 0, none⟩ (.pointer (some ⟨b, 0, none⟩)) := by
  obtain ⟨j, hj, hjs⟩ := Option.map_eq_some_iff.1 (show (Tryz.prog.info? 134).map (·.size) = some 2 by kernel_rfl)
  have mixed : Tryz.prog.follows .mixedOrders = true := by kernel_rfl
  go_enter Tryz.func149, Tryz.ntmps149
  go_wp2
  rw [Lib.run_to_unsafe w ⟨b, 0, none⟩ Tryz.underlying132 Tryz.underlying167 hj (by rw [hjs]; decide) hsh (Nat.zero_lt_succ 1)]
  simp only [Result.andThen]
  rw [Oper.upon_value]
  go_wp2
  rw [run_callFunc_extern Tryz.func167 (by kernel_rfl) (by kernel_rfl) (by kernel_rfl) (e := Extern.AbiNoEscape.same) (by kernel_rfl)]
  rw [Lib.run_noEscape]
  simp only [Result.andThen]
  rw [Oper.upon_value]
  go_wp2
  rw [Lib.run_from_unsafe w ⟨b, 0, none⟩ Tryz.underlying167 Tryz.underlying132 hj hsh (by kernel_rfl)]
  simp only [Result.andThen]
  rw [Oper.upon_value]
  go_wp2
  go_end0
  exact ⟨rfl, rfl⟩
theorem strings_Builder_WriteString.check (b : Nat) (p v : Value) (w : World) (hb : w.heap[b]? = some (.cells #[p, v] 134 (0, 0))) (hp : p = .pointer none ∨ p = .pointer (some ⟨b, 0, none⟩)) :
    Calls Tryz.prog 149 #[.pointer (some ⟨b, 0, none⟩)] w fun e w' => e = .returned (.tuple #[]) ∧ w'.heap[b]? = some (.cells #[.pointer (some ⟨b, 0, none⟩), v] 134 (0, 0)) ∧ Off (fun x => x = b) w w' := by
  have c0 : w.cell? ⟨b, 0, none⟩ = some p := by rw [Lib.cell_of_heap hb]; rfl
  rcases hp with rfl | rfl
  · refine (strings_Builder_WriteString.fresh b w c0 (by simp [World.shape?, hb]) (by simp [World.frozen?, hb])).mono ?_
    rintro e w' ⟨rfl, rfl⟩
    refine ⟨rfl, ?_, ⟨rfl, rfl, rfl, by rw [setCell_size]; exact Nat.le_refl _, fun k _ hk => setCell_other _ _ _ _ hk⟩⟩
    have := Z.blk_set hb 0 (.pointer (some ⟨b, 0, none⟩))
    simpa using this
  · refine (strings_Builder_WriteString.used b w c0).mono ?_
    rintro e w' ⟨rfl, rfl⟩
    exact ⟨rfl, hb, Off.refl _ _⟩
set_option maxHeartbeats 2000000 in
set_option maxRecDepth 100000 in
theorem strings_Builder_WriteString.calls (b : Nat) (p v : Value) (n : Nat) (xs : List Value) (s : ByteArray) (w : World) (hb : w.heap[b]? = some (.cells #[p, v] 134 (0, 0))) (hp : p = .pointer none ∨ p = .pointer (some ⟨b, 0, none⟩)) (hown : w.ownsRow 0 5 1 v n xs) (hne : v.ownBlock ≠ some b) (hlen : n + s.size ≤ 140737488355328) :
    Calls Tryz.prog 113 #[.pointer (some ⟨b, 0, none⟩), .string s] w fun en w' => en = .returned (.tuple #[.int .i64 s.size, .nilIface]) ∧ ∃ v', w'.heap[b]? = some (.cells #[.pointer (some ⟨b, 0, none⟩), v'] 134 (0, 0)) ∧ w'.ownsRow 0 5 1 v' (n + s.size) (xs ++ Lib.strCells s) ∧ Off (fun x => x = b ∨ v.ownBlock = some x) w w' ∧ (v'.ownBlock = v.ownBlock ∨ ∀ g, v'.ownBlock = some g → w.heap.size ≤ g) := by
  obtain ⟨i0, hi, hz0, hz1, hz2⟩ : ∃ i0, Tryz.prog.info? 5 = some i0 ∧ i0.zero = some (.int .u8 0) ∧ i0.size = 1 ∧ i0.bytes = 1 := by
    have h := show (Tryz.prog.info? 5).map (fun i => (i.zero, i.size, i.bytes)) = some (some (.int .u8 0), 1, 1) by kernel_rfl
    rw [Option.map_eq_some_iff] at h
    obtain ⟨i0, h1, h2⟩ := h
    simp only [Prod.mk.injEq] at h2
    exact ⟨i0, h1, h2.1, h2.2.1, h2.2.2⟩
  have mixed : Tryz.prog.follows .mixedOrders = true := by kernel_rfl
  have hchk := strings_Builder_WriteString.check b p v w hb hp
  have hlt0 : b < w.heap.size := (Array.getElem?_eq_some_iff.1 hb).1
  have echk : ∀ args w, (callFunc 149 args).run Tryz.prog w = .ok (.enter 149 args) w := enters_of Tryz.func149 (by kernel_rfl) rfl
  go_enter Tryz.func113, Tryz.ntmps113
  go_wp2_with (go_at_fn 149; refine hchk.mono ?_)
  rintro e w1 ⟨rfl, h1, ho1⟩
  have hown1 : w1.ownsRow 0 5 1 v n xs := own_kept hown fun g hg hlt => ho1.block g hlt (fun e => by
    subst e
    rcases hown.2 with ⟨q, _⟩ | ⟨g2, cap, cur, q, _⟩
    · rw [q] at hg; cases hg
    · rw [q] at hg hne; exact hne hg)
  have c1 : w1.cell? ⟨b, 1, none⟩ = some v := by rw [Lib.cell_of_heap h1]; rfl
  have hlt : b < w1.heap.size := (Array.getElem?_eq_some_iff.1 h1).1
  go_wp2_with (at_builtin; refine wpList_append_str rfl _ _ 22 9 rfl 5 i0 Tryz.underlying22 Tryz.underlying9 hi hz0 hz1 hz2 _ _ _ rfl hown1 s rfl hlen ?_)
  intro v' w2 hown' hgrow hat
  have hb2 : w2.heap[b]? = some (.cells #[.pointer (some ⟨b, 0, none⟩), v] 134 (0, 0)) := by
    rw [hgrow.block b hlt (fun e => hne e.symm)]
    exact h1
  have d1 : w2.cell? ⟨b, 1, none⟩ = some v := by rw [Lib.cell_of_heap hb2]; rfl
  have f1 : w2.frozen? ⟨b, 1, none⟩ = false := Lib.frozen_of_heap hb2 1
  obtain ⟨ao, n', cap, rfl⟩ : ∃ ao n' cap, v' = .slice ao n' cap := by
    rcases hown'.2 with ⟨hv, _⟩ | ⟨g, cap, cur, hv, _⟩
    · exact ⟨_, _, _, hv⟩
    · exact ⟨_, _, _, hv⟩
  go_wp2
  go_ret2
  refine ⟨rfl, .slice ao n' cap, ?_, ?_, ?_, ?_⟩
  · have := Z.blk_set hb2 1 (.slice ao n' cap)
    simpa using this
  · refine own_kept hown' fun g hg hlt2 => setCell_other _ _ _ _ (fun e => ?_)
    have e : g = b := e
    subst e
    rcases hat with h4 | h4
    · have h5 : (Value.slice ao n' cap).ownBlock = some g := by
        cases ao with
        | none => cases hg
        | some a => simpa [blk, Value.ownBlock] using hg
      rw [h4] at h5
      exact hne h5
    · have h5 : (Value.slice ao n' cap).ownBlock = some g := by
        cases ao with
        | none => cases hg
        | some a => simpa [blk, Value.ownBlock] using hg
      have := h4 g h5
      omega
  · refine ((ho1.mono (N := fun x => x = b ∨ v.ownBlock = some x) fun _ _ h => .inl h).trans ((Off.grown hgrow).mono (N := fun x => x = b ∨ v.ownBlock = some x) fun _ _ h => .inr h) fun _ _ h => h).trans (N := fun x => x = b) ⟨rfl, rfl, rfl, by rw [setCell_size]; exact Nat.le_refl _, fun k _ hk => setCell_other _ _ _ _ hk⟩ fun _ _ h => .inl h
  · exact hat.imp id fun h g hg => Nat.le_trans ho1.size (h g hg)
theorem strings_Builder_WriteString.sound : Sound Tryz.prog 113 strings_Builder_WriteString.s := by
  refine sound_write (T := 134) (e := 5) ?_ strings_Builder_WriteString.calls
  intro k avs H o x h hx
  split at h
  case h_2 => cases h
  rename_i a1 a0
  cases h
  unfold strings_Builder_WriteString.f at hx
  split at hx
  case isFalse => cases hx
  rename_i h0
  cases hx
  exact ⟨a0, a1, rfl, rfl, h0, rfl⟩

def strings_Builder_String.s : Spec := mkS [.bld 134 (.row 5 (.int .u8))] (fun _ avs H => match avs, H with
  | [.box 0 0], [.bld 134 (.own 1), .row 5 (.int .u8) a0] => some (strings_Builder_String.f a0)
  | _, _ => none) (fun r => (.v (.string r), [.gone, .gone]))
set_option maxHeartbeats 2000000 in
set_option maxRecDepth 100000 in
theorem strings_Builder_String.full (b g cap : Nat) (p : Value) (cur : Array Value) (l : List UInt8) (w : World) (h0 : l ≠ []) (hbk : w.heap[b]? = some (.cells #[p, .slice (some ⟨g, 0, none⟩) l.length cap] 134 (0, 0)))
    (hg : w.heap[g]? = some (.cells cur 5 (0, 0))) (hnc : l.length ≤ cap) (hcm : cap ≤ maxLen) (hcs : cur.size = cap) (hcells : ∀ j u, (Lib.byteCells l)[j]? = some u → w.cell? ((⟨g, 0, none⟩ : Addr).add j) = some u) :
    Calls Tryz.prog 115 #[.pointer (some ⟨b, 0, none⟩)] w fun e w' => e = .returned (.string ⟨l.toArray⟩) ∧ w' = w.drew.freeze ⟨g, 0, none⟩ l.length := by
  have hl0 : l.length ≠ 0 := by simpa using h0
  have c1 : w.drew.cell? ⟨b, 1, none⟩ = some (.slice (some ⟨g, 0, none⟩) l.length cap) := by
    have : w.drew.heap[b]? = some (.cells #[p, .slice (some ⟨g, 0, none⟩) l.length cap] 134 (0, 0)) := hbk
    rw [Lib.cell_of_heap this]; rfl
  have hSD : (Builtin.unsafeSliceData_ #[22] 157 #[.slice (some ⟨g, 0, none⟩) l.length cap]).run Tryz.prog w.drew = .ok (.pointer (some ⟨g, 0, none⟩)) w.drew :=
    Lib.run_unsafeSliceData_row _ _ _ _ _ _ (by omega)
  have hUS : (Builtin.unsafeString_ #[157, 3] 9 #[.pointer (some ⟨g, 0, none⟩), .int .i64 l.length]).run Tryz.prog w.drew = .ok (.string ⟨l.toArray⟩) (w.drew.freeze ⟨g, 0, none⟩ l.length) := by
    refine Lib.run_unsafeString_row w.drew 157 3 9 5 Tryz.underlying157 (by kernel_rfl) g cur.size (by have hg' : w.drew.heap[g]? = some (.cells cur 5 (0, 0)) := hg; simp [World.shape?, hg']) l h0 (by omega) (by unfold maxLen at hcm; omega) ?_
    intro j x hx
    have := hcells j (.int .u8 x.toNat) (by simp [Lib.byteCells, hx])
    exact this
  clear hcells
  have mixed : Tryz.prog.follows .mixedOrders = true := by kernel_rfl
  go_enter Tryz.func115, Tryz.ntmps115
  go_wp2
  go_region_o
  all_goals (go_wp2; go_ret; exact ⟨rfl, rfl⟩)
theorem strings_Builder_String.calls (b : Nat) (p v : Value) (l : List UInt8) (w : World) (hbk : w.heap[b]? = some (.cells #[p, v] 134 (0, 0))) (hown : w.ownsRow 0 5 1 v l.length (Lib.byteCells l)) :
    Calls Tryz.prog 115 #[.pointer (some ⟨b, 0, none⟩)] w fun en w' => en = .returned (.string ⟨l.toArray⟩) ∧ Off (fun x => v.ownBlock = some x) w w' := by
  have hc := fun g hg => hown.cells (g := g) hg
  rcases hown.2 with ⟨rfl, h0⟩ | ⟨g, cap, cur, rfl, _, hg, hnc, hcm, hcs, _⟩
  · obtain rfl := List.eq_nil_of_length_eq_zero h0
    refine (Any.Builder_String_nil Go.Proofs.Tryz.lays169 Go.Proofs.Tryz.Builder_Extra_169 w.heap.size b p w hbk).mono ?_
    rintro e w' ⟨rfl, hb⟩
    exact ⟨rfl, Off.below hb _⟩
  · by_cases hl : l = []
    · subst hl
      by_cases hc0 : cap = 0
      · subst hc0
        refine (Any.Builder_String_noroom Go.Proofs.Tryz.lays169 Go.Proofs.Tryz.Builder_Extra_169 w.heap.size b g p cur w (Nat.le_refl _) hbk hg).mono ?_
        rintro e w' ⟨rfl, hb⟩
        exact ⟨rfl, Off.below hb _⟩
      · refine (Any.Builder_String_room Go.Proofs.Tryz.lays169 Go.Proofs.Tryz.Builder_Extra_169 w.heap.size b g cap p w hc0 hbk).mono ?_
        rintro e w' ⟨rfl, hb⟩
        exact ⟨rfl, Off.below hb _⟩
    · refine (strings_Builder_String.full b g cap p cur l w hl hbk hg hnc hcm (by simpa using hcs) (hc g rfl)).mono ?_
      rintro e w' ⟨rfl, rfl⟩
      refine ⟨rfl, ((Off.drew (fun x => (Value.slice (some ⟨g, 0, none⟩) l.length cap).ownBlock = some x) w).trans (N := fun x => x = g) (Off.freeze _ _ _) fun x _ hx => ?_)⟩
      subst hx
      rfl
theorem strings_Builder_String.sound : Sound Tryz.prog 115 strings_Builder_String.s := by
  refine sound_str (T := 134) (e := 5) ?_ strings_Builder_String.calls
  intro k avs H o x h hx
  split at h
  case h_2 => cases h
  rename_i a0
  cases h
  unfold strings_Builder_String.f at hx
  split at hx
  case isFalse => cases hx
  rename_i h0
  cases hx
  exact ⟨a0, rfl, rfl, h0, rfl⟩

def _impl_Device_seen.a : FnA (ByteArray) := ⟨15, [.tmp 2], .val, [], [⟨8, [1, 3, 4], [.box [.val, .con (.pair (.int .i64) (.pair .str .str))], .bld 134 (.row 5 (.int .u8)), .val], []⟩], fun x H => match x, H with
  | .v (.string r), [] => some r
  | _, _ => none⟩
def _impl_Device_seen.s : Spec := mkS [.agg [.val, .con (.pair (.int .i64) (.pair .str .str))]] (fun k avs H => match avs, H with
  | [.agg [.v (.string a0_0), .con (.pair (.int .i64) (.pair .str .str)) a0_1]], [] => some (_impl_Device_seen.f k a0_0 a0_1)
  | _, _ => none) (fun r => (.v (.string r), []))
def _impl_Device_seen.E : Env := [((112, []), _impl_Device_has.s), ((114, []), _impl_Device_seenLine.s), ((113, []), strings_Builder_WriteString.s), ((115, []), strings_Builder_String.s)]
def _impl_Device_seen.G8 (k : Nat) (avs : List AV) (H : List HE) : Option (ByteArray) := match avs, H with
  | [.box 0 0, .box 1 0, .v (.int .i64 x4)], [.box [.v (.string x1_0), .con (.pair (.int .i64) (.pair .str .str)) x1_1], .bld 134 (.own 2), .row 5 (.int .u8) x3] => _impl_Device_seen.p8 k x1_0 x1_1 x3 x4
  | _, _ => none
def _impl_Device_seen.G (k p : Nat) (avs : List AV) (H : List HE) : Option (ByteArray) := (pick1 8 (_impl_Device_seen.G8 k avs H) none p)
set_option maxRecDepth 100000 in
theorem _impl_Device_seen.eq (k : Nat) (a0_0 : ByteArray) (a0_1 : List (Int × ByteArray × ByteArray)) : fromTop Tryz.prog _impl_Device_seen.E k _impl_Device_seen.a (_impl_Device_seen.G k) 1000 (bodyOf Tryz.prog 62) [.agg [.v (.string a0_0), .con (.pair (.int .i64) (.pair .str .str)) a0_1]] [] = _impl_Device_seen.f k a0_0 a0_1 := by kernel_rfl
set_option maxRecDepth 100000 in
theorem _impl_Device_seen.eq8 (k : Nat) (x1_0 : ByteArray) (x1_1 : List (Int × ByteArray × ByteArray)) (x3 : List Int) (x4 : Int) : fromPt Tryz.prog _impl_Device_seen.E k _impl_Device_seen.a (_impl_Device_seen.G k) 1000 (bodyOf Tryz.prog 62) 8 [.box 0 0, .box 1 0, .v (.int .i64 x4)] [.box [.v (.string x1_0), .con (.pair (.int .i64) (.pair .str .str)) x1_1], .bld 134 (.own 2), .row 5 (.int .u8) x3] = _impl_Device_seen.p8 (k + 1) x1_0 x1_1 x3 x4 := by kernel_rfl
theorem _impl_Device_seen.G8_0 {avs : List AV} {H : List HE} : _impl_Device_seen.G8 0 avs H = none := by unfold _impl_Device_seen.G8; split <;> rfl
theorem _impl_Device_seen.G8_s (k : Nat) {avs : List AV} {H : List HE} {x : ByteArray} (h : _impl_Device_seen.G8 (k + 1) avs H = some x) : fromPt Tryz.prog _impl_Device_seen.E k _impl_Device_seen.a (_impl_Device_seen.G k) 1000 (bodyOf Tryz.prog 62) 8 avs H = some x := by
  unfold _impl_Device_seen.G8 at h
  split at h
  · rw [← h]; exact _impl_Device_seen.eq8 _ _ _ _ _
  · cases h
theorem _impl_Device_seen.E_ok : EnvOk Tryz.prog _impl_Device_seen.E := ⟨⟨_impl_Device_has.sound, callable_of (by kernel_rfl)⟩, ⟨_impl_Device_seenLine.sound, callable_of (by kernel_rfl)⟩, ⟨strings_Builder_WriteString.sound, callable_of (by kernel_rfl)⟩, ⟨strings_Builder_String.sound, callable_of (by kernel_rfl)⟩, trivial⟩
theorem _impl_Device_seen.sound : Sound Tryz.prog 62 _impl_Device_seen.s := by
  refine func_sound (f := _impl_Device_seen.a) (G := _impl_Device_seen.G) (fn := Tryz.f62) (body := bodyOf Tryz.prog 62) 1000 (by kernel_rfl) _impl_Device_seen.E_ok Tryz.func62 (by kernel_rfl) (by kernel_rfl) (by kernel_rfl) (ptsOk_of (by kernel_rfl)) ?_ ?_ ?_ ?_
  · intro r H x h
    unfold _impl_Device_seen.a at h
    simp only at h
    split at h
    · cases h; rfl
    · cases h
  · exact fun q avs H => pick1_none _impl_Device_seen.G8_0 (rfl)
  · intro k q pt avs H x _ h
    rcases pick1_some h with ⟨rfl, h⟩ | h
    · exact _impl_Device_seen.G8_s _ h
    cases h
  · intro k avs H o h
    try dsimp only at h
    split at h
    · cases h; exact _impl_Device_seen.eq _ _ _
    · cases h

def impl_isImage.a : FnA (Bool) := ⟨15, [.tmp 4], .bool, [], [], fun x H => match x, H with
  | .bs false r, [] => some r
  | _, _ => none⟩
def impl_isImage.s : Spec := mkS [.agg [.val, .val, .val, .con .str], .val] (fun k avs H => match avs, H with
  | [.agg [.v (.int .i64 a0_0), .v (.int .i64 a0_1), .v (.int .i64 a0_2), .con .str a0_3], .v (.string a1)], [] => some (impl_isImage.f k a0_0 a0_1 a0_2 a0_3 a1)
  | _, _ => none) (fun r => (.bs false r, []))
def impl_isImage.E : Env := [((105, []), impl_ConfigOk.s)]
def impl_isImage.G (k p : Nat) (avs : List AV) (H : List HE) : Option (Bool) := none
set_option maxRecDepth 100000 in
theorem impl_isImage.eq (k : Nat) (a0_0 : Int) (a0_1 : Int) (a0_2 : Int) (a0_3 : List ByteArray) (a1 : ByteArray) : fromTop Tryz.prog impl_isImage.E k impl_isImage.a (impl_isImage.G k) 1000 (bodyOf Tryz.prog 75) [.agg [.v (.int .i64 a0_0), .v (.int .i64 a0_1), .v (.int .i64 a0_2), .con .str a0_3], .v (.string a1)] [] = impl_isImage.f k a0_0 a0_1 a0_2 a0_3 a1 := by kernel_rfl
theorem impl_isImage.E_ok : EnvOk Tryz.prog impl_isImage.E := ⟨⟨impl_ConfigOk.sound, callable_of (by kernel_rfl)⟩, trivial⟩
theorem impl_isImage.sound : Sound Tryz.prog 75 impl_isImage.s := by
  refine func_sound (f := impl_isImage.a) (G := impl_isImage.G) (fn := Tryz.f75) (body := bodyOf Tryz.prog 75) 1000 (by kernel_rfl) impl_isImage.E_ok Tryz.func75 (by kernel_rfl) (by kernel_rfl) (by kernel_rfl) (ptsOk_of (by kernel_rfl)) ?_ ?_ ?_ ?_
  · intro r H x h
    unfold impl_isImage.a at h
    simp only at h
    split at h
    · cases h; rfl
    · cases h
  · intro q avs H; rfl
  · intro k q pt avs H x _ h; cases h
  · intro k avs H o h
    try dsimp only at h
    split at h
    · cases h; exact impl_isImage.eq _ _ _ _ _ _
    · cases h

def impl_lineOf.a : FnA (ByteArray) := ⟨12, [.tmp 4], .val, [], [], fun x H => match x, H with
  | .v (.string r), [] => some r
  | _, _ => none⟩
def impl_lineOf.s : Spec := mkS [.val, .val] (fun k avs H => match avs, H with
  | [.v (.string a0), .v (.int .i64 a1)], [] => some (impl_lineOf.f a0 a1)
  | _, _ => none) (fun r => (.v (.string r), []))
def impl_lineOf.E : Env := []
def impl_lineOf.G (k p : Nat) (avs : List AV) (H : List HE) : Option (ByteArray) := none
set_option maxRecDepth 100000 in
theorem impl_lineOf.eq (k : Nat) (a0 : ByteArray) (a1 : Int) : fromTop Tryz.prog impl_lineOf.E k impl_lineOf.a (impl_lineOf.G k) 1000 (bodyOf Tryz.prog 69) [.v (.string a0), .v (.int .i64 a1)] [] = impl_lineOf.f a0 a1 := by kernel_rfl
theorem impl_lineOf.E_ok : EnvOk Tryz.prog impl_lineOf.E := trivial
theorem impl_lineOf.sound : Sound Tryz.prog 69 impl_lineOf.s := by
  refine func_sound (f := impl_lineOf.a) (G := impl_lineOf.G) (fn := Tryz.f69) (body := bodyOf Tryz.prog 69) 1000 (by kernel_rfl) impl_lineOf.E_ok Tryz.func69 (by kernel_rfl) (by kernel_rfl) (by kernel_rfl) (ptsOk_of (by kernel_rfl)) ?_ ?_ ?_ ?_
  · intro r H x h
    unfold impl_lineOf.a at h
    simp only at h
    split at h
    · cases h; rfl
    · cases h
  · intro q avs H; rfl
  · intro k q pt avs H x _ h; cases h
  · intro k avs H o h
    try dsimp only at h
    split at h
    · cases h; exact impl_lineOf.eq _ _ _
    · cases h

def impl_bigBytes.a : FnA (ByteArray) := ⟨27, [.tmp 4], .val, [], [⟨8, [0, 1, 5, 10, 11], [.val, .val, .row 5 (.int .u8), .val, .val], []⟩], fun x H => match x, H with
  | .v (.string r), [] => some r
  | _, _ => none⟩
def impl_bigBytes.s : Spec := mkS [.val, .val] (fun k avs H => match avs, H with
  | [.v (.int .u64 a0), .v (.int .i64 a1)], [] => some (impl_bigBytes.f k a0 a1)
  | _, _ => none) (fun r => (.v (.string r), []))
def impl_bigBytes.E : Env := []
def impl_bigBytes.G8 (k : Nat) (avs : List AV) (H : List HE) : Option (ByteArray) := match avs, H with
  | [.v (.int .u64 x0), .v (.int .i64 x1), .own 0, .v (.int .i64 x10), .v (.int .i64 x11)], [.row 5 (.int .u8) x5] => impl_bigBytes.p8 k x0 x1 x5 x10 x11
  | _, _ => none
def impl_bigBytes.G (k p : Nat) (avs : List AV) (H : List HE) : Option (ByteArray) := (pick1 8 (impl_bigBytes.G8 k avs H) none p)
set_option maxRecDepth 100000 in
theorem impl_bigBytes.eq (k : Nat) (a0 : Int) (a1 : Int) : fromTop Tryz.prog impl_bigBytes.E k impl_bigBytes.a (impl_bigBytes.G k) 1000 (bodyOf Tryz.prog 172) [.v (.int .u64 a0), .v (.int .i64 a1)] [] = impl_bigBytes.f k a0 a1 := by kernel_rfl
set_option maxRecDepth 100000 in
theorem impl_bigBytes.eq8 (k : Nat) (x0 : Int) (x1 : Int) (x5 : List Int) (x10 : Int) (x11 : Int) : fromPt Tryz.prog impl_bigBytes.E k impl_bigBytes.a (impl_bigBytes.G k) 1000 (bodyOf Tryz.prog 172) 8 [.v (.int .u64 x0), .v (.int .i64 x1), .own 0, .v (.int .i64 x10), .v (.int .i64 x11)] [.row 5 (.int .u8) x5] = impl_bigBytes.p8 (k + 1) x0 x1 x5 x10 x11 := by kernel_rfl
theorem impl_bigBytes.G8_0 {avs : List AV} {H : List HE} : impl_bigBytes.G8 0 avs H = none := by unfold impl_bigBytes.G8; split <;> rfl
theorem impl_bigBytes.G8_s (k : Nat) {avs : List AV} {H : List HE} {x : ByteArray} (h : impl_bigBytes.G8 (k + 1) avs H = some x) : fromPt Tryz.prog impl_bigBytes.E k impl_bigBytes.a (impl_bigBytes.G k) 1000 (bodyOf Tryz.prog 172) 8 avs H = some x := by
  unfold impl_bigBytes.G8 at h
  split at h
  · rw [← h]; exact impl_bigBytes.eq8 _ _ _ _ _ _
  · cases h
theorem impl_bigBytes.E_ok : EnvOk Tryz.prog impl_bigBytes.E := trivial
theorem impl_bigBytes.sound : Sound Tryz.prog 172 impl_bigBytes.s := by
  refine func_sound (f := impl_bigBytes.a) (G := impl_bigBytes.G) (fn := Tryz.f172) (body := bodyOf Tryz.prog 172) 1000 (by kernel_rfl) impl_bigBytes.E_ok Tryz.func172 (by kernel_rfl) (by kernel_rfl) (by kernel_rfl) (ptsOk_of (by kernel_rfl)) ?_ ?_ ?_ ?_
  · intro r H x h
    unfold impl_bigBytes.a at h
    simp only at h
    split at h
    · cases h; rfl
    · cases h
  · exact fun q avs H => pick1_none impl_bigBytes.G8_0 (rfl)
  · intro k q pt avs H x _ h
    rcases pick1_some h with ⟨rfl, h⟩ | h
    · exact impl_bigBytes.G8_s _ h
    cases h
  · intro k avs H o h
    try dsimp only at h
    split at h
    · cases h; exact impl_bigBytes.eq _ _ _
    · cases h

def impl_Crc.a : FnA (ByteArray) := ⟨36, [.tmp 2], .val, [], [⟨16, [0, 3, 10, 11], [.val, .val, .val, .val], []⟩, ⟨32, [0, 3, 10, 11, 20], [.val, .val, .val, .val, .val], []⟩], fun x H => match x, H with
  | .v (.string r), [] => some r
  | _, _ => none⟩
def impl_Crc.s : Spec := mkS [.val] (fun k avs H => match avs, H with
  | [.v (.string a0)], [] => some (impl_Crc.f k a0)
  | _, _ => none) (fun r => (.v (.string r), []))
def impl_Crc.E : Env := [((172, []), impl_bigBytes.s)]
def impl_Crc.G16 (k : Nat) (avs : List AV) (H : List HE) : Option (ByteArray) := match avs, H with
  | [.v (.string x0), .v (.int .u32 x3), .v (.int .i64 x10), .v (.int .i64 x11)], [] => impl_Crc.p16 k x0 x3 x10 x11
  | _, _ => none
def impl_Crc.G32 (k : Nat) (avs : List AV) (H : List HE) : Option (ByteArray) := match avs, H with
  | [.v (.string x0), .v (.int .u32 x3), .v (.int .i64 x10), .v (.int .i64 x11), .v (.int .i64 x20)], [] => impl_Crc.p32 k x0 x3 x10 x11 x20
  | _, _ => none
def impl_Crc.G (k p : Nat) (avs : List AV) (H : List HE) : Option (ByteArray) := (pick1 16 (impl_Crc.G16 k avs H) (pick1 32 (impl_Crc.G32 k avs H) none p) p)
set_option maxRecDepth 100000 in
theorem impl_Crc.eq (k : Nat) (a0 : ByteArray) : fromTop Tryz.prog impl_Crc.E k impl_Crc.a (impl_Crc.G k) 1000 (bodyOf Tryz.prog 156) [.v (.string a0)] [] = impl_Crc.f k a0 := by kernel_rfl
set_option maxRecDepth 100000 in
theorem impl_Crc.eq16 (k : Nat) (x0 : ByteArray) (x3 : Int) (x10 : Int) (x11 : Int) : fromPt Tryz.prog impl_Crc.E k impl_Crc.a (impl_Crc.G k) 1000 (bodyOf Tryz.prog 156) 16 [.v (.string x0), .v (.int .u32 x3), .v (.int .i64 x10), .v (.int .i64 x11)] [] = impl_Crc.p16 (k + 1) x0 x3 x10 x11 := by kernel_rfl
theorem impl_Crc.G16_0 {avs : List AV} {H : List HE} : impl_Crc.G16 0 avs H = none := by unfold impl_Crc.G16; split <;> rfl
theorem impl_Crc.G16_s (k : Nat) {avs : List AV} {H : List HE} {x : ByteArray} (h : impl_Crc.G16 (k + 1) avs H = some x) : fromPt Tryz.prog impl_Crc.E k impl_Crc.a (impl_Crc.G k) 1000 (bodyOf Tryz.prog 156) 16 avs H = some x := by
  unfold impl_Crc.G16 at h
  split at h
  · rw [← h]; exact impl_Crc.eq16 _ _ _ _ _
  · cases h
set_option maxRecDepth 100000 in
theorem impl_Crc.eq32 (k : Nat) (x0 : ByteArray) (x3 : Int) (x10 : Int) (x11 : Int) (x20 : Int) : fromPt Tryz.prog impl_Crc.E k impl_Crc.a (impl_Crc.G k) 1000 (bodyOf Tryz.prog 156) 32 [.v (.string x0), .v (.int .u32 x3), .v (.int .i64 x10), .v (.int .i64 x11), .v (.int .i64 x20)] [] = impl_Crc.p32 (k + 1) x0 x3 x10 x11 x20 := by kernel_rfl
theorem impl_Crc.G32_0 {avs : List AV} {H : List HE} : impl_Crc.G32 0 avs H = none := by unfold impl_Crc.G32; split <;> rfl
theorem impl_Crc.G32_s (k : Nat) {avs : List AV} {H : List HE} {x : ByteArray} (h : impl_Crc.G32 (k + 1) avs H = some x) : fromPt Tryz.prog impl_Crc.E k impl_Crc.a (impl_Crc.G k) 1000 (bodyOf Tryz.prog 156) 32 avs H = some x := by
  unfold impl_Crc.G32 at h
  split at h
  · rw [← h]; exact impl_Crc.eq32 _ _ _ _ _ _
  · cases h
theorem impl_Crc.E_ok : EnvOk Tryz.prog impl_Crc.E := ⟨⟨impl_bigBytes.sound, callable_of (by kernel_rfl)⟩, trivial⟩
theorem impl_Crc.sound : Sound Tryz.prog 156 impl_Crc.s := by
  refine func_sound (f := impl_Crc.a) (G := impl_Crc.G) (fn := Tryz.f156) (body := bodyOf Tryz.prog 156) 1000 (by kernel_rfl) impl_Crc.E_ok Tryz.func156 (by kernel_rfl) (by kernel_rfl) (by kernel_rfl) (ptsOk_of (by kernel_rfl)) ?_ ?_ ?_ ?_
  · intro r H x h
    unfold impl_Crc.a at h
    simp only at h
    split at h
    · cases h; rfl
    · cases h
  · exact fun q avs H => pick1_none impl_Crc.G16_0 (pick1_none impl_Crc.G32_0 (rfl))
  · intro k q pt avs H x _ h
    rcases pick1_some h with ⟨rfl, h⟩ | h
    · exact impl_Crc.G16_s _ h
    rcases pick1_some h with ⟨rfl, h⟩ | h
    · exact impl_Crc.G32_s _ h
    cases h
  · intro k avs H o h
    try dsimp only at h
    split at h
    · cases h; exact impl_Crc.eq _ _
    · cases h

def impl_Unsealed.a : FnA (ByteArray × Bool) := ⟨17, [.tmp 2, .tmp 3], .tup [.val, .bool], [], [], fun x H => match x, H with
  | .tup [.v (.string r_0), .bs false r_1], [] => some (r_0, r_1)
  | _, _ => none⟩
def impl_Unsealed.s : Spec := mkS [.val] (fun k avs H => match avs, H with
  | [.v (.string a0)], [] => some (impl_Unsealed.f k a0)
  | _, _ => none) (fun r => (.tup [.v (.string r.1), .bs false r.2], []))
def impl_Unsealed.E : Env := [((156, []), impl_Crc.s)]
def impl_Unsealed.G (k p : Nat) (avs : List AV) (H : List HE) : Option (ByteArray × Bool) := none
set_option maxRecDepth 100000 in
theorem impl_Unsealed.eq (k : Nat) (a0 : ByteArray) : fromTop Tryz.prog impl_Unsealed.E k impl_Unsealed.a (impl_Unsealed.G k) 1000 (bodyOf Tryz.prog 124) [.v (.string a0)] [] = impl_Unsealed.f k a0 := by kernel_rfl
theorem impl_Unsealed.E_ok : EnvOk Tryz.prog impl_Unsealed.E := ⟨⟨impl_Crc.sound, callable_of (by kernel_rfl)⟩, trivial⟩
theorem impl_Unsealed.sound : Sound Tryz.prog 124 impl_Unsealed.s := by
  refine func_sound (f := impl_Unsealed.a) (G := impl_Unsealed.G) (fn := Tryz.f124) (body := bodyOf Tryz.prog 124) 1000 (by kernel_rfl) impl_Unsealed.E_ok Tryz.func124 (by kernel_rfl) (by kernel_rfl) (by kernel_rfl) (ptsOk_of (by kernel_rfl)) ?_ ?_ ?_ ?_
  · intro r H x h
    unfold impl_Unsealed.a at h
    simp only at h
    split at h
    · cases h; rfl
    · cases h
  · intro q avs H; rfl
  · intro k q pt avs H x _ h; cases h
  · intro k avs H o h
    try dsimp only at h
    split at h
    · cases h; exact impl_Unsealed.eq _ _
    · cases h

def impl_wordAt.a : FnA (Int) := ⟨21, [.tmp 4], .val, [], [⟨8, [0, 1, 5, 7], [.val, .val, .val, .val], []⟩], fun x H => match x, H with
  | .v (.int .i64 r), [] => some r
  | _, _ => none⟩
def impl_wordAt.s : Spec := mkS [.val, .val] (fun k avs H => match avs, H with
  | [.v (.string a0), .v (.int .i64 a1)], [] => some (impl_wordAt.f k a0 a1)
  | _, _ => none) (fun r => (.v (.int .i64 r), []))
def impl_wordAt.E : Env := []
def impl_wordAt.G8 (k : Nat) (avs : List AV) (H : List HE) : Option (Int) := match avs, H with
  | [.v (.string x0), .v (.int .i64 x1), .v (.int .i64 x5), .v (.int .i64 x7)], [] => impl_wordAt.p8 k x0 x1 x5 x7
  | _, _ => none
def impl_wordAt.G (k p : Nat) (avs : List AV) (H : List HE) : Option (Int) := (pick1 8 (impl_wordAt.G8 k avs H) none p)
set_option maxRecDepth 100000 in
theorem impl_wordAt.eq (k : Nat) (a0 : ByteArray) (a1 : Int) : fromTop Tryz.prog impl_wordAt.E k impl_wordAt.a (impl_wordAt.G k) 1000 (bodyOf Tryz.prog 125) [.v (.string a0), .v (.int .i64 a1)] [] = impl_wordAt.f k a0 a1 := by kernel_rfl
set_option maxRecDepth 100000 in
theorem impl_wordAt.eq8 (k : Nat) (x0 : ByteArray) (x1 : Int) (x5 : Int) (x7 : Int) : fromPt Tryz.prog impl_wordAt.E k impl_wordAt.a (impl_wordAt.G k) 1000 (bodyOf Tryz.prog 125) 8 [.v (.string x0), .v (.int .i64 x1), .v (.int .i64 x5), .v (.int .i64 x7)] [] = impl_wordAt.p8 (k + 1) x0 x1 x5 x7 := by kernel_rfl
theorem impl_wordAt.G8_0 {avs : List AV} {H : List HE} : impl_wordAt.G8 0 avs H = none := by unfold impl_wordAt.G8; split <;> rfl
theorem impl_wordAt.G8_s (k : Nat) {avs : List AV} {H : List HE} {x : Int} (h : impl_wordAt.G8 (k + 1) avs H = some x) : fromPt Tryz.prog impl_wordAt.E k impl_wordAt.a (impl_wordAt.G k) 1000 (bodyOf Tryz.prog 125) 8 avs H = some x := by
  unfold impl_wordAt.G8 at h
  split at h
  · rw [← h]; exact impl_wordAt.eq8 _ _ _ _ _
  · cases h
theorem impl_wordAt.E_ok : EnvOk Tryz.prog impl_wordAt.E := trivial
theorem impl_wordAt.sound : Sound Tryz.prog 125 impl_wordAt.s := by
  refine func_sound (f := impl_wordAt.a) (G := impl_wordAt.G) (fn := Tryz.f125) (body := bodyOf Tryz.prog 125) 1000 (by kernel_rfl) impl_wordAt.E_ok Tryz.func125 (by kernel_rfl) (by kernel_rfl) (by kernel_rfl) (ptsOk_of (by kernel_rfl)) ?_ ?_ ?_ ?_
  · intro r H x h
    unfold impl_wordAt.a at h
    simp only at h
    split at h
    · cases h; rfl
    · cases h
  · exact fun q avs H => pick1_none impl_wordAt.G8_0 (rfl)
  · intro k q pt avs H x _ h
    rcases pick1_some h with ⟨rfl, h⟩ | h
    · exact impl_wordAt.G8_s _ h
    cases h
  · intro k avs H o h
    try dsimp only at h
    split at h
    · cases h; exact impl_wordAt.eq _ _ _
    · cases h

def impl_WordBytes.a : FnA (ByteArray) := ⟨6, [.tmp 2], .val, [], [], fun x H => match x, H with
  | .v (.string r), [] => some r
  | _, _ => none⟩
def impl_WordBytes.s : Spec := mkS [.val] (fun k avs H => match avs, H with
  | [.v (.int .i64 a0)], [] => some (impl_WordBytes.f k a0)
  | _, _ => none) (fun r => (.v (.string r), []))
def impl_WordBytes.E : Env := [((172, []), impl_bigBytes.s)]
def impl_WordBytes.G (k p : Nat) (avs : List AV) (H : List HE) : Option (ByteArray) := none
set_option maxRecDepth 100000 in
theorem impl_WordBytes.eq (k : Nat) (a0 : Int) : fromTop Tryz.prog impl_WordBytes.E k impl_WordBytes.a (impl_WordBytes.G k) 1000 (bodyOf Tryz.prog 155) [.v (.int .i64 a0)] [] = impl_WordBytes.f k a0 := by kernel_rfl
theorem impl_WordBytes.E_ok : EnvOk Tryz.prog impl_WordBytes.E := ⟨⟨impl_bigBytes.sound, callable_of (by kernel_rfl)⟩, trivial⟩
theorem impl_WordBytes.sound : Sound Tryz.prog 155 impl_WordBytes.s := by
  refine func_sound (f := impl_WordBytes.a) (G := impl_WordBytes.G) (fn := Tryz.f155) (body := bodyOf Tryz.prog 155) 1000 (by kernel_rfl) impl_WordBytes.E_ok Tryz.func155 (by kernel_rfl) (by kernel_rfl) (by kernel_rfl) (ptsOk_of (by kernel_rfl)) ?_ ?_ ?_ ?_
  · intro r H x h
    unfold impl_WordBytes.a at h
    simp only at h
    split at h
    · cases h; rfl
    · cases h
  · intro q avs H; rfl
  · intro k q pt avs H x _ h; cases h
  · intro k avs H o h
    try dsimp only at h
    split at h
    · cases h; exact impl_WordBytes.eq _ _
    · cases h

def strings_Repeat.s : Spec := mkS [.val, .val] (fun _ avs H => match avs, H with
  | [.v (.string a0), .v (.int .i64 a1)], [] => some (strings_Repeat.f a0 a1)
  | _, _ => none) (fun r => (.v (.string r), []))
theorem strings_Repeat.sound : Sound Tryz.prog 190 strings_Repeat.s := by
  refine sound_plain (emb := fun r => .v (.string r)) ?_
  intro k avs H o x h hx
  split at h
  case h_2 => cases h
  rename_i a0 a1
  cases h
  refine ⟨rfl, fun M w ρ hp vals hr => ?_⟩
  obtain ⟨v0, q0, rfl, rfl, v1, q1, rfl, rfl, rfl⟩ := hr
  unfold strings_Repeat.f at hx
  split at hx
  case isFalse => cases hx
  rename_i h0
  split at hx
  case isFalse => cases hx
  rename_i h1
  split at hx
  case isFalse => cases hx
  rename_i h2
  cases hx
  obtain ⟨c, rfl⟩ := Int.eq_ofNat_of_zero_le h0
  rw [Int.toNat_natCast]
  have hb : a0.size * c ≤ 1048576 * 1048576 := Nat.mul_le_mul h2 (by omega)
  refine (Go.Proofs.Tryz.strings_Repeat a0 c w (by omega) (by omega)).mono ?_
  rintro e w' ⟨rfl, hb⟩
  exact ⟨_, rfl, hb, fun _ _ _ _ => rfl⟩

def impl_zeros.a : FnA (ByteArray) := ⟨5, [.tmp 2], .val, [], [], fun x H => match x, H with
  | .v (.string r), [] => some r
  | _, _ => none⟩
def impl_zeros.s : Spec := mkS [.val] (fun k avs H => match avs, H with
  | [.v (.int .i64 a0)], [] => some (impl_zeros.f a0)
  | _, _ => none) (fun r => (.v (.string r), []))
def impl_zeros.E : Env := [((190, []), strings_Repeat.s)]
def impl_zeros.G (k p : Nat) (avs : List AV) (H : List HE) : Option (ByteArray) := none
set_option maxRecDepth 100000 in
theorem impl_zeros.eq (k : Nat) (a0 : Int) : fromTop Tryz.prog impl_zeros.E k impl_zeros.a (impl_zeros.G k) 1000 (bodyOf Tryz.prog 171) [.v (.int .i64 a0)] [] = impl_zeros.f a0 := by kernel_rfl
theorem impl_zeros.E_ok : EnvOk Tryz.prog impl_zeros.E := ⟨⟨strings_Repeat.sound, callable_of (by kernel_rfl)⟩, trivial⟩
theorem impl_zeros.sound : Sound Tryz.prog 171 impl_zeros.s := by
  refine func_sound (f := impl_zeros.a) (G := impl_zeros.G) (fn := Tryz.f171) (body := bodyOf Tryz.prog 171) 1000 (by kernel_rfl) impl_zeros.E_ok Tryz.func171 (by kernel_rfl) (by kernel_rfl) (by kernel_rfl) (ptsOk_of (by kernel_rfl)) ?_ ?_ ?_ ?_
  · intro r H x h
    unfold impl_zeros.a at h
    simp only at h
    split at h
    · cases h; rfl
    · cases h
  · intro q avs H; rfl
  · intro k q pt avs H x _ h; cases h
  · intro k avs H o h
    try dsimp only at h
    split at h
    · cases h; exact impl_zeros.eq _ _
    · cases h

def impl_Sealed.a : FnA (ByteArray) := ⟨16, [.tmp 2], .val, [], [], fun x H => match x, H with
  | .v (.string r), [] => some r
  | _, _ => none⟩
def impl_Sealed.s : Spec := mkS [.val] (fun k avs H => match avs, H with
  | [.v (.string a0)], [] => some (impl_Sealed.f k a0)
  | _, _ => none) (fun r => (.v (.string r), []))
def impl_Sealed.E : Env := [((171, []), impl_zeros.s), ((156, []), impl_Crc.s)]
def impl_Sealed.G (k p : Nat) (avs : List AV) (H : List HE) : Option (ByteArray) := none
set_option maxRecDepth 100000 in
theorem impl_Sealed.eq (k : Nat) (a0 : ByteArray) : fromTop Tryz.prog impl_Sealed.E k impl_Sealed.a (impl_Sealed.G k) 1000 (bodyOf Tryz.prog 154) [.v (.string a0)] [] = impl_Sealed.f k a0 := by kernel_rfl
theorem impl_Sealed.E_ok : EnvOk Tryz.prog impl_Sealed.E := ⟨⟨impl_zeros.sound, callable_of (by kernel_rfl)⟩, ⟨impl_Crc.sound, callable_of (by kernel_rfl)⟩, trivial⟩
theorem impl_Sealed.sound : Sound Tryz.prog 154 impl_Sealed.s := by
  refine func_sound (f := impl_Sealed.a) (G := impl_Sealed.G) (fn := Tryz.f154) (body := bodyOf Tryz.prog 154) 1000 (by kernel_rfl) impl_Sealed.E_ok Tryz.func154 (by kernel_rfl) (by kernel_rfl) (by kernel_rfl) (ptsOk_of (by kernel_rfl)) ?_ ?_ ?_ ?_
  · intro r H x h
    unfold impl_Sealed.a at h
    simp only at h
    split at h
    · cases h; rfl
    · cases h
  · intro q avs H; rfl
  · intro k q pt avs H x _ h; cases h
  · intro k avs H o h
    try dsimp only at h
    split at h
    · cases h; exact impl_Sealed.eq _ _
    · cases h

def impl_EpochLine.a : FnA (ByteArray) := ⟨9, [.tmp 2], .val, [], [], fun x H => match x, H with
  | .v (.string r), [] => some r
  | _, _ => none⟩
def impl_EpochLine.s : Spec := mkS [.val] (fun k avs H => match avs, H with
  | [.v (.int .i64 a0)], [] => some (impl_EpochLine.f k a0)
  | _, _ => none) (fun r => (.v (.string r), []))
def impl_EpochLine.E : Env := [((49, []), impl_within.s), ((155, []), impl_WordBytes.s), ((154, []), impl_Sealed.s)]
def impl_EpochLine.G (k p : Nat) (avs : List AV) (H : List HE) : Option (ByteArray) := none
set_option maxRecDepth 100000 in
theorem impl_EpochLine.eq (k : Nat) (a0 : Int) : fromTop Tryz.prog impl_EpochLine.E k impl_EpochLine.a (impl_EpochLine.G k) 1000 (bodyOf Tryz.prog 120) [.v (.int .i64 a0)] [] = impl_EpochLine.f k a0 := by kernel_rfl
theorem impl_EpochLine.E_ok : EnvOk Tryz.prog impl_EpochLine.E := ⟨⟨impl_within.sound, callable_of (by kernel_rfl)⟩, ⟨impl_WordBytes.sound, callable_of (by kernel_rfl)⟩, ⟨impl_Sealed.sound, callable_of (by kernel_rfl)⟩, trivial⟩
theorem impl_EpochLine.sound : Sound Tryz.prog 120 impl_EpochLine.s := by
  refine func_sound (f := impl_EpochLine.a) (G := impl_EpochLine.G) (fn := Tryz.f120) (body := bodyOf Tryz.prog 120) 1000 (by kernel_rfl) impl_EpochLine.E_ok Tryz.func120 (by kernel_rfl) (by kernel_rfl) (by kernel_rfl) (ptsOk_of (by kernel_rfl)) ?_ ?_ ?_ ?_
  · intro r H x h
    unfold impl_EpochLine.a at h
    simp only at h
    split at h
    · cases h; rfl
    · cases h
  · intro q avs H; rfl
  · intro k q pt avs H x _ h; cases h
  · intro k avs H o h
    try dsimp only at h
    split at h
    · cases h; exact impl_EpochLine.eq _ _
    · cases h

def impl_ReadEpoch.a : FnA (Int × Bool) := ⟨26, [.tmp 2, .tmp 3], .tup [.val, .bool], [], [], fun x H => match x, H with
  | .tup [.v (.int .i64 r_0), .bs false r_1], [] => some (r_0, r_1)
  | _, _ => none⟩
def impl_ReadEpoch.s : Spec := mkS [.val] (fun k avs H => match avs, H with
  | [.v (.string a0)], [] => some (impl_ReadEpoch.f k a0)
  | _, _ => none) (fun r => (.tup [.v (.int .i64 r.1), .bs false r.2], []))
def impl_ReadEpoch.E : Env := [((124, []), impl_Unsealed.s), ((125, []), impl_wordAt.s), ((49, []), impl_within.s), ((120, []), impl_EpochLine.s)]
def impl_ReadEpoch.G (k p : Nat) (avs : List AV) (H : List HE) : Option (Int × Bool) := none
set_option maxRecDepth 100000 in
theorem impl_ReadEpoch.eq (k : Nat) (a0 : ByteArray) : fromTop Tryz.prog impl_ReadEpoch.E k impl_ReadEpoch.a (impl_ReadEpoch.G k) 1000 (bodyOf Tryz.prog 76) [.v (.string a0)] [] = impl_ReadEpoch.f k a0 := by kernel_rfl
theorem impl_ReadEpoch.E_ok : EnvOk Tryz.prog impl_ReadEpoch.E := ⟨⟨impl_Unsealed.sound, callable_of (by kernel_rfl)⟩, ⟨impl_wordAt.sound, callable_of (by kernel_rfl)⟩, ⟨impl_within.sound, callable_of (by kernel_rfl)⟩, ⟨impl_EpochLine.sound, callable_of (by kernel_rfl)⟩, trivial⟩
theorem impl_ReadEpoch.sound : Sound Tryz.prog 76 impl_ReadEpoch.s := by
  refine func_sound (f := impl_ReadEpoch.a) (G := impl_ReadEpoch.G) (fn := Tryz.f76) (body := bodyOf Tryz.prog 76) 1000 (by kernel_rfl) impl_ReadEpoch.E_ok Tryz.func76 (by kernel_rfl) (by kernel_rfl) (by kernel_rfl) (ptsOk_of (by kernel_rfl)) ?_ ?_ ?_ ?_
  · intro r H x h
    unfold impl_ReadEpoch.a at h
    simp only at h
    split at h
    · cases h; rfl
    · cases h
  · intro q avs H; rfl
  · intro k q pt avs H x _ h; cases h
  · intro k avs H o h
    try dsimp only at h
    split at h
    · cases h; exact impl_ReadEpoch.eq _ _
    · cases h

def impl_EpochOf.a : FnA (Int) := ⟨20, [.tmp 4], .val, [], [], fun x H => match x, H with
  | .v (.int .i64 r), [] => some r
  | _, _ => none⟩
def impl_EpochOf.s : Spec := mkS [.agg [.val, .val, .val, .con .str], .val] (fun k avs H => match avs, H with
  | [.agg [.v (.int .i64 a0_0), .v (.int .i64 a0_1), .v (.int .i64 a0_2), .con .str a0_3], .v (.string a1)], [] => some (impl_EpochOf.f k a0_0 a0_1 a0_2 a0_3 a1)
  | _, _ => none) (fun r => (.v (.int .i64 r), []))
def impl_EpochOf.E : Env := [((75, []), impl_isImage.s), ((69, []), impl_lineOf.s), ((76, []), impl_ReadEpoch.s)]
def impl_EpochOf.G (k p : Nat) (avs : List AV) (H : List HE) : Option (Int) := none
set_option maxRecDepth 100000 in
theorem impl_EpochOf.eq (k : Nat) (a0_0 : Int) (a0_1 : Int) (a0_2 : Int) (a0_3 : List ByteArray) (a1 : ByteArray) : fromTop Tryz.prog impl_EpochOf.E k impl_EpochOf.a (impl_EpochOf.G k) 1000 (bodyOf Tryz.prog 22) [.agg [.v (.int .i64 a0_0), .v (.int .i64 a0_1), .v (.int .i64 a0_2), .con .str a0_3], .v (.string a1)] [] = impl_EpochOf.f k a0_0 a0_1 a0_2 a0_3 a1 := by kernel_rfl
theorem impl_EpochOf.E_ok : EnvOk Tryz.prog impl_EpochOf.E := ⟨⟨impl_isImage.sound, callable_of (by kernel_rfl)⟩, ⟨impl_lineOf.sound, callable_of (by kernel_rfl)⟩, ⟨impl_ReadEpoch.sound, callable_of (by kernel_rfl)⟩, trivial⟩
theorem impl_EpochOf.sound : Sound Tryz.prog 22 impl_EpochOf.s := by
  refine func_sound (f := impl_EpochOf.a) (G := impl_EpochOf.G) (fn := Tryz.f22) (body := bodyOf Tryz.prog 22) 1000 (by kernel_rfl) impl_EpochOf.E_ok Tryz.func22 (by kernel_rfl) (by kernel_rfl) (by kernel_rfl) (ptsOk_of (by kernel_rfl)) ?_ ?_ ?_ ?_
  · intro r H x h
    unfold impl_EpochOf.a at h
    simp only at h
    split at h
    · cases h; rfl
    · cases h
  · intro q avs H; rfl
  · intro k q pt avs H x _ h; cases h
  · intro k avs H o h
    try dsimp only at h
    split at h
    · cases h; exact impl_EpochOf.eq _ _ _ _ _ _
    · cases h

def impl_ReadShort.a : FnA (Int × Bool) := ⟨15, [.tmp 2, .tmp 3], .tup [.val, .bool], [], [], fun x H => match x, H with
  | .tup [.v (.int .i64 r_0), .bs false r_1], [] => some (r_0, r_1)
  | _, _ => none⟩
def impl_ReadShort.s : Spec := mkS [.val] (fun k avs H => match avs, H with
  | [.v (.string a0)], [] => some (impl_ReadShort.f a0)
  | _, _ => none) (fun r => (.tup [.v (.int .i64 r.1), .bs false r.2], []))
def impl_ReadShort.E : Env := []
def impl_ReadShort.G (k p : Nat) (avs : List AV) (H : List HE) : Option (Int × Bool) := none
set_option maxRecDepth 100000 in
theorem impl_ReadShort.eq (k : Nat) (a0 : ByteArray) : fromTop Tryz.prog impl_ReadShort.E k impl_ReadShort.a (impl_ReadShort.G k) 1000 (bodyOf Tryz.prog 126) [.v (.string a0)] [] = impl_ReadShort.f a0 := by kernel_rfl
theorem impl_ReadShort.E_ok : EnvOk Tryz.prog impl_ReadShort.E := trivial
theorem impl_ReadShort.sound : Sound Tryz.prog 126 impl_ReadShort.s := by
  refine func_sound (f := impl_ReadShort.a) (G := impl_ReadShort.G) (fn := Tryz.f126) (body := bodyOf Tryz.prog 126) 1000 (by kernel_rfl) impl_ReadShort.E_ok Tryz.func126 (by kernel_rfl) (by kernel_rfl) (by kernel_rfl) (ptsOk_of (by kernel_rfl)) ?_ ?_ ?_ ?_
  · intro r H x h
    unfold impl_ReadShort.a at h
    simp only at h
    split at h
    · cases h; rfl
    · cases h
  · intro q avs H; rfl
  · intro k q pt avs H x _ h; cases h
  · intro k avs H o h
    try dsimp only at h
    split at h
    · cases h; exact impl_ReadShort.eq _ _
    · cases h

def impl_ShortBytes.a : FnA (ByteArray) := ⟨13, [.tmp 2], .val, [], [], fun x H => match x, H with
  | .v (.string r), [] => some r
  | _, _ => none⟩
def impl_ShortBytes.s : Spec := mkS [.val] (fun k avs H => match avs, H with
  | [.v (.int .i64 a0)], [] => some (impl_ShortBytes.f a0)
  | _, _ => none) (fun r => (.v (.string r), []))
def impl_ShortBytes.E : Env := [((49, []), impl_within.s)]
def impl_ShortBytes.G (k p : Nat) (avs : List AV) (H : List HE) : Option (ByteArray) := none
set_option maxRecDepth 100000 in
theorem impl_ShortBytes.eq (k : Nat) (a0 : Int) : fromTop Tryz.prog impl_ShortBytes.E k impl_ShortBytes.a (impl_ShortBytes.G k) 1000 (bodyOf Tryz.prog 157) [.v (.int .i64 a0)] [] = impl_ShortBytes.f a0 := by kernel_rfl
theorem impl_ShortBytes.E_ok : EnvOk Tryz.prog impl_ShortBytes.E := ⟨⟨impl_within.sound, callable_of (by kernel_rfl)⟩, trivial⟩
theorem impl_ShortBytes.sound : Sound Tryz.prog 157 impl_ShortBytes.s := by
  refine func_sound (f := impl_ShortBytes.a) (G := impl_ShortBytes.G) (fn := Tryz.f157) (body := bodyOf Tryz.prog 157) 1000 (by kernel_rfl) impl_ShortBytes.E_ok Tryz.func157 (by kernel_rfl) (by kernel_rfl) (by kernel_rfl) (ptsOk_of (by kernel_rfl)) ?_ ?_ ?_ ?_
  · intro r H x h
    unfold impl_ShortBytes.a at h
    simp only at h
    split at h
    · cases h; rfl
    · cases h
  · intro q avs H; rfl
  · intro k q pt avs H x _ h; cases h
  · intro k avs H o h
    try dsimp only at h
    split at h
    · cases h; exact impl_ShortBytes.eq _ _
    · cases h

def impl_RecordLine.a : FnA (ByteArray) := ⟨43, [.tmp 2], .val, [], [⟨5, [1, 24], [.box [.val, .val, .val, .val], .bool], []⟩], fun x H => match x, H with
  | .v (.string r), [] => some r
  | _, _ => none⟩
def impl_RecordLine.s : Spec := mkS [.agg [.val, .val, .val, .val]] (fun k avs H => match avs, H with
  | [.agg [.v (.int .i64 a0_0), .v (.int .i64 a0_1), .v (.int .i64 a0_2), .v (.string a0_3)]], [] => some (impl_RecordLine.f k a0_0 a0_1 a0_2 a0_3)
  | _, _ => none) (fun r => (.v (.string r), []))
def impl_RecordLine.E : Env := [((49, []), impl_within.s), ((157, []), impl_ShortBytes.s), ((155, []), impl_WordBytes.s), ((154, []), impl_Sealed.s)]
def impl_RecordLine.G5 (k : Nat) (avs : List AV) (H : List HE) : Option (ByteArray) := match avs, H with
  | [.box 0 0, .bs false x24], [.box [.v (.int .i64 x1_0), .v (.int .i64 x1_1), .v (.int .i64 x1_2), .v (.string x1_3)]] => impl_RecordLine.p5 k x1_0 x1_1 x1_2 x1_3 x24
  | _, _ => none
def impl_RecordLine.G (k p : Nat) (avs : List AV) (H : List HE) : Option (ByteArray) := (pick1 5 (impl_RecordLine.G5 k avs H) none p)
set_option maxRecDepth 100000 in
theorem impl_RecordLine.eq (k : Nat) (a0_0 : Int) (a0_1 : Int) (a0_2 : Int) (a0_3 : ByteArray) : fromTop Tryz.prog impl_RecordLine.E k impl_RecordLine.a (impl_RecordLine.G k) 1000 (bodyOf Tryz.prog 127) [.agg [.v (.int .i64 a0_0), .v (.int .i64 a0_1), .v (.int .i64 a0_2), .v (.string a0_3)]] [] = impl_RecordLine.f k a0_0 a0_1 a0_2 a0_3 := by kernel_rfl
set_option maxRecDepth 100000 in
theorem impl_RecordLine.eq5 (k : Nat) (x1_0 : Int) (x1_1 : Int) (x1_2 : Int) (x1_3 : ByteArray) (x24 : Bool) : fromPt Tryz.prog impl_RecordLine.E k impl_RecordLine.a (impl_RecordLine.G k) 1000 (bodyOf Tryz.prog 127) 5 [.box 0 0, .bs false x24] [.box [.v (.int .i64 x1_0), .v (.int .i64 x1_1), .v (.int .i64 x1_2), .v (.string x1_3)]] = impl_RecordLine.p5 (k + 1) x1_0 x1_1 x1_2 x1_3 x24 := by kernel_rfl
theorem impl_RecordLine.G5_0 {avs : List AV} {H : List HE} : impl_RecordLine.G5 0 avs H = none := by unfold impl_RecordLine.G5; split <;> rfl
theorem impl_RecordLine.G5_s (k : Nat) {avs : List AV} {H : List HE} {x : ByteArray} (h : impl_RecordLine.G5 (k + 1) avs H = some x) : fromPt Tryz.prog impl_RecordLine.E k impl_RecordLine.a (impl_RecordLine.G k) 1000 (bodyOf Tryz.prog 127) 5 avs H = some x := by
  unfold impl_RecordLine.G5 at h
  split at h
  · rw [← h]; exact impl_RecordLine.eq5 _ _ _ _ _ _
  · cases h
theorem impl_RecordLine.E_ok : EnvOk Tryz.prog impl_RecordLine.E := ⟨⟨impl_within.sound, callable_of (by kernel_rfl)⟩, ⟨impl_ShortBytes.sound, callable_of (by kernel_rfl)⟩, ⟨impl_WordBytes.sound, callable_of (by kernel_rfl)⟩, ⟨impl_Sealed.sound, callable_of (by kernel_rfl)⟩, trivial⟩
theorem impl_RecordLine.sound : Sound Tryz.prog 127 impl_RecordLine.s := by
  refine func_sound (f := impl_RecordLine.a) (G := impl_RecordLine.G) (fn := Tryz.f127) (body := bodyOf Tryz.prog 127) 1000 (by kernel_rfl) impl_RecordLine.E_ok Tryz.func127 (by kernel_rfl) (by kernel_rfl) (by kernel_rfl) (ptsOk_of (by kernel_rfl)) ?_ ?_ ?_ ?_
  · intro r H x h
    unfold impl_RecordLine.a at h
    simp only at h
    split at h
    · cases h; rfl
    · cases h
  · exact fun q avs H => pick1_none impl_RecordLine.G5_0 (rfl)
  · intro k q pt avs H x _ h
    rcases pick1_some h with ⟨rfl, h⟩ | h
    · exact impl_RecordLine.G5_s _ h
    cases h
  · intro k avs H o h
    try dsimp only at h
    split at h
    · cases h; exact impl_RecordLine.eq _ _ _ _ _
    · cases h

def impl_ReadRecord.a : FnA (Int × Int × Int × ByteArray × Bool) := ⟨36, [.cell 2 51, .tmp 3], .tup [.agg [.val, .val, .val, .val], .bool], [], [], fun x H => match x, H with
  | .tup [.agg [.v (.int .i64 r_0_0), .v (.int .i64 r_0_1), .v (.int .i64 r_0_2), .v (.string r_0_3)], .bs false r_1], [] => some (r_0_0, r_0_1, r_0_2, r_0_3, r_1)
  | _, _ => none⟩
def impl_ReadRecord.s : Spec := mkS [.val] (fun k avs H => match avs, H with
  | [.v (.string a0)], [] => some (impl_ReadRecord.f k a0)
  | _, _ => none) (fun r => (.tup [.agg [.v (.int .i64 r.1), .v (.int .i64 r.2.1), .v (.int .i64 r.2.2.1), .v (.string r.2.2.2.1)], .bs false r.2.2.2.2], []))
def impl_ReadRecord.E : Env := [((124, []), impl_Unsealed.s), ((125, []), impl_wordAt.s), ((126, []), impl_ReadShort.s), ((127, []), impl_RecordLine.s)]
def impl_ReadRecord.G (k p : Nat) (avs : List AV) (H : List HE) : Option (Int × Int × Int × ByteArray × Bool) := none
set_option maxRecDepth 100000 in
theorem impl_ReadRecord.eq (k : Nat) (a0 : ByteArray) : fromTop Tryz.prog impl_ReadRecord.E k impl_ReadRecord.a (impl_ReadRecord.G k) 1000 (bodyOf Tryz.prog 68) [.v (.string a0)] [] = impl_ReadRecord.f k a0 := by kernel_rfl
theorem impl_ReadRecord.E_ok : EnvOk Tryz.prog impl_ReadRecord.E := ⟨⟨impl_Unsealed.sound, callable_of (by kernel_rfl)⟩, ⟨impl_wordAt.sound, callable_of (by kernel_rfl)⟩, ⟨impl_ReadShort.sound, callable_of (by kernel_rfl)⟩, ⟨impl_RecordLine.sound, callable_of (by kernel_rfl)⟩, trivial⟩
theorem impl_ReadRecord.sound : Sound Tryz.prog 68 impl_ReadRecord.s := by
  refine func_sound (f := impl_ReadRecord.a) (G := impl_ReadRecord.G) (fn := Tryz.f68) (body := bodyOf Tryz.prog 68) 1000 (by kernel_rfl) impl_ReadRecord.E_ok Tryz.func68 (by kernel_rfl) (by kernel_rfl) (by kernel_rfl) (ptsOk_of (by kernel_rfl)) ?_ ?_ ?_ ?_
  · intro r H x h
    unfold impl_ReadRecord.a at h
    simp only at h
    split at h
    · cases h; rfl
    · cases h
  · intro q avs H; rfl
  · intro k q pt avs H x _ h; cases h
  · intro k avs H o h
    try dsimp only at h
    split at h
    · cases h; exact impl_ReadRecord.eq _ _
    · cases h

def impl_LogOf_1.a : FnA (Bool) := ⟨9, [.tmp 3], .bool, [], [], fun x H => match x, H with
  | .bs false r, [] => some r
  | _, _ => none⟩
def impl_LogOf_1.s : Spec := mkS [.agg [.val, .val, .val, .val], .elt (.pair (.int .i64) (.pair (.int .i64) (.pair (.int .i64) .str)))] (fun k avs H => match avs, H with
  | [.agg [.v (.int .i64 a0_0), .v (.int .i64 a0_1), .v (.int .i64 a0_2), .v (.string a0_3)], .elt (.pair (.int .i64) (.pair (.int .i64) (.pair (.int .i64) .str))) a1 0], [] => some (impl_LogOf_1.f a0_0 a0_1 a0_2 a0_3 a1)
  | _, _ => none) (fun r => (.bs false r, []))
def impl_LogOf_1.E : Env := []
def impl_LogOf_1.G (k p : Nat) (avs : List AV) (H : List HE) : Option (Bool) := none
set_option maxRecDepth 100000 in
theorem impl_LogOf_1.eq (k : Nat) (a0_0 : Int) (a0_1 : Int) (a0_2 : Int) (a0_3 : ByteArray) (a1 : Int × Int × Int × ByteArray) : fromTop Tryz.prog impl_LogOf_1.E k impl_LogOf_1.a (impl_LogOf_1.G k) 1000 (bodyOf Tryz.prog 71) [.agg [.v (.int .i64 a0_0), .v (.int .i64 a0_1), .v (.int .i64 a0_2), .v (.string a0_3)], .elt (.pair (.int .i64) (.pair (.int .i64) (.pair (.int .i64) .str))) a1 0] [] = impl_LogOf_1.f a0_0 a0_1 a0_2 a0_3 a1 := by kernel_rfl
theorem impl_LogOf_1.E_ok : EnvOk Tryz.prog impl_LogOf_1.E := trivial
theorem impl_LogOf_1.sound : Sound Tryz.prog 71 impl_LogOf_1.s := by
  refine func_sound (f := impl_LogOf_1.a) (G := impl_LogOf_1.G) (fn := Tryz.f71) (body := bodyOf Tryz.prog 71) 1000 (by kernel_rfl) impl_LogOf_1.E_ok Tryz.func71 (by kernel_rfl) (by kernel_rfl) (by kernel_rfl) (ptsOk_of (by kernel_rfl)) ?_ ?_ ?_ ?_
  · intro r H x h
    unfold impl_LogOf_1.a at h
    simp only at h
    split at h
    · cases h; rfl
    · cases h
  · intro q avs H; rfl
  · intro k q pt avs H x _ h; cases h
  · intro k avs H o h
    try dsimp only at h
    split at h
    · cases h; exact impl_LogOf_1.eq _ _ _ _ _ _
    · cases h

def slices_IndexFunc_implRecord_at_impl_LogOf_1.a : FnA (Int) := ⟨19, [.tmp 4], .val, [], [⟨6, [0, 1, 7, 8], [.con (.pair (.int .i64) (.pair (.int .i64) (.pair (.int .i64) .str))), .fn 71 0 [.elt (.pair (.int .i64) (.pair (.int .i64) (.pair (.int .i64) .str)))], .val, .val], []⟩], fun x H => match x, H with
  | .v (.int .i64 r), [] => some r
  | _, _ => none⟩
def slices_IndexFunc_implRecord_at_impl_LogOf_1.s : Spec := mkS [.con (.pair (.int .i64) (.pair (.int .i64) (.pair (.int .i64) .str))), .fn 71 0 [.elt (.pair (.int .i64) (.pair (.int .i64) (.pair (.int .i64) .str)))]] (fun k avs H => match avs, H with
  | [.con (.pair (.int .i64) (.pair (.int .i64) (.pair (.int .i64) .str))) a0, .fn 71 0 [.elt (.pair (.int .i64) (.pair (.int .i64) (.pair (.int .i64) .str))) a1_0 0]], [] => some (slices_IndexFunc_implRecord_at_impl_LogOf_1.f k a0 a1_0)
  | _, _ => none) (fun r => (.v (.int .i64 r), []))
def slices_IndexFunc_implRecord_at_impl_LogOf_1.E : Env := [((71, []), impl_LogOf_1.s)]
def slices_IndexFunc_implRecord_at_impl_LogOf_1.G6 (k : Nat) (avs : List AV) (H : List HE) : Option (Int) := match avs, H with
  | [.con (.pair (.int .i64) (.pair (.int .i64) (.pair (.int .i64) .str))) x0, .fn 71 0 [.elt (.pair (.int .i64) (.pair (.int .i64) (.pair (.int .i64) .str))) x1_0 0], .v (.int .i64 x7), .v (.int .i64 x8)], [] => slices_IndexFunc_implRecord_at_impl_LogOf_1.p6 k x0 x1_0 x7 x8
  | _, _ => none
def slices_IndexFunc_implRecord_at_impl_LogOf_1.G (k p : Nat) (avs : List AV) (H : List HE) : Option (Int) := (pick1 6 (slices_IndexFunc_implRecord_at_impl_LogOf_1.G6 k avs H) none p)
set_option maxRecDepth 100000 in
theorem slices_IndexFunc_implRecord_at_impl_LogOf_1.eq (k : Nat) (a0 : List (Int × Int × Int × ByteArray)) (a1_0 : Int × Int × Int × ByteArray) : fromTop Tryz.prog slices_IndexFunc_implRecord_at_impl_LogOf_1.E k slices_IndexFunc_implRecord_at_impl_LogOf_1.a (slices_IndexFunc_implRecord_at_impl_LogOf_1.G k) 1000 (bodyOf Tryz.prog 128) [.con (.pair (.int .i64) (.pair (.int .i64) (.pair (.int .i64) .str))) a0, .fn 71 0 [.elt (.pair (.int .i64) (.pair (.int .i64) (.pair (.int .i64) .str))) a1_0 0]] [] = slices_IndexFunc_implRecord_at_impl_LogOf_1.f k a0 a1_0 := by kernel_rfl
set_option maxRecDepth 100000 in
theorem slices_IndexFunc_implRecord_at_impl_LogOf_1.eq6 (k : Nat) (x0 : List (Int × Int × Int × ByteArray)) (x1_0 : Int × Int × Int × ByteArray) (x7 : Int) (x8 : Int) : fromPt Tryz.prog slices_IndexFunc_implRecord_at_impl_LogOf_1.E k slices_IndexFunc_implRecord_at_impl_LogOf_1.a (slices_IndexFunc_implRecord_at_impl_LogOf_1.G k) 1000 (bodyOf Tryz.prog 128) 6 [.con (.pair (.int .i64) (.pair (.int .i64) (.pair (.int .i64) .str))) x0, .fn 71 0 [.elt (.pair (.int .i64) (.pair (.int .i64) (.pair (.int .i64) .str))) x1_0 0], .v (.int .i64 x7), .v (.int .i64 x8)] [] = slices_IndexFunc_implRecord_at_impl_LogOf_1.p6 (k + 1) x0 x1_0 x7 x8 := by kernel_rfl
theorem slices_IndexFunc_implRecord_at_impl_LogOf_1.G6_0 {avs : List AV} {H : List HE} : slices_IndexFunc_implRecord_at_impl_LogOf_1.G6 0 avs H = none := by unfold slices_IndexFunc_implRecord_at_impl_LogOf_1.G6; split <;> rfl
theorem slices_IndexFunc_implRecord_at_impl_LogOf_1.G6_s (k : Nat) {avs : List AV} {H : List HE} {x : Int} (h : slices_IndexFunc_implRecord_at_impl_LogOf_1.G6 (k + 1) avs H = some x) : fromPt Tryz.prog slices_IndexFunc_implRecord_at_impl_LogOf_1.E k slices_IndexFunc_implRecord_at_impl_LogOf_1.a (slices_IndexFunc_implRecord_at_impl_LogOf_1.G k) 1000 (bodyOf Tryz.prog 128) 6 avs H = some x := by
  unfold slices_IndexFunc_implRecord_at_impl_LogOf_1.G6 at h
  split at h
  · rw [← h]; exact slices_IndexFunc_implRecord_at_impl_LogOf_1.eq6 _ _ _ _ _
  · cases h
theorem slices_IndexFunc_implRecord_at_impl_LogOf_1.E_ok : EnvOk Tryz.prog slices_IndexFunc_implRecord_at_impl_LogOf_1.E := ⟨⟨impl_LogOf_1.sound, callable_of (by kernel_rfl)⟩, trivial⟩
theorem slices_IndexFunc_implRecord_at_impl_LogOf_1.sound : Sound Tryz.prog 128 slices_IndexFunc_implRecord_at_impl_LogOf_1.s := by
  refine func_sound (f := slices_IndexFunc_implRecord_at_impl_LogOf_1.a) (G := slices_IndexFunc_implRecord_at_impl_LogOf_1.G) (fn := Tryz.f128) (body := bodyOf Tryz.prog 128) 1000 (by kernel_rfl) slices_IndexFunc_implRecord_at_impl_LogOf_1.E_ok Tryz.func128 (by kernel_rfl) (by kernel_rfl) (by kernel_rfl) (ptsOk_of (by kernel_rfl)) ?_ ?_ ?_ ?_
  · intro r H x h
    unfold slices_IndexFunc_implRecord_at_impl_LogOf_1.a at h
    simp only at h
    split at h
    · cases h; rfl
    · cases h
  · exact fun q avs H => pick1_none slices_IndexFunc_implRecord_at_impl_LogOf_1.G6_0 (rfl)
  · intro k q pt avs H x _ h
    rcases pick1_some h with ⟨rfl, h⟩ | h
    · exact slices_IndexFunc_implRecord_at_impl_LogOf_1.G6_s _ h
    cases h
  · intro k avs H o h
    try dsimp only at h
    split at h
    · cases h; exact slices_IndexFunc_implRecord_at_impl_LogOf_1.eq _ _ _
    · cases h

def slices_ContainsFunc_implRecord_at_impl_LogOf_1.a : FnA (Bool) := ⟨9, [.tmp 4], .bool, [], [], fun x H => match x, H with
  | .bs false r, [] => some r
  | _, _ => none⟩
def slices_ContainsFunc_implRecord_at_impl_LogOf_1.s : Spec := mkS [.con (.pair (.int .i64) (.pair (.int .i64) (.pair (.int .i64) .str))), .fn 71 0 [.elt (.pair (.int .i64) (.pair (.int .i64) (.pair (.int .i64) .str)))]] (fun k avs H => match avs, H with
  | [.con (.pair (.int .i64) (.pair (.int .i64) (.pair (.int .i64) .str))) a0, .fn 71 0 [.elt (.pair (.int .i64) (.pair (.int .i64) (.pair (.int .i64) .str))) a1_0 0]], [] => some (slices_ContainsFunc_implRecord_at_impl_LogOf_1.f k a0 a1_0)
  | _, _ => none) (fun r => (.bs false r, []))
def slices_ContainsFunc_implRecord_at_impl_LogOf_1.E : Env := [((128, [71]), slices_IndexFunc_implRecord_at_impl_LogOf_1.s)]
def slices_ContainsFunc_implRecord_at_impl_LogOf_1.G (k p : Nat) (avs : List AV) (H : List HE) : Option (Bool) := none
set_option maxRecDepth 100000 in
theorem slices_ContainsFunc_implRecord_at_impl_LogOf_1.eq (k : Nat) (a0 : List (Int × Int × Int × ByteArray)) (a1_0 : Int × Int × Int × ByteArray) : fromTop Tryz.prog slices_ContainsFunc_implRecord_at_impl_LogOf_1.E k slices_ContainsFunc_implRecord_at_impl_LogOf_1.a (slices_ContainsFunc_implRecord_at_impl_LogOf_1.G k) 1000 (bodyOf Tryz.prog 70) [.con (.pair (.int .i64) (.pair (.int .i64) (.pair (.int .i64) .str))) a0, .fn 71 0 [.elt (.pair (.int .i64) (.pair (.int .i64) (.pair (.int .i64) .str))) a1_0 0]] [] = slices_ContainsFunc_implRecord_at_impl_LogOf_1.f k a0 a1_0 := by kernel_rfl
theorem slices_ContainsFunc_implRecord_at_impl_LogOf_1.E_ok : EnvOk Tryz.prog slices_ContainsFunc_implRecord_at_impl_LogOf_1.E := ⟨⟨slices_IndexFunc_implRecord_at_impl_LogOf_1.sound, callable_of (by kernel_rfl)⟩, trivial⟩
theorem slices_ContainsFunc_implRecord_at_impl_LogOf_1.sound : Sound Tryz.prog 70 slices_ContainsFunc_implRecord_at_impl_LogOf_1.s := by
  refine func_sound (f := slices_ContainsFunc_implRecord_at_impl_LogOf_1.a) (G := slices_ContainsFunc_implRecord_at_impl_LogOf_1.G) (fn := Tryz.f70) (body := bodyOf Tryz.prog 70) 1000 (by kernel_rfl) slices_ContainsFunc_implRecord_at_impl_LogOf_1.E_ok Tryz.func70 (by kernel_rfl) (by kernel_rfl) (by kernel_rfl) (ptsOk_of (by kernel_rfl)) ?_ ?_ ?_ ?_
  · intro r H x h
    unfold slices_ContainsFunc_implRecord_at_impl_LogOf_1.a at h
    simp only at h
    split at h
    · cases h; rfl
    · cases h
  · intro q avs H; rfl
  · intro k q pt avs H x _ h; cases h
  · intro k avs H o h
    try dsimp only at h
    split at h
    · cases h; exact slices_ContainsFunc_implRecord_at_impl_LogOf_1.eq _ _ _
    · cases h

def impl_size_implRecord.a : FnA (Int) := ⟨5, [.tmp 2], .val, [], [], fun x H => match x, H with
  | .v (.int .i64 r), [] => some r
  | _, _ => none⟩
def impl_size_implRecord.s : Spec := mkS [.con (.pair (.int .i64) (.pair (.int .i64) (.pair (.int .i64) .str)))] (fun k avs H => match avs, H with
  | [.con (.pair (.int .i64) (.pair (.int .i64) (.pair (.int .i64) .str))) a0], [] => some (impl_size_implRecord.f a0)
  | _, _ => none) (fun r => (.v (.int .i64 r), []))
def impl_size_implRecord.E : Env := []
def impl_size_implRecord.G (k p : Nat) (avs : List AV) (H : List HE) : Option (Int) := none
set_option maxRecDepth 100000 in
theorem impl_size_implRecord.eq (k : Nat) (a0 : List (Int × Int × Int × ByteArray)) : fromTop Tryz.prog impl_size_implRecord.E k impl_size_implRecord.a (impl_size_implRecord.G k) 1000 (bodyOf Tryz.prog 72) [.con (.pair (.int .i64) (.pair (.int .i64) (.pair (.int .i64) .str))) a0] [] = impl_size_implRecord.f a0 := by kernel_rfl
theorem impl_size_implRecord.E_ok : EnvOk Tryz.prog impl_size_implRecord.E := trivial
theorem impl_size_implRecord.sound : Sound Tryz.prog 72 impl_size_implRecord.s := by
  refine func_sound (f := impl_size_implRecord.a) (G := impl_size_implRecord.G) (fn := Tryz.f72) (body := bodyOf Tryz.prog 72) 1000 (by kernel_rfl) impl_size_implRecord.E_ok Tryz.func72 (by kernel_rfl) (by kernel_rfl) (by kernel_rfl) (ptsOk_of (by kernel_rfl)) ?_ ?_ ?_ ?_
  · intro r H x h
    unfold impl_size_implRecord.a at h
    simp only at h
    split at h
    · cases h; rfl
    · cases h
  · intro q avs H; rfl
  · intro k q pt avs H x _ h; cases h
  · intro k avs H o h
    try dsimp only at h
    split at h
    · cases h; exact impl_size_implRecord.eq _ _
    · cases h

def impl_canLog.a : FnA (Bool) := ⟨19, [.tmp 4], .bool, [], [], fun x H => match x, H with
  | .bs false r, [] => some r
  | _, _ => none⟩
def impl_canLog.s : Spec := mkS [.agg [.val, .val, .val, .con .str], .val] (fun k avs H => match avs, H with
  | [.agg [.v (.int .i64 a0_0), .v (.int .i64 a0_1), .v (.int .i64 a0_2), .con .str a0_3], .v (.int .i64 a1)], [] => some (impl_canLog.f a0_0 a0_1 a0_2 a0_3 a1)
  | _, _ => none) (fun r => (.bs false r, []))
def impl_canLog.E : Env := [((49, []), impl_within.s)]
def impl_canLog.G (k p : Nat) (avs : List AV) (H : List HE) : Option (Bool) := none
set_option maxRecDepth 100000 in
theorem impl_canLog.eq (k : Nat) (a0_0 : Int) (a0_1 : Int) (a0_2 : Int) (a0_3 : List ByteArray) (a1 : Int) : fromTop Tryz.prog impl_canLog.E k impl_canLog.a (impl_canLog.G k) 1000 (bodyOf Tryz.prog 48) [.agg [.v (.int .i64 a0_0), .v (.int .i64 a0_1), .v (.int .i64 a0_2), .con .str a0_3], .v (.int .i64 a1)] [] = impl_canLog.f a0_0 a0_1 a0_2 a0_3 a1 := by kernel_rfl
theorem impl_canLog.E_ok : EnvOk Tryz.prog impl_canLog.E := ⟨⟨impl_within.sound, callable_of (by kernel_rfl)⟩, trivial⟩
theorem impl_canLog.sound : Sound Tryz.prog 48 impl_canLog.s := by
  refine func_sound (f := impl_canLog.a) (G := impl_canLog.G) (fn := Tryz.f48) (body := bodyOf Tryz.prog 48) 1000 (by kernel_rfl) impl_canLog.E_ok Tryz.func48 (by kernel_rfl) (by kernel_rfl) (by kernel_rfl) (ptsOk_of (by kernel_rfl)) ?_ ?_ ?_ ?_
  · intro r H x h
    unfold impl_canLog.a at h
    simp only at h
    split at h
    · cases h; rfl
    · cases h
  · intro q avs H; rfl
  · intro k q pt avs H x _ h; cases h
  · intro k avs H o h
    try dsimp only at h
    split at h
    · cases h; exact impl_canLog.eq _ _ _ _ _ _
    · cases h

def impl_LogOf.a : FnA (List (Int × Int × Int × ByteArray) × Bool) := ⟨74, [.tmp 4, .tmp 5], .tup [.row 51 (.pair (.int .i64) (.pair (.int .i64) (.pair (.int .i64) .str))), .bool], [], [⟨18, [1, 2, 6, 7, 19, 20], [.val, .box [.val, .val, .val, .con .str], .val, .row 51 (.pair (.int .i64) (.pair (.int .i64) (.pair (.int .i64) .str))), .val, .val], []⟩, ⟨34, [1, 2, 6, 7, 8, 9, 19, 20, 38], [.val, .box [.val, .val, .val, .con .str], .val, .row 51 (.pair (.int .i64) (.pair (.int .i64) (.pair (.int .i64) .str))), .val, .box [.val, .val, .val, .val], .val, .val, .bool], []⟩, ⟨42, [1, 2, 6, 7, 9, 19, 20, 67], [.val, .box [.val, .val, .val, .con .str], .val, .row 51 (.pair (.int .i64) (.pair (.int .i64) (.pair (.int .i64) .str))), .box [.val, .val, .val, .val], .val, .val, .bool], []⟩], fun x H => match x, H with
  | .tup [.own 0, .bs false r_1], [.row 51 (.pair (.int .i64) (.pair (.int .i64) (.pair (.int .i64) .str))) r_0] => some (r_0, r_1)
  | _, _ => none⟩
def impl_LogOf.s : Spec := mkS [.agg [.val, .val, .val, .con .str], .val] (fun k avs H => match avs, H with
  | [.agg [.v (.int .i64 a0_0), .v (.int .i64 a0_1), .v (.int .i64 a0_2), .con .str a0_3], .v (.string a1)], [] => some (impl_LogOf.f k a0_0 a0_1 a0_2 a0_3 a1)
  | _, _ => none) (fun r => (.tup [.own 0, .bs false r.2], [.row 51 (.pair (.int .i64) (.pair (.int .i64) (.pair (.int .i64) .str))) r.1]))
def impl_LogOf.E : Env := [((22, []), impl_EpochOf.s), ((69, []), impl_lineOf.s), ((68, []), impl_ReadRecord.s), ((70, [71]), slices_ContainsFunc_implRecord_at_impl_LogOf_1.s), ((72, []), impl_size_implRecord.s), ((48, []), impl_canLog.s)]
def impl_LogOf.G18 (k : Nat) (avs : List AV) (H : List HE) : Option (List (Int × Int × Int × ByteArray) × Bool) := match avs, H with
  | [.v (.string x1), .box 0 0, .v (.int .i64 x6), .own 1, .v (.int .i64 x19), .v (.int .i64 x20)], [.box [.v (.int .i64 x2_0), .v (.int .i64 x2_1), .v (.int .i64 x2_2), .con .str x2_3], .row 51 (.pair (.int .i64) (.pair (.int .i64) (.pair (.int .i64) .str))) x7] => impl_LogOf.p18 k x1 x2_0 x2_1 x2_2 x2_3 x6 x7 x19 x20
  | _, _ => none
def impl_LogOf.G34 (k : Nat) (avs : List AV) (H : List HE) : Option (List (Int × Int × Int × ByteArray) × Bool) := match avs, H with
  | [.v (.string x1), .box 0 0, .v (.int .i64 x6), .own 1, .v (.int .i64 x8), .box 2 0, .v (.int .i64 x19), .v (.int .i64 x20), .bs false x38], [.box [.v (.int .i64 x2_0), .v (.int .i64 x2_1), .v (.int .i64 x2_2), .con .str x2_3], .row 51 (.pair (.int .i64) (.pair (.int .i64) (.pair (.int .i64) .str))) x7, .box [.v (.int .i64 x9_0), .v (.int .i64 x9_1), .v (.int .i64 x9_2), .v (.string x9_3)]] => impl_LogOf.p34 k x1 x2_0 x2_1 x2_2 x2_3 x6 x7 x8 x9_0 x9_1 x9_2 x9_3 x19 x20 x38
  | _, _ => none
def impl_LogOf.G42 (k : Nat) (avs : List AV) (H : List HE) : Option (List (Int × Int × Int × ByteArray) × Bool) := match avs, H with
  | [.v (.string x1), .box 0 0, .v (.int .i64 x6), .own 1, .box 2 0, .v (.int .i64 x19), .v (.int .i64 x20), .bs false x67], [.box [.v (.int .i64 x2_0), .v (.int .i64 x2_1), .v (.int .i64 x2_2), .con .str x2_3], .row 51 (.pair (.int .i64) (.pair (.int .i64) (.pair (.int .i64) .str))) x7, .box [.v (.int .i64 x9_0), .v (.int .i64 x9_1), .v (.int .i64 x9_2), .v (.string x9_3)]] => impl_LogOf.p42 k x1 x2_0 x2_1 x2_2 x2_3 x6 x7 x9_0 x9_1 x9_2 x9_3 x19 x20 x67
  | _, _ => none
def impl_LogOf.G (k p : Nat) (avs : List AV) (H : List HE) : Option (List (Int × Int × Int × ByteArray) × Bool) := (pick1 18 (impl_LogOf.G18 k avs H) (pick1 34 (impl_LogOf.G34 k avs H) (pick1 42 (impl_LogOf.G42 k avs H) none p) p) p)
set_option maxRecDepth 100000 in
theorem impl_LogOf.eq (k : Nat) (a0_0 : Int) (a0_1 : Int) (a0_2 : Int) (a0_3 : List ByteArray) (a1 : ByteArray) : fromTop Tryz.prog impl_LogOf.E k impl_LogOf.a (impl_LogOf.G k) 1000 (bodyOf Tryz.prog 19) [.agg [.v (.int .i64 a0_0), .v (.int .i64 a0_1), .v (.int .i64 a0_2), .con .str a0_3], .v (.string a1)] [] = impl_LogOf.f k a0_0 a0_1 a0_2 a0_3 a1 := by kernel_rfl
set_option maxRecDepth 100000 in
theorem impl_LogOf.eq18 (k : Nat) (x1 : ByteArray) (x2_0 : Int) (x2_1 : Int) (x2_2 : Int) (x2_3 : List ByteArray) (x6 : Int) (x7 : List (Int × Int × Int × ByteArray)) (x19 : Int) (x20 : Int) : fromPt Tryz.prog impl_LogOf.E k impl_LogOf.a (impl_LogOf.G k) 1000 (bodyOf Tryz.prog 19) 18 [.v (.string x1), .box 0 0, .v (.int .i64 x6), .own 1, .v (.int .i64 x19), .v (.int .i64 x20)] [.box [.v (.int .i64 x2_0), .v (.int .i64 x2_1), .v (.int .i64 x2_2), .con .str x2_3], .row 51 (.pair (.int .i64) (.pair (.int .i64) (.pair (.int .i64) .str))) x7] = impl_LogOf.p18 (k + 1) x1 x2_0 x2_1 x2_2 x2_3 x6 x7 x19 x20 := by kernel_rfl
theorem impl_LogOf.G18_0 {avs : List AV} {H : List HE} : impl_LogOf.G18 0 avs H = none := by unfold impl_LogOf.G18; split <;> rfl
theorem impl_LogOf.G18_s (k : Nat) {avs : List AV} {H : List HE} {x : List (Int × Int × Int × ByteArray) × Bool} (h : impl_LogOf.G18 (k + 1) avs H = some x) : fromPt Tryz.prog impl_LogOf.E k impl_LogOf.a (impl_LogOf.G k) 1000 (bodyOf Tryz.prog 19) 18 avs H = some x := by
  unfold impl_LogOf.G18 at h
  split at h
  · rw [← h]; exact impl_LogOf.eq18 _ _ _ _ _ _ _ _ _ _
  · cases h
set_option maxRecDepth 100000 in
theorem impl_LogOf.eq34 (k : Nat) (x1 : ByteArray) (x2_0 : Int) (x2_1 : Int) (x2_2 : Int) (x2_3 : List ByteArray) (x6 : Int) (x7 : List (Int × Int × Int × ByteArray)) (x8 : Int) (x9_0 : Int) (x9_1 : Int) (x9_2 : Int) (x9_3 : ByteArray) (x19 : Int) (x20 : Int) (x38 : Bool) : fromPt Tryz.prog impl_LogOf.E k impl_LogOf.a (impl_LogOf.G k) 1000 (bodyOf Tryz.prog 19) 34 [.v (.string x1), .box 0 0, .v (.int .i64 x6), .own 1, .v (.int .i64 x8), .box 2 0, .v (.int .i64 x19), .v (.int .i64 x20), .bs false x38] [.box [.v (.int .i64 x2_0), .v (.int .i64 x2_1), .v (.int .i64 x2_2), .con .str x2_3], .row 51 (.pair (.int .i64) (.pair (.int .i64) (.pair (.int .i64) .str))) x7, .box [.v (.int .i64 x9_0), .v (.int .i64 x9_1), .v (.int .i64 x9_2), .v (.string x9_3)]] = impl_LogOf.p34 (k + 1) x1 x2_0 x2_1 x2_2 x2_3 x6 x7 x8 x9_0 x9_1 x9_2 x9_3 x19 x20 x38 := by kernel_rfl
theorem impl_LogOf.G34_0 {avs : List AV} {H : List HE} : impl_LogOf.G34 0 avs H = none := by unfold impl_LogOf.G34; split <;> rfl
theorem impl_LogOf.G34_s (k : Nat) {avs : List AV} {H : List HE} {x : List (Int × Int × Int × ByteArray) × Bool} (h : impl_LogOf.G34 (k + 1) avs H = some x) : fromPt Tryz.prog impl_LogOf.E k impl_LogOf.a (impl_LogOf.G k) 1000 (bodyOf Tryz.prog 19) 34 avs H = some x := by
  unfold impl_LogOf.G34 at h
  split at h
  · rw [← h]; exact impl_LogOf.eq34 _ _ _ _ _ _ _ _ _ _ _ _ _ _ _ _
  · cases h
set_option maxRecDepth 100000 in
theorem impl_LogOf.eq42 (k : Nat) (x1 : ByteArray) (x2_0 : Int) (x2_1 : Int) (x2_2 : Int) (x2_3 : List ByteArray) (x6 : Int) (x7 : List (Int × Int × Int × ByteArray)) (x9_0 : Int) (x9_1 : Int) (x9_2 : Int) (x9_3 : ByteArray) (x19 : Int) (x20 : Int) (x67 : Bool) : fromPt Tryz.prog impl_LogOf.E k impl_LogOf.a (impl_LogOf.G k) 1000 (bodyOf Tryz.prog 19) 42 [.v (.string x1), .box 0 0, .v (.int .i64 x6), .own 1, .box 2 0, .v (.int .i64 x19), .v (.int .i64 x20), .bs false x67] [.box [.v (.int .i64 x2_0), .v (.int .i64 x2_1), .v (.int .i64 x2_2), .con .str x2_3], .row 51 (.pair (.int .i64) (.pair (.int .i64) (.pair (.int .i64) .str))) x7, .box [.v (.int .i64 x9_0), .v (.int .i64 x9_1), .v (.int .i64 x9_2), .v (.string x9_3)]] = impl_LogOf.p42 (k + 1) x1 x2_0 x2_1 x2_2 x2_3 x6 x7 x9_0 x9_1 x9_2 x9_3 x19 x20 x67 := by kernel_rfl
theorem impl_LogOf.G42_0 {avs : List AV} {H : List HE} : impl_LogOf.G42 0 avs H = none := by unfold impl_LogOf.G42; split <;> rfl
theorem impl_LogOf.G42_s (k : Nat) {avs : List AV} {H : List HE} {x : List (Int × Int × Int × ByteArray) × Bool} (h : impl_LogOf.G42 (k + 1) avs H = some x) : fromPt Tryz.prog impl_LogOf.E k impl_LogOf.a (impl_LogOf.G k) 1000 (bodyOf Tryz.prog 19) 42 avs H = some x := by
  unfold impl_LogOf.G42 at h
  split at h
  · rw [← h]; exact impl_LogOf.eq42 _ _ _ _ _ _ _ _ _ _ _ _ _ _ _
  · cases h
theorem impl_LogOf.E_ok : EnvOk Tryz.prog impl_LogOf.E := ⟨⟨impl_EpochOf.sound, callable_of (by kernel_rfl)⟩, ⟨impl_lineOf.sound, callable_of (by kernel_rfl)⟩, ⟨impl_ReadRecord.sound, callable_of (by kernel_rfl)⟩, ⟨slices_ContainsFunc_implRecord_at_impl_LogOf_1.sound, callable_of (by kernel_rfl)⟩, ⟨impl_size_implRecord.sound, callable_of (by kernel_rfl)⟩, ⟨impl_canLog.sound, callable_of (by kernel_rfl)⟩, trivial⟩
theorem impl_LogOf.sound : Sound Tryz.prog 19 impl_LogOf.s := by
  refine func_sound (f := impl_LogOf.a) (G := impl_LogOf.G) (fn := Tryz.f19) (body := bodyOf Tryz.prog 19) 1000 (by kernel_rfl) impl_LogOf.E_ok Tryz.func19 (by kernel_rfl) (by kernel_rfl) (by kernel_rfl) (ptsOk_of (by kernel_rfl)) ?_ ?_ ?_ ?_
  · intro r H x h
    unfold impl_LogOf.a at h
    simp only at h
    split at h
    · cases h; rfl
    · cases h
  · exact fun q avs H => pick1_none impl_LogOf.G18_0 (pick1_none impl_LogOf.G34_0 (pick1_none impl_LogOf.G42_0 (rfl)))
  · intro k q pt avs H x _ h
    rcases pick1_some h with ⟨rfl, h⟩ | h
    · exact impl_LogOf.G18_s _ h
    rcases pick1_some h with ⟨rfl, h⟩ | h
    · exact impl_LogOf.G34_s _ h
    rcases pick1_some h with ⟨rfl, h⟩ | h
    · exact impl_LogOf.G42_s _ h
    cases h
  · intro k avs H o h
    try dsimp only at h
    split at h
    · cases h; exact impl_LogOf.eq _ _ _ _ _ _
    · cases h

def impl_loggedOn.a : FnA (List (Int × Int × Int × ByteArray) × Int × Bool) := ⟨31, [.tmp 4, .tmp 5, .tmp 6], .tup [.row 51 (.pair (.int .i64) (.pair (.int .i64) (.pair (.int .i64) .str))), .val, .bool], [], [⟨5, [2, 3, 17], [.box [.val, .val, .val, .con .str], .box [.val, .con (.pair (.int .i64) (.pair .str .str))], .bool], []⟩], fun x H => match x, H with
  | .tup [.own 0, .v (.int .i64 r_1), .bs false r_2], [.row 51 (.pair (.int .i64) (.pair (.int .i64) (.pair (.int .i64) .str))) r_0] => some (r_0, r_1, r_2)
  | _, _ => none⟩
def impl_loggedOn.s : Spec := mkS [.agg [.val, .val, .val, .con .str], .agg [.val, .con (.pair (.int .i64) (.pair .str .str))]] (fun k avs H => match avs, H with
  | [.agg [.v (.int .i64 a0_0), .v (.int .i64 a0_1), .v (.int .i64 a0_2), .con .str a0_3], .agg [.v (.string a1_0), .con (.pair (.int .i64) (.pair .str .str)) a1_1]], [] => some (impl_loggedOn.f k a0_0 a0_1 a0_2 a0_3 a1_0 a1_1)
  | _, _ => none) (fun r => (.tup [.own 0, .v (.int .i64 r.2.1), .bs false r.2.2], [.row 51 (.pair (.int .i64) (.pair (.int .i64) (.pair (.int .i64) .str))) r.1]))
def impl_loggedOn.E : Env := [((105, []), impl_ConfigOk.s), ((61, []), impl_DeviceOk.s), ((62, []), _impl_Device_seen.s), ((19, []), impl_LogOf.s), ((22, []), impl_EpochOf.s)]
def impl_loggedOn.G5 (k : Nat) (avs : List AV) (H : List HE) : Option (List (Int × Int × Int × ByteArray) × Int × Bool) := match avs, H with
  | [.box 0 0, .box 1 0, .bs false x17], [.box [.v (.int .i64 x2_0), .v (.int .i64 x2_1), .v (.int .i64 x2_2), .con .str x2_3], .box [.v (.string x3_0), .con (.pair (.int .i64) (.pair .str .str)) x3_1]] => impl_loggedOn.p5 k x2_0 x2_1 x2_2 x2_3 x3_0 x3_1 x17
  | _, _ => none
def impl_loggedOn.G (k p : Nat) (avs : List AV) (H : List HE) : Option (List (Int × Int × Int × ByteArray) × Int × Bool) := (pick1 5 (impl_loggedOn.G5 k avs H) none p)
set_option maxRecDepth 100000 in
theorem impl_loggedOn.eq (k : Nat) (a0_0 : Int) (a0_1 : Int) (a0_2 : Int) (a0_3 : List ByteArray) (a1_0 : ByteArray) (a1_1 : List (Int × ByteArray × ByteArray)) : fromTop Tryz.prog impl_loggedOn.E k impl_loggedOn.a (impl_loggedOn.G k) 1000 (bodyOf Tryz.prog 47) [.agg [.v (.int .i64 a0_0), .v (.int .i64 a0_1), .v (.int .i64 a0_2), .con .str a0_3], .agg [.v (.string a1_0), .con (.pair (.int .i64) (.pair .str .str)) a1_1]] [] = impl_loggedOn.f k a0_0 a0_1 a0_2 a0_3 a1_0 a1_1 := by kernel_rfl
set_option maxRecDepth 100000 in
theorem impl_loggedOn.eq5 (k : Nat) (x2_0 : Int) (x2_1 : Int) (x2_2 : Int) (x2_3 : List ByteArray) (x3_0 : ByteArray) (x3_1 : List (Int × ByteArray × ByteArray)) (x17 : Bool) : fromPt Tryz.prog impl_loggedOn.E k impl_loggedOn.a (impl_loggedOn.G k) 1000 (bodyOf Tryz.prog 47) 5 [.box 0 0, .box 1 0, .bs false x17] [.box [.v (.int .i64 x2_0), .v (.int .i64 x2_1), .v (.int .i64 x2_2), .con .str x2_3], .box [.v (.string x3_0), .con (.pair (.int .i64) (.pair .str .str)) x3_1]] = impl_loggedOn.p5 (k + 1) x2_0 x2_1 x2_2 x2_3 x3_0 x3_1 x17 := by kernel_rfl
theorem impl_loggedOn.G5_0 {avs : List AV} {H : List HE} : impl_loggedOn.G5 0 avs H = none := by unfold impl_loggedOn.G5; split <;> rfl
theorem impl_loggedOn.G5_s (k : Nat) {avs : List AV} {H : List HE} {x : List (Int × Int × Int × ByteArray) × Int × Bool} (h : impl_loggedOn.G5 (k + 1) avs H = some x) : fromPt Tryz.prog impl_loggedOn.E k impl_loggedOn.a (impl_loggedOn.G k) 1000 (bodyOf Tryz.prog 47) 5 avs H = some x := by
  unfold impl_loggedOn.G5 at h
  split at h
  · rw [← h]; exact impl_loggedOn.eq5 _ _ _ _ _ _ _ _
  · cases h
theorem impl_loggedOn.E_ok : EnvOk Tryz.prog impl_loggedOn.E := ⟨⟨impl_ConfigOk.sound, callable_of (by kernel_rfl)⟩, ⟨impl_DeviceOk.sound, callable_of (by kernel_rfl)⟩, ⟨_impl_Device_seen.sound, callable_of (by kernel_rfl)⟩, ⟨impl_LogOf.sound, callable_of (by kernel_rfl)⟩, ⟨impl_EpochOf.sound, callable_of (by kernel_rfl)⟩, trivial⟩
theorem impl_loggedOn.sound : Sound Tryz.prog 47 impl_loggedOn.s := by
  refine func_sound (f := impl_loggedOn.a) (G := impl_loggedOn.G) (fn := Tryz.f47) (body := bodyOf Tryz.prog 47) 1000 (by kernel_rfl) impl_loggedOn.E_ok Tryz.func47 (by kernel_rfl) (by kernel_rfl) (by kernel_rfl) (ptsOk_of (by kernel_rfl)) ?_ ?_ ?_ ?_
  · intro r H x h
    unfold impl_loggedOn.a at h
    simp only at h
    split at h
    · cases h; rfl
    · cases h
  · exact fun q avs H => pick1_none impl_loggedOn.G5_0 (rfl)
  · intro k q pt avs H x _ h
    rcases pick1_some h with ⟨rfl, h⟩ | h
    · exact impl_loggedOn.G5_s _ h
    cases h
  · intro k avs H o h
    try dsimp only at h
    split at h
    · cases h; exact impl_loggedOn.eq _ _ _ _ _ _ _
    · cases h

def slices_Clone_implLine.s : Spec := mkS [.con (.pair (.int .i64) (.pair .str .str))] (fun _ avs H => match avs, H with
  | [.con (.pair (.int .i64) (.pair .str .str)) a0], [] => some (slices_Clone_implLine.f a0)
  | _, _ => none) (fun r => (.own 0, [.row 89 (.pair (.int .i64) (.pair .str .str)) r]))
theorem slices_Clone_implLine.info : ∃ i0 z, Tryz.prog.info? 89 = some i0 ∧ i0.zero = some z ∧ i0.size = 3 ∧ z.cells.size = 3 ∧ 1 ≤ i0.bytes ∧ i0.bytes ≤ 128 := by
  have h := show (Tryz.prog.info? 89).map (fun i => (i.zero.map (fun z => z.cells.size), i.size, decide (1 ≤ i.bytes), decide (i.bytes ≤ 128))) = some (some 3, 3, true, true) by kernel_rfl
  rw [Option.map_eq_some_iff] at h
  obtain ⟨i0, h1, h2⟩ := h
  simp only [Prod.mk.injEq, decide_eq_true_eq] at h2
  obtain ⟨z, hz, hz2⟩ := Option.map_eq_some_iff.1 h2.1
  exact ⟨i0, z, h1, hz, h2.2.1, hz2, h2.2.2.1, h2.2.2.2⟩
set_option maxHeartbeats 1000000 in
theorem slices_Clone_implLine.isNil (n c : Nat) (w : World) : Calls Tryz.prog 116 #[.slice none n c] w fun e w' => e = .returned (.slice none 0 0) ∧ w' = w := by
  have mixed : Tryz.prog.follows .mixedOrders = true := by kernel_rfl
  have q22 : ∀ (w : World) (a : Option Addr) (n c n' c' : Nat), (binOp .eql 27 (.slice a n c) (.slice none n' c')).run Tryz.prog w = .ok (.bool a.isNone) w := fun w a n c n' c' => Lib.run_eql_slice_nil w _ _ a n c n' c' Tryz.underlying27
  go_enter Tryz.func116, Tryz.ntmps116
  go_wp2
  go_ret
  exact ⟨rfl, rfl⟩
set_option maxHeartbeats 2000000 in
set_option maxRecDepth 100000 in
theorem slices_Clone_implLine.filled (a : Addr) (n c : Nat) (xs : List Value) (w : World) (hn : n ≤ 1099511627776) (hl : xs.length = n * 3) (h1 : ∀ u ∈ xs, u.oneCell' = true) (hc : ∀ j u, xs[j]? = some u → w.cell? (a.add j) = some u) :
    Calls Tryz.prog 116 #[.slice (some a) n c] w fun en w' => ∃ v', en = .returned v' ∧ w'.ownsRow w.heap.size 89 3 v' n xs ∧ Below w.heap.size w w' := by
  obtain ⟨i0, z, hi, hz0, hz1, hz3, hb1, hb2⟩ := slices_Clone_implLine.info
  have mixed : Tryz.prog.follows .mixedOrders = true := by kernel_rfl
  have q22 : ∀ (w : World) (a : Option Addr) (n c n' c' : Nat), (binOp .eql 27 (.slice a n c) (.slice none n' c')).run Tryz.prog w = .ok (.bool a.isNone) w := fun w a n c n' c' => Lib.run_eql_slice_nil w _ _ a n c n' c' Tryz.underlying27
  have B : Aside0 (∀ j u, xs[j]? = some u → w.cell? (a.add j) = some u) := ⟨hc⟩
  clear hc
  go_enter Tryz.func116, Tryz.ntmps116
  go_wp2_with (at_builtin; refine wpList_append_own_at _ rfl _ _ 27 rfl w.heap.size 89 i0 z 3 i0.bytes Tryz.underlying27 hi hz0 hz1 rfl hz3 (by decide) _ 0 [] rfl (World.ownsRow_made w #[] 0 (Nat.le_refl _) (Nat.zero_le _) rfl) a n c xs rfl hl ?qc2 h1 ?qc4 ?qc5 ?qc6 ?_)
  case qc2 =>
    intro j u hj
    exact Lib.cell?_alloc_some _ (B.out j u hj)
  case qc4 => unfold maxLen; omega
  case qc5 =>
    rw [Nat.zero_add]
    exact Nat.le_trans (Nat.mul_le_mul hn hb2) (by decide)
  case qc6 => simp
  intro v' w1 hown hgrow hnil hat
  go_wp2
  go_ret
  refine ⟨v', rfl, by simpa using hown, ?_⟩
  exact ((Below.refl _ w).alloc (Nat.le_refl _) _).grown hgrow (by simp) (by intro k hk; simp [Value.ownBlock] at hk; omega)
theorem slices_Clone_implLine.sound : Sound Tryz.prog 116 slices_Clone_implLine.s := by
  refine sound_row (e := 89) (t := (.pair (.int .i64) (.pair .str .str))) (emb := fun r => r) ?_
  intro k avs H o x h hx
  split at h
  case h_2 => cases h
  rename_i a0
  cases h
  refine ⟨rfl, fun M w ρ hp vals hr => ?_⟩
  obtain ⟨v0, q0, rfl, ⟨A0, c, rfl, hle, hrow⟩, rfl⟩ := hr
  unfold slices_Clone_implLine.f at hx
  split at hx
  case isFalse => cases hx
  rename_i h0
  obtain rfl := Option.some.inj hx
  exact clone_calls (e := 89) (t := (.pair (.int .i64) (.pair .str .str))) a0 A0 c hrow 1099511627776 h0 (fun n c w => slices_Clone_implLine.isNil n c w) (fun a n c xs w hn hl h1 hc => slices_Clone_implLine.filled a n c xs w hn hl h1 hc)

def _impl_Device_own.a : FnA (ByteArray × List (Int × ByteArray × ByteArray)) := ⟨9, [.cell 2 29], .agg [.val, .row 89 (.pair (.int .i64) (.pair .str .str))], [], [], fun x H => match x, H with
  | .agg [.v (.string r_0), .own 0], [.row 89 (.pair (.int .i64) (.pair .str .str)) r_1] => some (r_0, r_1)
  | _, _ => none⟩
def _impl_Device_own.s : Spec := mkS [.agg [.val, .con (.pair (.int .i64) (.pair .str .str))]] (fun k avs H => match avs, H with
  | [.agg [.v (.string a0_0), .con (.pair (.int .i64) (.pair .str .str)) a0_1]], [] => some (_impl_Device_own.f a0_0 a0_1)
  | _, _ => none) (fun r => (.agg [.v (.string r.1), .own 0], [.row 89 (.pair (.int .i64) (.pair .str .str)) r.2]))
def _impl_Device_own.E : Env := [((116, []), slices_Clone_implLine.s)]
def _impl_Device_own.G (k p : Nat) (avs : List AV) (H : List HE) : Option (ByteArray × List (Int × ByteArray × ByteArray)) := none
set_option maxRecDepth 100000 in
theorem _impl_Device_own.eq (k : Nat) (a0_0 : ByteArray) (a0_1 : List (Int × ByteArray × ByteArray)) : fromTop Tryz.prog _impl_Device_own.E k _impl_Device_own.a (_impl_Device_own.G k) 1000 (bodyOf Tryz.prog 106) [.agg [.v (.string a0_0), .con (.pair (.int .i64) (.pair .str .str)) a0_1]] [] = _impl_Device_own.f a0_0 a0_1 := by kernel_rfl
theorem _impl_Device_own.E_ok : EnvOk Tryz.prog _impl_Device_own.E := ⟨⟨slices_Clone_implLine.sound, callable_of (by kernel_rfl)⟩, trivial⟩
theorem _impl_Device_own.sound : Sound Tryz.prog 106 _impl_Device_own.s := by
  refine func_sound (f := _impl_Device_own.a) (G := _impl_Device_own.G) (fn := Tryz.f106) (body := bodyOf Tryz.prog 106) 1000 (by kernel_rfl) _impl_Device_own.E_ok Tryz.func106 (by kernel_rfl) (by kernel_rfl) (by kernel_rfl) (ptsOk_of (by kernel_rfl)) ?_ ?_ ?_ ?_
  · intro r H x h
    unfold _impl_Device_own.a at h
    simp only at h
    split at h
    · cases h; rfl
    · cases h
  · intro q avs H; rfl
  · intro k q pt avs H x _ h; cases h
  · intro k avs H o h
    try dsimp only at h
    split at h
    · cases h; exact _impl_Device_own.eq _ _ _
    · cases h

def impl_newMachine.a : FnA (ByteArray × List (Int × ByteArray × ByteArray) × Int × Int) := ⟨11, [.tmp 4], .box [.val, .row 89 (.pair (.int .i64) (.pair .str .str)), .val, .val], [], [], fun x H => match x, H with
  | .box 0 0, [.box [.v (.string r_0), .own 1, .v (.int .i64 r_2), .v (.int .i64 r_3)], .row 89 (.pair (.int .i64) (.pair .str .str)) r_1] => some (r_0, r_1, r_2, r_3)
  | _, _ => none⟩
def impl_newMachine.s : Spec := mkS [.agg [.val, .con (.pair (.int .i64) (.pair .str .str))], .val] (fun k avs H => match avs, H with
  | [.agg [.v (.string a0_0), .con (.pair (.int .i64) (.pair .str .str)) a0_1], .v (.int .i64 a1)], [] => some (impl_newMachine.f a0_0 a0_1 a1)
  | _, _ => none) (fun r => (.box 0 0, [.box [.v (.string r.1), .own 1, .v (.int .i64 r.2.2.1), .v (.int .i64 r.2.2.2)], .row 89 (.pair (.int .i64) (.pair .str .str)) r.2.1]))
def impl_newMachine.E : Env := [((106, []), _impl_Device_own.s)]
def impl_newMachine.G (k p : Nat) (avs : List AV) (H : List HE) : Option (ByteArray × List (Int × ByteArray × ByteArray) × Int × Int) := none
set_option maxRecDepth 100000 in
theorem impl_newMachine.eq (k : Nat) (a0_0 : ByteArray) (a0_1 : List (Int × ByteArray × ByteArray)) (a1 : Int) : fromTop Tryz.prog impl_newMachine.E k impl_newMachine.a (impl_newMachine.G k) 1000 (bodyOf Tryz.prog 50) [.agg [.v (.string a0_0), .con (.pair (.int .i64) (.pair .str .str)) a0_1], .v (.int .i64 a1)] [] = impl_newMachine.f a0_0 a0_1 a1 := by kernel_rfl
theorem impl_newMachine.E_ok : EnvOk Tryz.prog impl_newMachine.E := ⟨⟨_impl_Device_own.sound, callable_of (by kernel_rfl)⟩, trivial⟩
theorem impl_newMachine.sound : Sound Tryz.prog 50 impl_newMachine.s := by
  refine func_sound (f := impl_newMachine.a) (G := impl_newMachine.G) (fn := Tryz.f50) (body := bodyOf Tryz.prog 50) 1000 (by kernel_rfl) impl_newMachine.E_ok Tryz.func50 (by kernel_rfl) (by kernel_rfl) (by kernel_rfl) (ptsOk_of (by kernel_rfl)) ?_ ?_ ?_ ?_
  · intro r H x h
    unfold impl_newMachine.a at h
    simp only at h
    split at h
    · cases h; rfl
    · cases h
  · intro q avs H; rfl
  · intro k q pt avs H x _ h; cases h
  · intro k avs H o h
    try dsimp only at h
    split at h
    · cases h; exact impl_newMachine.eq _ _ _ _
    · cases h

def impl_machine_note_1.a : FnA (Bool) := ⟨8, [.tmp 3], .bool, [], [], fun x H => match x, H with
  | .bs false r, [] => some r
  | _, _ => none⟩
def impl_machine_note_1.s : Spec := mkS [.agg [.val, .val, .val, .val], .elt (.int .i64)] (fun k avs H => match avs, H with
  | [.agg [.v (.int .i64 a0_0), .v (.int .i64 a0_1), .v (.int .i64 a0_2), .v (.string a0_3)], .elt (.int .i64) a1 0], [] => some (impl_machine_note_1.f a0_0 a0_1 a0_2 a0_3 a1)
  | _, _ => none) (fun r => (.bs false r, []))
def impl_machine_note_1.E : Env := []
def impl_machine_note_1.G (k p : Nat) (avs : List AV) (H : List HE) : Option (Bool) := none
set_option maxRecDepth 100000 in
theorem impl_machine_note_1.eq (k : Nat) (a0_0 : Int) (a0_1 : Int) (a0_2 : Int) (a0_3 : ByteArray) (a1 : Int) : fromTop Tryz.prog impl_machine_note_1.E k impl_machine_note_1.a (impl_machine_note_1.G k) 1000 (bodyOf Tryz.prog 130) [.agg [.v (.int .i64 a0_0), .v (.int .i64 a0_1), .v (.int .i64 a0_2), .v (.string a0_3)], .elt (.int .i64) a1 0] [] = impl_machine_note_1.f a0_0 a0_1 a0_2 a0_3 a1 := by kernel_rfl
theorem impl_machine_note_1.E_ok : EnvOk Tryz.prog impl_machine_note_1.E := trivial
theorem impl_machine_note_1.sound : Sound Tryz.prog 130 impl_machine_note_1.s := by
  refine func_sound (f := impl_machine_note_1.a) (G := impl_machine_note_1.G) (fn := Tryz.f130) (body := bodyOf Tryz.prog 130) 1000 (by kernel_rfl) impl_machine_note_1.E_ok Tryz.func130 (by kernel_rfl) (by kernel_rfl) (by kernel_rfl) (ptsOk_of (by kernel_rfl)) ?_ ?_ ?_ ?_
  · intro r H x h
    unfold impl_machine_note_1.a at h
    simp only at h
    split at h
    · cases h; rfl
    · cases h
  · intro q avs H; rfl
  · intro k q pt avs H x _ h; cases h
  · intro k avs H o h
    try dsimp only at h
    split at h
    · cases h; exact impl_machine_note_1.eq _ _ _ _ _ _
    · cases h

def slices_IndexFunc_implRecord_at_impl_machine_note_1.a : FnA (Int) := ⟨19, [.tmp 4], .val, [], [⟨6, [0, 1, 7, 8], [.con (.pair (.int .i64) (.pair (.int .i64) (.pair (.int .i64) .str))), .fn 130 0 [.elt (.int .i64)], .val, .val], []⟩], fun x H => match x, H with
  | .v (.int .i64 r), [] => some r
  | _, _ => none⟩
def slices_IndexFunc_implRecord_at_impl_machine_note_1.s : Spec := mkS [.con (.pair (.int .i64) (.pair (.int .i64) (.pair (.int .i64) .str))), .fn 130 0 [.elt (.int .i64)]] (fun k avs H => match avs, H with
  | [.con (.pair (.int .i64) (.pair (.int .i64) (.pair (.int .i64) .str))) a0, .fn 130 0 [.elt (.int .i64) a1_0 0]], [] => some (slices_IndexFunc_implRecord_at_impl_machine_note_1.f k a0 a1_0)
  | _, _ => none) (fun r => (.v (.int .i64 r), []))
def slices_IndexFunc_implRecord_at_impl_machine_note_1.E : Env := [((130, []), impl_machine_note_1.s)]
def slices_IndexFunc_implRecord_at_impl_machine_note_1.G6 (k : Nat) (avs : List AV) (H : List HE) : Option (Int) := match avs, H with
  | [.con (.pair (.int .i64) (.pair (.int .i64) (.pair (.int .i64) .str))) x0, .fn 130 0 [.elt (.int .i64) x1_0 0], .v (.int .i64 x7), .v (.int .i64 x8)], [] => slices_IndexFunc_implRecord_at_impl_machine_note_1.p6 k x0 x1_0 x7 x8
  | _, _ => none
def slices_IndexFunc_implRecord_at_impl_machine_note_1.G (k p : Nat) (avs : List AV) (H : List HE) : Option (Int) := (pick1 6 (slices_IndexFunc_implRecord_at_impl_machine_note_1.G6 k avs H) none p)
set_option maxRecDepth 100000 in
theorem slices_IndexFunc_implRecord_at_impl_machine_note_1.eq (k : Nat) (a0 : List (Int × Int × Int × ByteArray)) (a1_0 : Int) : fromTop Tryz.prog slices_IndexFunc_implRecord_at_impl_machine_note_1.E k slices_IndexFunc_implRecord_at_impl_machine_note_1.a (slices_IndexFunc_implRecord_at_impl_machine_note_1.G k) 1000 (bodyOf Tryz.prog 128) [.con (.pair (.int .i64) (.pair (.int .i64) (.pair (.int .i64) .str))) a0, .fn 130 0 [.elt (.int .i64) a1_0 0]] [] = slices_IndexFunc_implRecord_at_impl_machine_note_1.f k a0 a1_0 := by kernel_rfl
set_option maxRecDepth 100000 in
theorem slices_IndexFunc_implRecord_at_impl_machine_note_1.eq6 (k : Nat) (x0 : List (Int × Int × Int × ByteArray)) (x1_0 : Int) (x7 : Int) (x8 : Int) : fromPt Tryz.prog slices_IndexFunc_implRecord_at_impl_machine_note_1.E k slices_IndexFunc_implRecord_at_impl_machine_note_1.a (slices_IndexFunc_implRecord_at_impl_machine_note_1.G k) 1000 (bodyOf Tryz.prog 128) 6 [.con (.pair (.int .i64) (.pair (.int .i64) (.pair (.int .i64) .str))) x0, .fn 130 0 [.elt (.int .i64) x1_0 0], .v (.int .i64 x7), .v (.int .i64 x8)] [] = slices_IndexFunc_implRecord_at_impl_machine_note_1.p6 (k + 1) x0 x1_0 x7 x8 := by kernel_rfl
theorem slices_IndexFunc_implRecord_at_impl_machine_note_1.G6_0 {avs : List AV} {H : List HE} : slices_IndexFunc_implRecord_at_impl_machine_note_1.G6 0 avs H = none := by unfold slices_IndexFunc_implRecord_at_impl_machine_note_1.G6; split <;> rfl
theorem slices_IndexFunc_implRecord_at_impl_machine_note_1.G6_s (k : Nat) {avs : List AV} {H : List HE} {x : Int} (h : slices_IndexFunc_implRecord_at_impl_machine_note_1.G6 (k + 1) avs H = some x) : fromPt Tryz.prog slices_IndexFunc_implRecord_at_impl_machine_note_1.E k slices_IndexFunc_implRecord_at_impl_machine_note_1.a (slices_IndexFunc_implRecord_at_impl_machine_note_1.G k) 1000 (bodyOf Tryz.prog 128) 6 avs H = some x := by
  unfold slices_IndexFunc_implRecord_at_impl_machine_note_1.G6 at h
  split at h
  · rw [← h]; exact slices_IndexFunc_implRecord_at_impl_machine_note_1.eq6 _ _ _ _ _
  · cases h
theorem slices_IndexFunc_implRecord_at_impl_machine_note_1.E_ok : EnvOk Tryz.prog slices_IndexFunc_implRecord_at_impl_machine_note_1.E := ⟨⟨impl_machine_note_1.sound, callable_of (by kernel_rfl)⟩, trivial⟩
theorem slices_IndexFunc_implRecord_at_impl_machine_note_1.sound : Sound Tryz.prog 128 slices_IndexFunc_implRecord_at_impl_machine_note_1.s := by
  refine func_sound (f := slices_IndexFunc_implRecord_at_impl_machine_note_1.a) (G := slices_IndexFunc_implRecord_at_impl_machine_note_1.G) (fn := Tryz.f128) (body := bodyOf Tryz.prog 128) 1000 (by kernel_rfl) slices_IndexFunc_implRecord_at_impl_machine_note_1.E_ok Tryz.func128 (by kernel_rfl) (by kernel_rfl) (by kernel_rfl) (ptsOk_of (by kernel_rfl)) ?_ ?_ ?_ ?_
  · intro r H x h
    unfold slices_IndexFunc_implRecord_at_impl_machine_note_1.a at h
    simp only at h
    split at h
    · cases h; rfl
    · cases h
  · exact fun q avs H => pick1_none slices_IndexFunc_implRecord_at_impl_machine_note_1.G6_0 (rfl)
  · intro k q pt avs H x _ h
    rcases pick1_some h with ⟨rfl, h⟩ | h
    · exact slices_IndexFunc_implRecord_at_impl_machine_note_1.G6_s _ h
    cases h
  · intro k avs H o h
    try dsimp only at h
    split at h
    · cases h; exact slices_IndexFunc_implRecord_at_impl_machine_note_1.eq _ _ _
    · cases h

def slices_ContainsFunc_implRecord_at_impl_machine_note_1.a : FnA (Bool) := ⟨9, [.tmp 4], .bool, [], [], fun x H => match x, H with
  | .bs false r, [] => some r
  | _, _ => none⟩
def slices_ContainsFunc_implRecord_at_impl_machine_note_1.s : Spec := mkS [.con (.pair (.int .i64) (.pair (.int .i64) (.pair (.int .i64) .str))), .fn 130 0 [.elt (.int .i64)]] (fun k avs H => match avs, H with
  | [.con (.pair (.int .i64) (.pair (.int .i64) (.pair (.int .i64) .str))) a0, .fn 130 0 [.elt (.int .i64) a1_0 0]], [] => some (slices_ContainsFunc_implRecord_at_impl_machine_note_1.f k a0 a1_0)
  | _, _ => none) (fun r => (.bs false r, []))
def slices_ContainsFunc_implRecord_at_impl_machine_note_1.E : Env := [((128, [130]), slices_IndexFunc_implRecord_at_impl_machine_note_1.s)]
def slices_ContainsFunc_implRecord_at_impl_machine_note_1.G (k p : Nat) (avs : List AV) (H : List HE) : Option (Bool) := none
set_option maxRecDepth 100000 in
theorem slices_ContainsFunc_implRecord_at_impl_machine_note_1.eq (k : Nat) (a0 : List (Int × Int × Int × ByteArray)) (a1_0 : Int) : fromTop Tryz.prog slices_ContainsFunc_implRecord_at_impl_machine_note_1.E k slices_ContainsFunc_implRecord_at_impl_machine_note_1.a (slices_ContainsFunc_implRecord_at_impl_machine_note_1.G k) 1000 (bodyOf Tryz.prog 70) [.con (.pair (.int .i64) (.pair (.int .i64) (.pair (.int .i64) .str))) a0, .fn 130 0 [.elt (.int .i64) a1_0 0]] [] = slices_ContainsFunc_implRecord_at_impl_machine_note_1.f k a0 a1_0 := by kernel_rfl
theorem slices_ContainsFunc_implRecord_at_impl_machine_note_1.E_ok : EnvOk Tryz.prog slices_ContainsFunc_implRecord_at_impl_machine_note_1.E := ⟨⟨slices_IndexFunc_implRecord_at_impl_machine_note_1.sound, callable_of (by kernel_rfl)⟩, trivial⟩
theorem slices_ContainsFunc_implRecord_at_impl_machine_note_1.sound : Sound Tryz.prog 70 slices_ContainsFunc_implRecord_at_impl_machine_note_1.s := by
  refine func_sound (f := slices_ContainsFunc_implRecord_at_impl_machine_note_1.a) (G := slices_ContainsFunc_implRecord_at_impl_machine_note_1.G) (fn := Tryz.f70) (body := bodyOf Tryz.prog 70) 1000 (by kernel_rfl) slices_ContainsFunc_implRecord_at_impl_machine_note_1.E_ok Tryz.func70 (by kernel_rfl) (by kernel_rfl) (by kernel_rfl) (ptsOk_of (by kernel_rfl)) ?_ ?_ ?_ ?_
  · intro r H x h
    unfold slices_ContainsFunc_implRecord_at_impl_machine_note_1.a at h
    simp only at h
    split at h
    · cases h; rfl
    · cases h
  · intro q avs H; rfl
  · intro k q pt avs H x _ h; cases h
  · intro k avs H o h
    try dsimp only at h
    split at h
    · cases h; exact slices_ContainsFunc_implRecord_at_impl_machine_note_1.eq _ _ _
    · cases h

def impl_machine_seen.a : FnA (ByteArray × List (Int × ByteArray × ByteArray) × Int × Int × ByteArray) := ⟨8, [.tmp 2], .val, [.box [.val, .row 89 (.pair (.int .i64) (.pair .str .str)), .val, .val], .drop], [], fun x H => match x, H with
  | .v (.string r), [.box [.v (.string h0_0), .own 2, .v (.int .i64 h0_2), .v (.int .i64 h0_3)], .gone, .row 89 (.pair (.int .i64) (.pair .str .str)) h0_1] => some (h0_0, h0_1, h0_2, h0_3, r)
  | _, _ => none⟩
def impl_machine_seen.s : Spec := mkS [.box [.val, .row 89 (.pair (.int .i64) (.pair .str .str)), .val, .val]] (fun k avs H => match avs, H with
  | [.box 0 0], [.box [.v (.string a0_0), .own 1, .v (.int .i64 a0_2), .v (.int .i64 a0_3)], .row 89 (.pair (.int .i64) (.pair .str .str)) a0_1] => some (impl_machine_seen.f k a0_0 a0_1 a0_2 a0_3)
  | _, _ => none) (fun r => (.v (.string r.2.2.2.2), [.box [.v (.string r.1), .own 2, .v (.int .i64 r.2.2.1), .v (.int .i64 r.2.2.2.1)], .gone, .row 89 (.pair (.int .i64) (.pair .str .str)) r.2.1]))
def impl_machine_seen.E : Env := [((62, []), _impl_Device_seen.s)]
def impl_machine_seen.G (k p : Nat) (avs : List AV) (H : List HE) : Option (ByteArray × List (Int × ByteArray × ByteArray) × Int × Int × ByteArray) := none
set_option maxRecDepth 100000 in
theorem impl_machine_seen.eq (k : Nat) (a0_0 : ByteArray) (a0_1 : List (Int × ByteArray × ByteArray)) (a0_2 : Int) (a0_3 : Int) : fromTop Tryz.prog impl_machine_seen.E k impl_machine_seen.a (impl_machine_seen.G k) 1000 (bodyOf Tryz.prog 131) [.box 0 0] [.box [.v (.string a0_0), .own 1, .v (.int .i64 a0_2), .v (.int .i64 a0_3)], .row 89 (.pair (.int .i64) (.pair .str .str)) a0_1] = impl_machine_seen.f k a0_0 a0_1 a0_2 a0_3 := by kernel_rfl
theorem impl_machine_seen.E_ok : EnvOk Tryz.prog impl_machine_seen.E := ⟨⟨_impl_Device_seen.sound, callable_of (by kernel_rfl)⟩, trivial⟩
theorem impl_machine_seen.sound : Sound Tryz.prog 131 impl_machine_seen.s := by
  refine func_sound (f := impl_machine_seen.a) (G := impl_machine_seen.G) (fn := Tryz.f131) (body := bodyOf Tryz.prog 131) 1000 (by kernel_rfl) impl_machine_seen.E_ok Tryz.func131 (by kernel_rfl) (by kernel_rfl) (by kernel_rfl) (ptsOk_of (by kernel_rfl)) ?_ ?_ ?_ ?_
  · intro r H x h
    unfold impl_machine_seen.a at h
    simp only at h
    split at h
    · cases h; rfl
    · cases h
  · intro q avs H; rfl
  · intro k q pt avs H x _ h; cases h
  · intro k avs H o h
    try dsimp only at h
    split at h
    · cases h; exact impl_machine_seen.eq _ _ _ _ _
    · cases h

def impl_Half.a : FnA (ByteArray) := ⟨21, [.tmp 4], .val, [], [], fun x H => match x, H with
  | .v (.string r), [] => some r
  | _, _ => none⟩
def impl_Half.s : Spec := mkS [.val, .val] (fun k avs H => match avs, H with
  | [.v (.string a0), .v (.int .i64 a1)], [] => some (impl_Half.f a0 a1)
  | _, _ => none) (fun r => (.v (.string r), []))
def impl_Half.E : Env := []
def impl_Half.G (k p : Nat) (avs : List AV) (H : List HE) : Option (ByteArray) := none
set_option maxRecDepth 100000 in
theorem impl_Half.eq (k : Nat) (a0 : ByteArray) (a1 : Int) : fromTop Tryz.prog impl_Half.E k impl_Half.a (impl_Half.G k) 1000 (bodyOf Tryz.prog 27) [.v (.string a0), .v (.int .i64 a1)] [] = impl_Half.f a0 a1 := by kernel_rfl
theorem impl_Half.E_ok : EnvOk Tryz.prog impl_Half.E := trivial
theorem impl_Half.sound : Sound Tryz.prog 27 impl_Half.s := by
  refine func_sound (f := impl_Half.a) (G := impl_Half.G) (fn := Tryz.f27) (body := bodyOf Tryz.prog 27) 1000 (by kernel_rfl) impl_Half.E_ok Tryz.func27 (by kernel_rfl) (by kernel_rfl) (by kernel_rfl) (ptsOk_of (by kernel_rfl)) ?_ ?_ ?_ ?_
  · intro r H x h
    unfold impl_Half.a at h
    simp only at h
    split at h
    · cases h; rfl
    · cases h
  · intro q avs H; rfl
  · intro k q pt avs H x _ h; cases h
  · intro k avs H o h
    try dsimp only at h
    split at h
    · cases h; exact impl_Half.eq _ _ _
    · cases h

def impl_machine_step.a : FnA (ByteArray × List (Int × ByteArray × ByteArray) × Int × Int) := ⟨25, [], .tup [], [.box [.val, .row 89 (.pair (.int .i64) (.pair .str .str)), .val, .val], .drop], [], fun x H => match x, H with
  | .tup [], [.box [.v (.string h0_0), .own 2, .v (.int .i64 h0_2), .v (.int .i64 h0_3)], .gone, .row 89 (.pair (.int .i64) (.pair .str .str)) h0_1] => some (h0_0, h0_1, h0_2, h0_3)
  | _, _ => none⟩
def impl_machine_step.s : Spec := mkS [.box [.val, .row 89 (.pair (.int .i64) (.pair .str .str)), .val, .val]] (fun k avs H => match avs, H with
  | [.box 0 0], [.box [.v (.string a0_0), .own 1, .v (.int .i64 a0_2), .v (.int .i64 a0_3)], .row 89 (.pair (.int .i64) (.pair .str .str)) a0_1] => some (impl_machine_step.f a0_0 a0_1 a0_2 a0_3)
  | _, _ => none) (fun r => (.tup [], [.box [.v (.string r.1), .own 2, .v (.int .i64 r.2.2.1), .v (.int .i64 r.2.2.2)], .gone, .row 89 (.pair (.int .i64) (.pair .str .str)) r.2.1]))
def impl_machine_step.E : Env := []
def impl_machine_step.G (k p : Nat) (avs : List AV) (H : List HE) : Option (ByteArray × List (Int × ByteArray × ByteArray) × Int × Int) := none
set_option maxRecDepth 100000 in
theorem impl_machine_step.eq (k : Nat) (a0_0 : ByteArray) (a0_1 : List (Int × ByteArray × ByteArray)) (a0_2 : Int) (a0_3 : Int) : fromTop Tryz.prog impl_machine_step.E k impl_machine_step.a (impl_machine_step.G k) 1000 (bodyOf Tryz.prog 145) [.box 0 0] [.box [.v (.string a0_0), .own 1, .v (.int .i64 a0_2), .v (.int .i64 a0_3)], .row 89 (.pair (.int .i64) (.pair .str .str)) a0_1] = impl_machine_step.f a0_0 a0_1 a0_2 a0_3 := by kernel_rfl
theorem impl_machine_step.E_ok : EnvOk Tryz.prog impl_machine_step.E := trivial
theorem impl_machine_step.sound : Sound Tryz.prog 145 impl_machine_step.s := by
  refine func_sound (f := impl_machine_step.a) (G := impl_machine_step.G) (fn := Tryz.f145) (body := bodyOf Tryz.prog 145) 1000 (by kernel_rfl) impl_machine_step.E_ok Tryz.func145 (by kernel_rfl) (by kernel_rfl) (by kernel_rfl) (ptsOk_of (by kernel_rfl)) ?_ ?_ ?_ ?_
  · intro r H x h
    unfold impl_machine_step.a at h
    simp only at h
    split at h
    · cases h; rfl
    · cases h
  · intro q avs H; rfl
  · intro k q pt avs H x _ h; cases h
  · intro k avs H o h
    try dsimp only at h
    split at h
    · cases h; exact impl_machine_step.eq _ _ _ _ _
    · cases h

def impl_replaced.a : FnA (ByteArray) := ⟨19, [.tmp 6], .val, [], [], fun x H => match x, H with
  | .v (.string r), [] => some r
  | _, _ => none⟩
def impl_replaced.s : Spec := mkS [.val, .val, .val] (fun k avs H => match avs, H with
  | [.v (.string a0), .v (.int .i64 a1), .v (.string a2)], [] => some (impl_replaced.f a0 a1 a2)
  | _, _ => none) (fun r => (.v (.string r), []))
def impl_replaced.E : Env := []
def impl_replaced.G (k p : Nat) (avs : List AV) (H : List HE) : Option (ByteArray) := none
set_option maxRecDepth 100000 in
theorem impl_replaced.eq (k : Nat) (a0 : ByteArray) (a1 : Int) (a2 : ByteArray) : fromTop Tryz.prog impl_replaced.E k impl_replaced.a (impl_replaced.G k) 1000 (bodyOf Tryz.prog 73) [.v (.string a0), .v (.int .i64 a1), .v (.string a2)] [] = impl_replaced.f a0 a1 a2 := by kernel_rfl
theorem impl_replaced.E_ok : EnvOk Tryz.prog impl_replaced.E := trivial
theorem impl_replaced.sound : Sound Tryz.prog 73 impl_replaced.s := by
  refine func_sound (f := impl_replaced.a) (G := impl_replaced.G) (fn := Tryz.f73) (body := bodyOf Tryz.prog 73) 1000 (by kernel_rfl) impl_replaced.E_ok Tryz.func73 (by kernel_rfl) (by kernel_rfl) (by kernel_rfl) (ptsOk_of (by kernel_rfl)) ?_ ?_ ?_ ?_
  · intro r H x h
    unfold impl_replaced.a at h
    simp only at h
    split at h
    · cases h; rfl
    · cases h
  · intro q avs H; rfl
  · intro k q pt avs H x _ h; cases h
  · intro k avs H o h
    try dsimp only at h
    split at h
    · cases h; exact impl_replaced.eq _ _ _ _
    · cases h

def slices_Insert_implLine.s : Spec := mkS [.row 89 (.pair (.int .i64) (.pair .str .str)), .val, .row 89 (.pair (.int .i64) (.pair .str .str))] (fun _ avs H => match avs, H with
  | [.own 0, .v (.int .i64 a1), .own 1], [.row 89 (.pair (.int .i64) (.pair .str .str)) a0, .row 89 (.pair (.int .i64) (.pair .str .str)) a2] => some (slices_Insert_implLine.f a0 a1 a2)
  | _, _ => none) (insX 89 (.pair (.int .i64) (.pair .str .str)))
theorem slices_Insert_implLine.info : ∃ i0 z, Tryz.prog.info? 89 = some i0 ∧ i0.zero = some z ∧ i0.size = 3 ∧ z.cells.size = 3 ∧ 1 ≤ i0.bytes ∧ i0.bytes ≤ 128 := by
  have h := show (Tryz.prog.info? 89).map (fun i => (i.zero.map (fun z => z.cells.size), i.size, decide (1 ≤ i.bytes), decide (i.bytes ≤ 128))) = some (some 3, 3, true, true) by kernel_rfl
  rw [Option.map_eq_some_iff] at h
  obtain ⟨i0, h1, h2⟩ := h
  simp only [Prod.mk.injEq, decide_eq_true_eq] at h2
  obtain ⟨z, hz, hz2⟩ := Option.map_eq_some_iff.1 h2.1
  exact ⟨i0, z, h1, hz, h2.2.1, hz2, h2.2.2.1, h2.2.2.2⟩
theorem slices_Insert_implLine.size : (Tryz.prog.info? 89).map (·.size) = some 3 := by kernel_rfl
set_option maxHeartbeats 4000000 in
set_option maxRecDepth 100000 in
/-- At the end. -/
theorem slices_Insert_implLine.atEnd (v0 : Value) (n vg m vc : Nat) (cs vs : List Value) (w : World) (hown : w.ownsRow 0 89 3 v0 n cs) (hm : 0 < m) (hvl : vs.length = m * 3) (hsum : n + m ≤ 1073741824)
    (hvs : ∀ j u, vs[j]? = some u → w.cell? ⟨vg, j, none⟩ = some u) (h1v : ∀ u ∈ vs, u.oneCell' = true) :
    Calls Tryz.prog 166 #[v0, .int .i64 n, .slice (some ⟨vg, 0, none⟩) m vc] w fun e w' => ∃ v', e = .returned v' ∧ w'.ownsRow 0 89 3 v' (n + m) (cs ++ vs) ∧ w.grownBy w' v0.ownBlock ∧ (v'.ownBlock = v0.ownBlock ∨ v'.ownBlock = some w.heap.size) := by
  obtain ⟨i0, z, hi0, hz0, hz1, hz3, hb1, hb2⟩ := slices_Insert_implLine.info
  have hz1_ : ¬ ((m : Int) = 0) := by omega
  have hz3_ : ((m : Int) == 0) = false := by rw [beq_eq_false_iff_ne]; omega
  have hby : (n + m) * i0.bytes ≤ 140737488355328 := Nat.le_trans (Nat.mul_le_mul hsum hb2) (by decide)
  have hvs2 : Aside0 (∀ j u, vs[j]? = some u → w.cell? ((⟨vg, 0, none⟩ : Addr).add j) = some u) := ⟨fun j u h => by
    rw [Z.add_plain]
    exact hvs j u h⟩
  have mixed : Tryz.prog.follows .mixedOrders = true := by kernel_rfl
  have hO := Lib.hid hown
  clear hvs
  rcases Classical.em (∃ g c, v0 = .slice (some ⟨g, 0, none⟩) n c) with ⟨g, c, rfl⟩ | hno
  · clear hown
    go_enter Tryz.func166, Tryz.ntmps166
    go_wp2_with (at_builtin; refine wpList_append_own_at _ rfl _ _ 27 rfl 0 89 i0 z 3 i0.bytes Tryz.underlying27 hi0 hz0 hz1 rfl hz3 (by omega) _ n cs rfl hO.out ⟨vg, 0, none⟩ m vc vs rfl hvl hvs2.out h1v (by unfold maxLen; omega) hby (Nat.zero_le _) ?_)
    all_goals
      intro v' w1 hw1 hg1 hnil hat
      go_wp2
      go_ret
      exact ⟨v', rfl, hw1, hg1, hat⟩
  · rcases hown.2 with ⟨rfl, rfl⟩ | ⟨g, c, cur, rfl, _⟩
    · clear hown
      go_enter Tryz.func166, Tryz.ntmps166
      go_wp2_with (at_builtin; refine wpList_append_own_at _ rfl _ _ 27 rfl 0 89 i0 z 3 i0.bytes Tryz.underlying27 hi0 hz0 hz1 rfl hz3 (by omega) _ 0 cs rfl hO.out ⟨vg, 0, none⟩ m vc vs rfl hvl hvs2.out h1v (by unfold maxLen; omega) hby (Nat.zero_le _) ?_)
      all_goals
        intro v' w1 hw1 hg1 hnil hat
        go_wp2
        go_ret
        exact ⟨v', rfl, by simpa using hw1, hg1, hat⟩
    · exact absurd ⟨g, c, rfl⟩ hno
set_option maxHeartbeats 4000000 in
set_option maxRecDepth 100000 in
/-- There is room, in place. -/
theorem slices_Insert_implLine.room (g n c i vg m vc : Nat) (cs vs : List Value) (w : World) (hi : i < n) (hm : 0 < m) (hroom : n + m ≤ c) (hsum : n + m ≤ 1073741824) (hc63 : c ≤ 9223372036854775807) (hvb : vg ≠ g)
    (hcl : cs.length = n * 3) (hvl : vs.length = m * 3) (hcs : ∀ j u, cs[j]? = some u → w.cell? ⟨g, j, none⟩ = some u) (hsp : ∀ j, j < (n + m) * 3 → (w.cell? ⟨g, j, none⟩).isSome = true) (hfz : ∀ j, w.frozen? ⟨g, j, none⟩ = false)
    (hvs : ∀ j u, vs[j]? = some u → w.cell? ⟨vg, j, none⟩ = some u) (h1c : ∀ u ∈ cs, u.oneCell' = true) (h1v : ∀ u ∈ vs, u.oneCell' = true)
    (tA tB : TypeId) (kA kB : Nat) (hsa : w.shape? vg = some (tA, kA)) (hsb : w.shape? g = some (tB, kB)) (hkB : kB ≠ 0) (hfa : w.frozen? ⟨vg, 0, none⟩ = false) (hfe : w.frozen? ⟨vg, kA, none⟩ = false) :
    Calls Tryz.prog 166 #[.slice (some ⟨g, 0, none⟩) n c, .int .i64 i, .slice (some ⟨vg, 0, none⟩) m vc] w fun e w' => e = .returned (.slice (some ⟨g, 0, none⟩) (n + m) c) ∧ w' = (w.drew.setCells g ((i + m) * 3) (cs.drop (i * 3))).setCells g (i * 3) vs := by
  have hz1 : ¬ ((m : Int) = 0) := by omega
  have hz2 : ¬ ((i : Int) = (n : Int)) := by omega
  have hz3 : ¬ ((c : Int) < (n : Int) + (m : Int)) := by omega
  have hz4 : ((m : Int) == 0) = false := by rw [beq_eq_false_iff_ne]; omega
  have hz5 : ((i : Int) == (n : Int)) = false := by rw [beq_eq_false_iff_ne]; omega
  have hsz := slices_Insert_implLine.size
  have hze : ∀ w, (Go.sizeOf 89).run Tryz.prog w = .ok 3 w := fun w => by
    obtain ⟨i0, h, h1⟩ := Option.map_eq_some_iff.1 hsz
    simp [sizeOf, typeInfo, h, h1]
  have hov : ∀ o lb cb, (callFunc 187 #[.slice (some ⟨vg, 0, none⟩) m vc, .slice (some ⟨g, o, none⟩) lb cb]).run Tryz.prog w = .ok (.value (.bool false)) w := fun o lb cb => by
    rw [run_callFunc_extern Tryz.func187 (by kernel_rfl) (by kernel_rfl) (by kernel_rfl) (e := Extern.SlicesOverlaps.overlaps #[27, 27] #[4]) (by kernel_rfl),
      Lib.run_overlaps_apart w 27 4 89 Tryz.underlying27 3 hze ⟨vg, 0, none⟩ ⟨g, o, none⟩ m vc lb cb hvb tA tB kA kB hsa hsb hkB hfa hfe]
    rfl
  have hdl : (cs.drop (i * 3)).length = (n - i) * 3 := by rw [List.length_drop, hcl]; omega
  have hw1 : IntKind.i64.wrap ((i : Int) + (m : Int)) = (i : Int) + (m : Int) := by rw [IntKind.wrap_i64]; omega
  have hw2 : IntKind.i64.wrap ((n : Int) + (m : Int)) = (n : Int) + (m : Int) := by rw [IntKind.wrap_i64]; omega
  have hb1 : (0 : Int) ≤ (i : Int) + (m : Int) := by omega
  have hb0 : (0 : Int) ≤ (n : Int) + (m : Int) := by omega
  have hin : i ≤ n := by omega
  have htn : ((i : Int) + (m : Int)).toNat = i + m := by omega
  have htn2 : ((n : Int) + (m : Int)).toNat = n + m := by omega
  have hb2 : ¬ (c = i + m) := by omega
  have hb3 : (i : Int) ≤ (n : Int) + (m : Int) := by omega
  have hb4 : ¬ (c = i) := by omega
  have hb5 : i + m ≤ n + m := by omega
  have mixed : Tryz.prog.follows .mixedOrders = true := by kernel_rfl
  have hcp1 : ∀ ty dc sc, (Builtin.copy_ #[27, 27] ty #[.slice (some ⟨g, (i + m) * 3, none⟩) (n + m - (i + m)) dc, .slice (some ⟨g, i * 3, none⟩) (n + m - i) sc]).run Tryz.prog w.drew = .ok (goInt ((n - i : Nat) : Int)) (w.drew.setCells g ((i + m) * 3) (cs.drop (i * 3))) := fun ty dc sc =>
    run_copy_wide w.drew _ _ ty 89 3 g ((i + m) * 3) (n + m - (i + m)) dc ⟨g, i * 3, none⟩ (n + m - i) sc (n - i) (cs.drop (i * 3)) Tryz.underlying27 hsz (by simp only [Nat.min_def]; split <;> omega) hdl
      (fun j u hj => by rw [Addr.add_lit]; exact hcs (i * 3 + j) u (by rwa [List.getElem?_drop] at hj))
      (fun j hj => hsp _ (by omega)) (fun j hj => hfz _) (fun u hu => h1c u (List.mem_of_mem_drop hu))
  obtain ⟨W1, hW1⟩ : ∃ W1, W1 = w.drew.setCells g ((i + m) * 3) (cs.drop (i * 3)) := ⟨_, rfl⟩
  have hsp1 : ∀ k, k < (n + m) * 3 → (W1.cell? ⟨g, k, none⟩).isSome = true := fun k hk => by
    rw [hW1]
    exact isSome_setCells g (cs.drop (i * 3)) ((i + m) * 3) w.drew (fun j hj => hsp _ (by omega)) k (hsp k hk)
  have hcp2 : ∀ (W : World), (∀ x, W.cell? x = W1.cell? x) → (∀ x, W.frozen? x = W1.frozen? x) → ∀ ty dc, (Builtin.copy_ #[27, 27] ty #[.slice (some ⟨g, i * 3, none⟩) (n + m - i) dc, .slice (some ⟨vg, 0, none⟩) m vc]).run Tryz.prog W = .ok (goInt (m : Int)) (W.setCells g (i * 3) vs) := fun W hWc hWf ty dc =>
    run_copy_wide W _ _ ty 89 3 g (i * 3) (n + m - i) dc ⟨vg, 0, none⟩ m vc m vs Tryz.underlying27 hsz (by simp only [Nat.min_def]; split <;> omega) hvl
      (fun j u hj => by
        rw [Addr.add_lit, hWc, hW1, World.cell?_setCells_out g _ _ _ _ (fun h _ => absurd h hvb), Nat.zero_add]
        exact hvs j u hj)
      (fun j hj => by rw [hWc]; exact hsp1 _ (by omega)) (fun j hj => by rw [hWf, hW1, World.frozen?_setCells]; exact hfz _) h1v
  rw [← hW1] at hcp1
  clear hcs hsp hfz hvs h1c h1v hsa hsb hfa hfe hsp1 hdl hcl hze
  go_enter Tryz.func166, Tryz.ntmps166
  go_wp2_with (simp only [hov])
  go_region_law_o (refine step_copy_runI rfl _ _ 27 27 rfl _ _ (by simp [Act.eval, Act.put]) (by simp [Act.eval, Act.put]) (hcp1 _ _ _) ?_)
  go_wp2_with (at_builtin; refine wpList_copy_runI _ rfl _ _ 27 27 rfl _ _ rfl rfl (hcp2 _ (fun _ => rfl) (fun _ => rfl) _ _) ?_)
  go_ret
  first | exact ⟨rfl, rfl⟩ | exact ⟨rfl, by rw [hW1]⟩
set_option maxHeartbeats 4000000 in
set_option maxRecDepth 100000 in
/-- No room: a new row. -/
theorem slices_Insert_implLine.grow (g n c i vg m vc : Nat) (cs vs : List Value) (w : World) (hi : i < n) (hm : 0 < m) (hnc : n ≤ c) (hroom : c < n + m) (hbig : n + m ≤ 1073741824)
    (hcl : cs.length = n * 3) (hvl : vs.length = m * 3) (hcs : ∀ j u, cs[j]? = some u → w.cell? ⟨g, j, none⟩ = some u)
    (hvs : ∀ j u, vs[j]? = some u → w.cell? ⟨vg, j, none⟩ = some u) (h1c : ∀ u ∈ cs, u.oneCell' = true) (h1v : ∀ u ∈ vs, u.oneCell' = true) :
    Calls Tryz.prog 166 #[.slice (some ⟨g, 0, none⟩) n c, .int .i64 i, .slice (some ⟨vg, 0, none⟩) m vc] w fun e w' => ∃ (G : Nat) (ROW : Array Value), n + m ≤ G ∧ G ≤ maxLen ∧ ROW.size = G * 3 ∧ (∃ more, ROW.toList = cs.take (i * 3) ++ more) ∧ e = .returned (.slice (some ⟨w.heap.size, 0, none⟩) (n + m) G) ∧
      w' = (((w.alloc (.cells ROW 89)).drew.setCells w.heap.size (i * 3) vs).drew).setCells w.heap.size ((i + m) * 3) (cs.drop (i * 3)) := by
  have mixed : Tryz.prog.follows .mixedOrders = true := by kernel_rfl
  obtain ⟨i0, z, hi0, hz0, hzs, hzc, hzb1, hzb2⟩ := slices_Insert_implLine.info
  have hz1 : ¬ ((m : Int) = 0) := by omega
  have hz4 : ((m : Int) == 0) = false := by rw [beq_eq_false_iff_ne]; omega
  have hz2 : ¬ ((i : Int) = (n : Int)) := by omega
  have hz5 : ((i : Int) == (n : Int)) = false := by rw [beq_eq_false_iff_ne]; omega
  have hz3 : (c : Int) < (n : Int) + (m : Int) := by omega
  have hsz := slices_Insert_implLine.size
  have hgw : g < w.heap.size := World.block_lt_of_cell? w _ (hcs 0 _ (List.getElem?_eq_getElem (by omega)))
  have hvw : vg < w.heap.size := World.block_lt_of_cell? w _ (hvs 0 _ (List.getElem?_eq_getElem (by omega)))
  have hkk : (n : Int) + (m : Int) - (i : Int) = ((n + m - i : Nat) : Int) := by omega
  have hik : i + (n + m - i) = n + m := by omega
  have hby : (n + m) * i0.bytes ≤ 140737488355328 := Nat.le_trans (Nat.mul_le_mul hbig hzb2) (by decide)
  have hby2 : (n + m - i) * i0.bytes ≤ 281474976710656 := Nat.le_trans (Nat.mul_le_mul (Nat.le_trans (Nat.sub_le _ _) hbig) hzb2) (by decide)
  have hold : (Builtin.firstCells i0.size i (.slice (some ⟨g, 0, none⟩) i c)).run Tryz.prog w.drew = .ok (cs.take (i * 3)).toArray w.drew := by
    rw [hzs]
    exact run_firstCells_some w.drew 3 i ⟨g, 0, none⟩ i c (cs.take (i * 3)) (by rw [List.length_take]; omega) (fun j v hj => by
      rw [Addr.add_lit, Nat.zero_add]
      rw [List.getElem?_take] at hj
      split at hj
      · exact hcs j v hj
      · cases hj)
  have hrz : ∀ ty, (Builtin.append_ #[27, 3] ty #[.slice (some ⟨g, 0, none⟩) i c, .int .i64 ((n : Int) + (m : Int) - (i : Int))]).run Tryz.prog w =
      .ok (.slice (some ⟨w.heap.size, 0, none⟩) (n + m) (grownCap w (n + m) c 89)) (w.drew.alloc (.cells ((cs.take (i * 3)).toArray ++ Builtin.zeroCells z.cells (n + m - i) ++ Builtin.zeroCells z.cells (grownCap w (n + m) c 89 - (n + m))) 89)) := fun ty => by
    have h := Lib.run_append_grow_zeros w 27 3 ty 89 i0 _ .i64 .i64 Tryz.underlying27 Tryz.underlying3 hi0 hz0 (some ⟨g, 0, none⟩) i c (cs.take (i * 3)) hold (n + m - i) (by omega) (by omega) (by omega) (by omega) hby2 (by rw [hik]; exact growslice_fits hroom hby)
    rw [hik] at h
    rw [hkk]
    exact h
  obtain ⟨G, hG⟩ : ∃ G, G = grownCap w (n + m) c 89 := ⟨_, rfl⟩
  obtain ⟨ROW, hROW⟩ : ∃ ROW : Array Value, ROW = (cs.take (i * 3)).toArray ++ Builtin.zeroCells z.cells (n + m - i) ++ Builtin.zeroCells z.cells (G - (n + m)) := ⟨_, rfl⟩
  have hGn : n + m ≤ G := by rw [hG]; exact grownCap_ge w _ _ _
  have hGm : G ≤ maxLen := by rw [hG]; exact grownCap_le_maxLen w (n + m) c 89 (by unfold maxLen; omega)
  have hG63 : G ≤ 9223372036854775807 := hGm
  rw [← hG, ← hROW] at hrz
  have hRs : ROW.size = G * 3 := by
    rw [hROW]
    simp only [Array.size_append, List.size_toArray, size_zeroCells, hzc, List.length_take, hcl]
    omega
  have hRm : ∃ more, ROW.toList = cs.take (i * 3) ++ more := ⟨_, by rw [hROW, Array.toList_append, Array.toList_append, List.append_assoc]⟩
  obtain ⟨W1, hW1⟩ : ∃ W1, W1 = w.drew.alloc (.cells ROW 89) := ⟨_, rfl⟩
  rw [← hW1] at hrz
  have hN : ∀ j, j < (n + m) * 3 → (W1.cell? ⟨w.heap.size, j, none⟩).isSome = true := fun j hj => by
    rw [hW1, World.cell?_alloc_at (w := w.drew) ROW _ w.heap.size j rfl, Array.getElem?_eq_getElem (by omega)]; rfl
  have hNf : ∀ j, W1.frozen? ⟨w.heap.size, j, none⟩ = false := fun j => by rw [hW1]; exact World.frozen?_alloc_at (w := w.drew) ROW _ w.heap.size j rfl
  have hOb : ∀ j v, w.cell? ⟨g, j, none⟩ = some v → W1.cell? ⟨g, j, none⟩ = some v := fun j v h => by rw [hW1, World.cell?_alloc_past (w := w.drew) _ g j hgw]; exact h
  have hOv : ∀ j v, w.cell? ⟨vg, j, none⟩ = some v → W1.cell? ⟨vg, j, none⟩ = some v := fun j v h => by rw [hW1, World.cell?_alloc_past (w := w.drew) _ vg j hvw]; exact h
  have hcpA : ∀ (W : World), (∀ x, W.cell? x = W1.cell? x) → (∀ x, W.frozen? x = W1.frozen? x) → ∀ ty dc, (Builtin.copy_ #[27, 27] ty #[.slice (some ⟨w.heap.size, i * 3, none⟩) (n + m - i) dc, .slice (some ⟨vg, 0, none⟩) m vc]).run Tryz.prog W = .ok (goInt (m : Int)) (W.setCells w.heap.size (i * 3) vs) := fun W hWc hWf ty dc =>
    run_copy_wide W _ _ ty 89 3 w.heap.size (i * 3) (n + m - i) dc ⟨vg, 0, none⟩ m vc m vs Tryz.underlying27 hsz (by simp only [Nat.min_def]; split <;> omega) hvl
      (fun j v hj => by rw [Addr.add_lit, hWc, Nat.zero_add]; exact hOv _ v (hvs j v hj))
      (fun j hj => by rw [hWc]; exact hN _ (by omega)) (fun j hj => by rw [hWf]; exact hNf _) h1v
  have hGi : ¬ (G = i) := by omega
  have hGim : ¬ (G = i + m) := by omega
  have hci : ¬ (c = i) := by omega
  have hgN : g ≠ w.heap.size := by omega
  have hdl : (cs.drop (i * 3)).length = (n - i) * 3 := by rw [List.length_drop, hcl]; omega
  have hcpB : ∀ (W : World), (∀ x, W.cell? x = (W1.setCells w.heap.size (i * 3) vs).cell? x) → (∀ x, W.frozen? x = (W1.setCells w.heap.size (i * 3) vs).frozen? x) → ∀ ty dc sc, (Builtin.copy_ #[27, 27] ty #[.slice (some ⟨w.heap.size, (i + m) * 3, none⟩) (n + m - (i + m)) dc, .slice (some ⟨g, i * 3, none⟩) (n - i) sc]).run Tryz.prog W = .ok (goInt ((n - i : Nat) : Int)) (W.setCells w.heap.size ((i + m) * 3) (cs.drop (i * 3))) := fun W hWc hWf ty dc sc =>
    run_copy_wide W _ _ ty 89 3 w.heap.size ((i + m) * 3) (n + m - (i + m)) dc ⟨g, i * 3, none⟩ (n - i) sc (n - i) (cs.drop (i * 3)) Tryz.underlying27 hsz (by simp only [Nat.min_def]; split <;> omega) hdl
      (fun j v hj => by
        rw [Addr.add_lit, hWc, World.cell?_setCells_out _ _ _ _ _ (fun h _ => absurd h hgN)]
        exact hOb _ v (hcs (i * 3 + j) v (by rwa [List.getElem?_drop] at hj)))
      (fun j hj => by rw [hWc]; exact isSome_setCells w.heap.size vs (i * 3) W1 (fun t ht => hN _ (by omega)) _ (hN _ (by omega)))
      (fun j hj => by rw [hWf, World.frozen?_setCells]; exact hNf _) (fun v hv => h1c v (List.mem_of_mem_drop hv))
  subst hW1
  have hE1 : ∀ x, ((w.alloc (.cells ROW 89)).drew).cell? x = (w.drew.alloc (.cells ROW 89)).cell? x := fun x => rfl
  have hE2 : ∀ x, ((w.alloc (.cells ROW 89)).drew).frozen? x = (w.drew.alloc (.cells ROW 89)).frozen? x := fun x => rfl
  have hF1 : ∀ x, (((w.alloc (.cells ROW 89)).drew.setCells w.heap.size (i * 3) vs).drew).cell? x = ((w.drew.alloc (.cells ROW 89)).setCells w.heap.size (i * 3) vs).cell? x := fun x => rfl
  have hF2 : ∀ x, (((w.alloc (.cells ROW 89)).drew.setCells w.heap.size (i * 3) vs).drew).frozen? x = ((w.drew.alloc (.cells ROW 89)).setCells w.heap.size (i * 3) vs).frozen? x := fun x => rfl
  have hw1 : IntKind.i64.wrap ((i : Int) + (m : Int)) = (i : Int) + (m : Int) := by rw [IntKind.wrap_i64]; omega
  have hw2 : IntKind.i64.wrap ((n : Int) + (m : Int)) = (n : Int) + (m : Int) := by rw [IntKind.wrap_i64]; omega
  have hw3 : IntKind.i64.wrap ((n : Int) + (m : Int) - (i : Int)) = (n : Int) + (m : Int) - (i : Int) := by rw [IntKind.wrap_i64]; omega
  have hb1 : (0 : Int) ≤ (i : Int) + (m : Int) := by omega
  have hin : i ≤ n := by omega
  have htn : ((i : Int) + (m : Int)).toNat = i + m := by omega
  have hb3 : (i : Int) ≤ (n : Int) := by omega
  have hb5 : i + m ≤ n + m := by omega
  have hb6 : i ≤ n + m := by omega
  have hb7 : i + m ≤ G := by omega
  have hb8 : i ≤ G := by omega
  clear hkk hik hold hROW hG hN hNf hOb hOv hcs hvs h1c h1v hgN hdl
  go_enter Tryz.func166, Tryz.ntmps166
  go_wp2_with (first
    | (at_builtin; refine Lib.wpList_append_run _ rfl _ _ _ _ rfl _ _ rfl rfl _ _ (hrz _) ?_)
    | (at_builtin; refine wpList_copy_runI _ rfl _ _ 27 27 rfl _ _ rfl rfl (hcpA _ hE1 hE2 _ _) ?_)
    | (at_builtin; refine wpList_copy_runI _ rfl _ _ 27 27 rfl _ _ rfl rfl (hcpB _ (fun _ => rfl) (fun _ => rfl) _ _ _) ?_))
  go_region_law_o (refine step_copy_runI rfl _ _ 27 27 rfl (.slice (some ⟨w.heap.size, (i + m) * 3, none⟩) (n + m - (i + m)) (G - (i + m))) (.slice (some ⟨g, i * 3, none⟩) (n - i) (c - i)) (by simp [Act.eval, Act.put]) (by simp [Act.eval, Act.put]) (hcpB _ hF1 hF2 3 (G - (i + m)) (c - i)) ?_)
  go_wp2
  go_ret
  exact ⟨G, ROW, hGn, hGm, hRs, hRm, rfl, rfl⟩
theorem slices_Insert_implLine.calls (v u : Value) (n i m : Nat) (xs ys : List Value) (w : World) (hown : w.ownsRow 0 89 3 v n xs) (hown2 : w.ownsRow 0 89 3 u m ys) (hsep : ∀ b, v.ownBlock = some b → u.ownBlock ≠ some b) (h1c : ∀ y ∈ xs, y.oneCell' = true) (h1v : ∀ y ∈ ys, y.oneCell' = true) (hin : i ≤ n) (hpos : 0 < m) (hsum : n + m ≤ 1073741824) :
    Calls Tryz.prog 166 #[v, .int .i64 i, u] w fun en w' => ∃ v', en = .returned v' ∧ w'.ownsRow 0 89 3 v' (n + m) (xs.take (i * 3) ++ (ys ++ xs.drop (i * 3))) ∧ w.grownBy w' v.ownBlock ∧ (v'.ownBlock = v.ownBlock ∨ ∀ g, v'.ownBlock = some g → w.heap.size ≤ g) := by
  have hl0 := hown.1
  have hl2 := hown2.1
  rcases hown2.2 with ⟨rfl, hn⟩ | ⟨g2, cap2, cur2, rfl, hb2, hg2, hnc2, hcm2, hcs2, htake2⟩
  · omega
  · have hvs := cells_row hg2 htake2
    by_cases hend : i = n
    · subst hend
      refine (slices_Insert_implLine.atEnd v i g2 m cap2 xs ys w hown hpos hl2 hsum hvs h1v).mono ?_
      rintro en w' ⟨v', rfl, h1, h2, h3⟩
      refine ⟨v', rfl, ?_, h2, h3.imp id fun h g hg => by rw [h] at hg; injection hg with hg; omega⟩
      rw [List.take_of_length_le (by omega), List.drop_eq_nil_of_le (by omega), List.append_nil]
      exact h1
    · rcases hown.2 with ⟨rfl, hn⟩ | ⟨g, cap, cur, rfl, hb, hg, hnc, hcm, hcs, htake⟩
      · omega
      · have hcc := cells_row hg htake
        have hne : g2 ≠ g := fun he => hsep g rfl (by rw [he]; rfl)
        have hlt : g < w.heap.size := (Array.getElem?_eq_some_iff.1 hg).1
        have hcm63 : cap ≤ 9223372036854775807 := hcm
        have e1 : (i + m) * 3 = i * 3 + m * 3 := Nat.add_mul _ _ _
        have e2 : (n + m) * 3 = n * 3 + m * 3 := Nat.add_mul _ _ _
        have hdl : (xs.drop (i * 3)).length = (n - i) * 3 := by rw [List.length_drop, hl0]; omega
        have hll : (xs.take (i * 3) ++ (ys ++ xs.drop (i * 3))).length = (n + m) * 3 := by simp only [List.length_append, List.length_take, hdl, hl0, hl2]; omega
        by_cases hroom : n + m ≤ cap
        · refine (slices_Insert_implLine.room g n cap i g2 m cap2 xs ys w (by omega) hpos hroom hsum hcm63 hne hl0 hl2 hcc (fun j hj => ?_) (fun j => by simp [World.frozen?, hg]) hvs h1c h1v 89 89 cur2.size cur.size (by simp [World.shape?, hg2]) (by simp [World.shape?, hg]) (by omega) (by simp [World.frozen?, hg2]) (by simp [World.frozen?, hg2])).mono ?_
          · simp only [World.cell?, hg]
            rw [Array.getElem?_eq_getElem (by omega)]
            rfl
          · rintro en w' ⟨rfl, rfl⟩
            have hgd : (w.drew).heap[g]? = some (.cells cur 89 (0, 0)) := hg
            obtain ⟨cur1, a1, a2, a3⟩ := Z.setCells_row (xs.drop (i * 3)) ((i + m) * 3) w.drew cur hgd (by rw [hdl]; omega)
            obtain ⟨cur3, b1, b2, b3⟩ := Z.setCells_row ys (i * 3) _ cur1 a1 (by rw [hl2]; omega)
            obtain ⟨s1, s2, s3, s4⟩ := Z.setCells_same g (xs.drop (i * 3)) ((i + m) * 3) w.drew
            obtain ⟨t1, t2, t3, t4⟩ := Z.setCells_same g ys (i * 3) (w.drew.setCells g ((i + m) * 3) (xs.drop (i * 3)))
            have hfar : ∀ k, k ≠ g → ((w.drew.setCells g ((i + m) * 3) (xs.drop (i * 3))).setCells g (i * 3) ys).heap[k]? = w.heap[k]? := fun k hk => (Z.setCells_far _ _ k hk).trans (Z.setCells_far _ _ k hk)
            have hsz : ((w.drew.setCells g ((i + m) * 3) (xs.drop (i * 3))).setCells g (i * 3) ys).heap.size = w.heap.size := t4.trans s4
            have hlist := ins_list1 cur.toList xs ys (i * 3) (m * 3) (n * 3) htake hl0 (by omega) hl2 (by rw [show cur.toList.length = cur.size from Array.length_toList]; omega)
            rw [← e1, ← a3, ← b3, ← e2] at hlist
            have hgr : w.grownBy ((w.drew.setCells g ((i + m) * 3) (xs.drop (i * 3))).setCells g (i * 3) ys) (some g) := ⟨t1.trans s1, t2.trans s2, t3.trans s3, Nat.le_of_eq hsz.symm, fun k _ hk => hfar k (fun he => hk (by rw [he]))⟩
            exact ⟨_, rfl, ⟨hll, .inr ⟨g, cap, cur3, rfl, hb, b1, hroom, hcm, by omega, hlist⟩⟩, hgr, .inl rfl⟩
        · refine (slices_Insert_implLine.grow g n cap i g2 m cap2 xs ys w (by omega) hpos hnc (by omega) hsum hl0 hl2 hcc hvs h1c h1v).mono ?_
          rintro en w' ⟨G, ROW, hG, hGm, hRs, ⟨more, hRm⟩, rfl, rfl⟩
          have hgd : ((w.alloc (.cells ROW 89)).drew).heap[w.heap.size]? = some (.cells ROW 89 (0, 0)) := heap_alloc_new w _
          obtain ⟨cur1, a1, a2, a3⟩ := Z.setCells_row ys (i * 3) _ ROW hgd (by rw [hl2]; omega)
          obtain ⟨cur3, b1, b2, b3⟩ := Z.setCells_row (xs.drop (i * 3)) ((i + m) * 3) (((w.alloc (.cells ROW 89)).drew.setCells w.heap.size (i * 3) ys).drew) cur1 a1 (by rw [hdl]; omega)
          obtain ⟨s1, s2, s3, s4⟩ := Z.setCells_same w.heap.size ys (i * 3) ((w.alloc (.cells ROW 89)).drew)
          obtain ⟨t1, t2, t3, t4⟩ := Z.setCells_same w.heap.size (xs.drop (i * 3)) ((i + m) * 3) (((w.alloc (.cells ROW 89)).drew.setCells w.heap.size (i * 3) ys).drew)
          have hal : ∀ k, k < w.heap.size → ((w.alloc (.cells ROW 89)).drew).heap[k]? = w.heap[k]? := fun k hk => heap_alloc_old w _ hk
          have hfar : ∀ k, k < w.heap.size → ((((w.alloc (.cells ROW 89)).drew.setCells w.heap.size (i * 3) ys).drew).setCells w.heap.size ((i + m) * 3) (xs.drop (i * 3))).heap[k]? = w.heap[k]? := fun k hk => (Z.setCells_far _ _ k (Nat.ne_of_lt hk)).trans ((Z.setCells_far _ _ k (Nat.ne_of_lt hk)).trans (hal k hk))
          have hsz : ((((w.alloc (.cells ROW 89)).drew.setCells w.heap.size (i * 3) ys).drew).setCells w.heap.size ((i + m) * 3) (xs.drop (i * 3))).heap.size = w.heap.size + 1 := t4.trans (s4.trans (by simp))
          have hlist := ins_list2 ROW.toList xs ys more (i * 3) (m * 3) (n * 3) hRm hl0 (by omega) hl2 (by rw [show ROW.toList.length = ROW.size from Array.length_toList]; omega)
          rw [← a3, ← e1, ← b3, ← e2] at hlist
          have hgr : w.grownBy ((((w.alloc (.cells ROW 89)).drew.setCells w.heap.size (i * 3) ys).drew).setCells w.heap.size ((i + m) * 3) (xs.drop (i * 3))) (some g) := ⟨t1.trans s1, t2.trans s2, t3.trans s3, by omega, fun k hk _ => hfar k hk⟩
          exact ⟨_, rfl, ⟨hll, .inr ⟨w.heap.size, G, cur3, rfl, Nat.zero_le _, b1, hG, hGm, by omega, hlist⟩⟩, hgr, .inr fun k hk => by (have e : some w.heap.size = some k := hk); injection e with e; omega⟩
theorem slices_Insert_implLine.sound : Sound Tryz.prog 166 slices_Insert_implLine.s := by
  refine sound_insert (e := 89) (t := (.pair (.int .i64) (.pair .str .str))) (B := 1073741824) ?_ slices_Insert_implLine.calls
  intro k avs H o x h hx
  split at h
  case h_2 => cases h
  rename_i a1 a0 a2
  cases h
  unfold slices_Insert_implLine.f at hx
  split at hx
  case isFalse => cases hx
  rename_i h0
  split at hx
  case isFalse => cases hx
  rename_i h1
  split at hx
  case isFalse => cases hx
  rename_i h2
  split at hx
  case isFalse => cases hx
  rename_i h3
  cases hx
  obtain ⟨i, rfl⟩ := Int.eq_ofNat_of_zero_le h0
  rw [Int.toNat_natCast]
  exact ⟨a0, i, a2, rfl, rfl, Int.ofNat_le.1 h1, h2, h3, rfl⟩
end
end Go.Proofs.YtmciidoohbmipaaGreatDoor.Abs
namespace Go.Proofs.YtmciidoohbmipaaGreatDoor.Abs
open Go Go.RowKit
set_option linter.unusedVariables false
set_option linter.unusedSectionVars false
set_option linter.unusedSimpArgs false
noncomputable section
def impl_Device_store.a : FnA (ByteArray × List (Int × ByteArray × ByteArray)) := ⟨57, [], .tup [], [.box [.val, .row 89 (.pair (.int .i64) (.pair .str .str))], .drop], [⟨10, [0, 1, 2, 7], [.box [], .val, .val, .val], [.box [.val, .row 89 (.pair (.int .i64) (.pair .str .str))], .drop]⟩], fun x H => match x, H with
  | .tup [], [.box [.v (.string h0_0), .own 2], .gone, .row 89 (.pair (.int .i64) (.pair .str .str)) h0_1] => some (h0_0, h0_1)
  | _, _ => none⟩
def impl_Device_store.s : Spec := mkS [.box [.val, .row 89 (.pair (.int .i64) (.pair .str .str))], .val, .val] (fun k avs H => match avs, H with
  | [.box 0 0, .v (.int .i64 a1), .v (.string a2)], [.box [.v (.string a0_0), .own 1], .row 89 (.pair (.int .i64) (.pair .str .str)) a0_1] => some (impl_Device_store.f k a0_0 a0_1 a1 a2)
  | _, _ => none) (fun r => (.tup [], [.box [.v (.string r.1), .own 2], .gone, .row 89 (.pair (.int .i64) (.pair .str .str)) r.2]))
def impl_Device_store.E : Env := [((150, []), _impl_Device_find.s), ((151, []), _impl_Device_safeLine.s), ((166, []), slices_Insert_implLine.s), ((73, []), impl_replaced.s)]
def impl_Device_store.G10 (k : Nat) (avs : List AV) (H : List HE) : Option (ByteArray × List (Int × ByteArray × ByteArray)) := match avs, H with
  | [.box 0 0, .v (.int .i64 x1), .v (.string x2), .v (.int .i64 x7)], [.box [.v (.string h0_0), .own 2], .gone, .row 89 (.pair (.int .i64) (.pair .str .str)) h0_1] => impl_Device_store.p10 k h0_0 h0_1 x1 x2 x7
  | _, _ => none
def impl_Device_store.G (k p : Nat) (avs : List AV) (H : List HE) : Option (ByteArray × List (Int × ByteArray × ByteArray)) := (pick1 10 (impl_Device_store.G10 k avs H) none p)
set_option maxRecDepth 100000 in
theorem impl_Device_store.eq (k : Nat) (a0_0 : ByteArray) (a0_1 : List (Int × ByteArray × ByteArray)) (a1 : Int) (a2 : ByteArray) : fromTop Tryz.prog impl_Device_store.E k impl_Device_store.a (impl_Device_store.G k) 1000 (bodyOf Tryz.prog 146) [.box 0 0, .v (.int .i64 a1), .v (.string a2)] [.box [.v (.string a0_0), .own 1], .row 89 (.pair (.int .i64) (.pair .str .str)) a0_1] = impl_Device_store.f k a0_0 a0_1 a1 a2 := by kernel_rfl
set_option maxRecDepth 100000 in
theorem impl_Device_store.eq10 (k : Nat) (h0_0 : ByteArray) (h0_1 : List (Int × ByteArray × ByteArray)) (x1 : Int) (x2 : ByteArray) (x7 : Int) : fromPt Tryz.prog impl_Device_store.E k impl_Device_store.a (impl_Device_store.G k) 1000 (bodyOf Tryz.prog 146) 10 [.box 0 0, .v (.int .i64 x1), .v (.string x2), .v (.int .i64 x7)] [.box [.v (.string h0_0), .own 2], .gone, .row 89 (.pair (.int .i64) (.pair .str .str)) h0_1] = impl_Device_store.p10 (k + 1) h0_0 h0_1 x1 x2 x7 := by kernel_rfl
theorem impl_Device_store.G10_0 {avs : List AV} {H : List HE} : impl_Device_store.G10 0 avs H = none := by unfold impl_Device_store.G10; split <;> rfl
theorem impl_Device_store.G10_s (k : Nat) {avs : List AV} {H : List HE} {x : ByteArray × List (Int × ByteArray × ByteArray)} (h : impl_Device_store.G10 (k + 1) avs H = some x) : fromPt Tryz.prog impl_Device_store.E k impl_Device_store.a (impl_Device_store.G k) 1000 (bodyOf Tryz.prog 146) 10 avs H = some x := by
  unfold impl_Device_store.G10 at h
  split at h
  · rw [← h]; exact impl_Device_store.eq10 _ _ _ _ _ _
  · cases h
theorem impl_Device_store.E_ok : EnvOk Tryz.prog impl_Device_store.E := ⟨⟨_impl_Device_find.sound, callable_of (by kernel_rfl)⟩, ⟨_impl_Device_safeLine.sound, callable_of (by kernel_rfl)⟩, ⟨slices_Insert_implLine.sound, callable_of (by kernel_rfl)⟩, ⟨impl_replaced.sound, callable_of (by kernel_rfl)⟩, trivial⟩
theorem impl_Device_store.sound : Sound Tryz.prog 146 impl_Device_store.s := by
  refine func_sound (f := impl_Device_store.a) (G := impl_Device_store.G) (fn := Tryz.f146) (body := bodyOf Tryz.prog 146) 1000 (by kernel_rfl) impl_Device_store.E_ok Tryz.func146 (by kernel_rfl) (by kernel_rfl) (by kernel_rfl) (ptsOk_of (by kernel_rfl)) ?_ ?_ ?_ ?_
  · intro r H x h
    unfold impl_Device_store.a at h
    simp only at h
    split at h
    · cases h; rfl
    · cases h
  · exact fun q avs H => pick1_none impl_Device_store.G10_0 (rfl)
  · intro k q pt avs H x _ h
    rcases pick1_some h with ⟨rfl, h⟩ | h
    · exact impl_Device_store.G10_s _ h
    cases h
  · intro k avs H o h
    try dsimp only at h
    split at h
    · cases h; exact impl_Device_store.eq _ _ _ _ _
    · cases h

def impl_machine_store.a : FnA (ByteArray × List (Int × ByteArray × ByteArray) × Int × Int) := ⟨14, [], .tup [], [.box [.val, .row 89 (.pair (.int .i64) (.pair .str .str)), .val, .val], .drop], [], fun x H => match x, H with
  | .tup [], [.box [.v (.string h0_0), .own 2, .v (.int .i64 h0_2), .v (.int .i64 h0_3)], .gone, .row 89 (.pair (.int .i64) (.pair .str .str)) h0_1] => some (h0_0, h0_1, h0_2, h0_3)
  | _, _ => none⟩
def impl_machine_store.s : Spec := mkS [.box [.val, .row 89 (.pair (.int .i64) (.pair .str .str)), .val, .val], .val, .val] (fun k avs H => match avs, H with
  | [.box 0 0, .v (.int .i64 a1), .v (.string a2)], [.box [.v (.string a0_0), .own 1, .v (.int .i64 a0_2), .v (.int .i64 a0_3)], .row 89 (.pair (.int .i64) (.pair .str .str)) a0_1] => some (impl_machine_store.f k a0_0 a0_1 a0_2 a0_3 a1 a2)
  | _, _ => none) (fun r => (.tup [], [.box [.v (.string r.1), .own 2, .v (.int .i64 r.2.2.1), .v (.int .i64 r.2.2.2)], .gone, .row 89 (.pair (.int .i64) (.pair .str .str)) r.2.1]))
def impl_machine_store.E : Env := [((145, []), impl_machine_step.s), ((146, []), impl_Device_store.s)]
def impl_machine_store.G (k p : Nat) (avs : List AV) (H : List HE) : Option (ByteArray × List (Int × ByteArray × ByteArray) × Int × Int) := none
set_option maxRecDepth 100000 in
theorem impl_machine_store.eq (k : Nat) (a0_0 : ByteArray) (a0_1 : List (Int × ByteArray × ByteArray)) (a0_2 : Int) (a0_3 : Int) (a1 : Int) (a2 : ByteArray) : fromTop Tryz.prog impl_machine_store.E k impl_machine_store.a (impl_machine_store.G k) 1000 (bodyOf Tryz.prog 107) [.box 0 0, .v (.int .i64 a1), .v (.string a2)] [.box [.v (.string a0_0), .own 1, .v (.int .i64 a0_2), .v (.int .i64 a0_3)], .row 89 (.pair (.int .i64) (.pair .str .str)) a0_1] = impl_machine_store.f k a0_0 a0_1 a0_2 a0_3 a1 a2 := by kernel_rfl
theorem impl_machine_store.E_ok : EnvOk Tryz.prog impl_machine_store.E := ⟨⟨impl_machine_step.sound, callable_of (by kernel_rfl)⟩, ⟨impl_Device_store.sound, callable_of (by kernel_rfl)⟩, trivial⟩
theorem impl_machine_store.sound : Sound Tryz.prog 107 impl_machine_store.s := by
  refine func_sound (f := impl_machine_store.a) (G := impl_machine_store.G) (fn := Tryz.f107) (body := bodyOf Tryz.prog 107) 1000 (by kernel_rfl) impl_machine_store.E_ok Tryz.func107 (by kernel_rfl) (by kernel_rfl) (by kernel_rfl) (ptsOk_of (by kernel_rfl)) ?_ ?_ ?_ ?_
  · intro r H x h
    unfold impl_machine_store.a at h
    simp only at h
    split at h
    · cases h; rfl
    · cases h
  · intro q avs H; rfl
  · intro k q pt avs H x _ h; cases h
  · intro k avs H o h
    try dsimp only at h
    split at h
    · cases h; exact impl_machine_store.eq _ _ _ _ _ _ _
    · cases h

def impl_Device_flush.a : FnA (ByteArray × List (Int × ByteArray × ByteArray)) := ⟨30, [], .tup [], [.box [.val, .row 89 (.pair (.int .i64) (.pair .str .str))], .drop], [], fun x H => match x, H with
  | .tup [], [.box [.v (.string h0_0), .own 2], .gone, .row 89 (.pair (.int .i64) (.pair .str .str)) h0_1] => some (h0_0, h0_1)
  | _, _ => none⟩
def impl_Device_flush.s : Spec := mkS [.box [.val, .row 89 (.pair (.int .i64) (.pair .str .str))], .val] (fun k avs H => match avs, H with
  | [.box 0 0, .v (.int .i64 a1)], [.box [.v (.string a0_0), .own 1], .row 89 (.pair (.int .i64) (.pair .str .str)) a0_1] => some (impl_Device_flush.f k a0_0 a0_1 a1)
  | _, _ => none) (fun r => (.tup [], [.box [.v (.string r.1), .own 2], .gone, .row 89 (.pair (.int .i64) (.pair .str .str)) r.2]))
def impl_Device_flush.E : Env := [((150, []), _impl_Device_find.s)]
def impl_Device_flush.G (k p : Nat) (avs : List AV) (H : List HE) : Option (ByteArray × List (Int × ByteArray × ByteArray)) := none
set_option maxRecDepth 100000 in
theorem impl_Device_flush.eq (k : Nat) (a0_0 : ByteArray) (a0_1 : List (Int × ByteArray × ByteArray)) (a1 : Int) : fromTop Tryz.prog impl_Device_flush.E k impl_Device_flush.a (impl_Device_flush.G k) 1000 (bodyOf Tryz.prog 152) [.box 0 0, .v (.int .i64 a1)] [.box [.v (.string a0_0), .own 1], .row 89 (.pair (.int .i64) (.pair .str .str)) a0_1] = impl_Device_flush.f k a0_0 a0_1 a1 := by kernel_rfl
theorem impl_Device_flush.E_ok : EnvOk Tryz.prog impl_Device_flush.E := ⟨⟨_impl_Device_find.sound, callable_of (by kernel_rfl)⟩, trivial⟩
theorem impl_Device_flush.sound : Sound Tryz.prog 152 impl_Device_flush.s := by
  refine func_sound (f := impl_Device_flush.a) (G := impl_Device_flush.G) (fn := Tryz.f152) (body := bodyOf Tryz.prog 152) 1000 (by kernel_rfl) impl_Device_flush.E_ok Tryz.func152 (by kernel_rfl) (by kernel_rfl) (by kernel_rfl) (ptsOk_of (by kernel_rfl)) ?_ ?_ ?_ ?_
  · intro r H x h
    unfold impl_Device_flush.a at h
    simp only at h
    split at h
    · cases h; rfl
    · cases h
  · intro q avs H; rfl
  · intro k q pt avs H x _ h; cases h
  · intro k avs H o h
    try dsimp only at h
    split at h
    · cases h; exact impl_Device_flush.eq _ _ _ _
    · cases h

def impl_machine_flush.a : FnA (ByteArray × List (Int × ByteArray × ByteArray) × Int × Int) := ⟨11, [], .tup [], [.box [.val, .row 89 (.pair (.int .i64) (.pair .str .str)), .val, .val], .drop], [], fun x H => match x, H with
  | .tup [], [.box [.v (.string h0_0), .own 2, .v (.int .i64 h0_2), .v (.int .i64 h0_3)], .gone, .row 89 (.pair (.int .i64) (.pair .str .str)) h0_1] => some (h0_0, h0_1, h0_2, h0_3)
  | _, _ => none⟩
def impl_machine_flush.s : Spec := mkS [.box [.val, .row 89 (.pair (.int .i64) (.pair .str .str)), .val, .val], .val] (fun k avs H => match avs, H with
  | [.box 0 0, .v (.int .i64 a1)], [.box [.v (.string a0_0), .own 1, .v (.int .i64 a0_2), .v (.int .i64 a0_3)], .row 89 (.pair (.int .i64) (.pair .str .str)) a0_1] => some (impl_machine_flush.f k a0_0 a0_1 a0_2 a0_3 a1)
  | _, _ => none) (fun r => (.tup [], [.box [.v (.string r.1), .own 2, .v (.int .i64 r.2.2.1), .v (.int .i64 r.2.2.2)], .gone, .row 89 (.pair (.int .i64) (.pair .str .str)) r.2.1]))
def impl_machine_flush.E : Env := [((145, []), impl_machine_step.s), ((152, []), impl_Device_flush.s)]
def impl_machine_flush.G (k p : Nat) (avs : List AV) (H : List HE) : Option (ByteArray × List (Int × ByteArray × ByteArray) × Int × Int) := none
set_option maxRecDepth 100000 in
theorem impl_machine_flush.eq (k : Nat) (a0_0 : ByteArray) (a0_1 : List (Int × ByteArray × ByteArray)) (a0_2 : Int) (a0_3 : Int) (a1 : Int) : fromTop Tryz.prog impl_machine_flush.E k impl_machine_flush.a (impl_machine_flush.G k) 1000 (bodyOf Tryz.prog 117) [.box 0 0, .v (.int .i64 a1)] [.box [.v (.string a0_0), .own 1, .v (.int .i64 a0_2), .v (.int .i64 a0_3)], .row 89 (.pair (.int .i64) (.pair .str .str)) a0_1] = impl_machine_flush.f k a0_0 a0_1 a0_2 a0_3 a1 := by kernel_rfl
theorem impl_machine_flush.E_ok : EnvOk Tryz.prog impl_machine_flush.E := ⟨⟨impl_machine_step.sound, callable_of (by kernel_rfl)⟩, ⟨impl_Device_flush.sound, callable_of (by kernel_rfl)⟩, trivial⟩
theorem impl_machine_flush.sound : Sound Tryz.prog 117 impl_machine_flush.s := by
  refine func_sound (f := impl_machine_flush.a) (G := impl_machine_flush.G) (fn := Tryz.f117) (body := bodyOf Tryz.prog 117) 1000 (by kernel_rfl) impl_machine_flush.E_ok Tryz.func117 (by kernel_rfl) (by kernel_rfl) (by kernel_rfl) (ptsOk_of (by kernel_rfl)) ?_ ?_ ?_ ?_
  · intro r H x h
    unfold impl_machine_flush.a at h
    simp only at h
    split at h
    · cases h; rfl
    · cases h
  · intro q avs H; rfl
  · intro k q pt avs H x _ h; cases h
  · intro k avs H o h
    try dsimp only at h
    split at h
    · cases h; exact impl_machine_flush.eq _ _ _ _ _ _
    · cases h

def impl_Device_fence.a : FnA (ByteArray × List (Int × ByteArray × ByteArray)) := ⟨49, [], .tup [], [.box [.val, .row 89 (.pair (.int .i64) (.pair .str .str))], .drop], [⟨6, [0, 2, 9, 10, 11], [.box [], .row 89 (.pair (.int .i64) (.pair .str .str)), .row 89 (.pair (.int .i64) (.pair .str .str)), .val, .val], [.box [.val, .row 89 (.pair (.int .i64) (.pair .str .str))], .drop]⟩, ⟨23, [0, 2, 4, 9, 10, 11], [.box [], .row 89 (.pair (.int .i64) (.pair .str .str)), .box [.val, .val, .val], .row 89 (.pair (.int .i64) (.pair .str .str)), .val, .val], [.box [.val, .row 89 (.pair (.int .i64) (.pair .str .str))], .drop]⟩], fun x H => match x, H with
  | .tup [], [.box [.v (.string h0_0), .own 2], .gone, .row 89 (.pair (.int .i64) (.pair .str .str)) h0_1] => some (h0_0, h0_1)
  | _, _ => none⟩
def impl_Device_fence.s : Spec := mkS [.box [.val, .row 89 (.pair (.int .i64) (.pair .str .str))]] (fun k avs H => match avs, H with
  | [.box 0 0], [.box [.v (.string a0_0), .own 1], .row 89 (.pair (.int .i64) (.pair .str .str)) a0_1] => some (impl_Device_fence.f k a0_0 a0_1)
  | _, _ => none) (fun r => (.tup [], [.box [.v (.string r.1), .own 2], .gone, .row 89 (.pair (.int .i64) (.pair .str .str)) r.2]))
def impl_Device_fence.E : Env := [((73, []), impl_replaced.s)]
def impl_Device_fence.G6 (k : Nat) (avs : List AV) (H : List HE) : Option (ByteArray × List (Int × ByteArray × ByteArray)) := match avs, H with
  | [.box 0 0, .own 3, .own 2, .v (.int .i64 x10), .v (.int .i64 x11)], [.box [.v (.string h0_0), .own 2], .gone, .row 89 (.pair (.int .i64) (.pair .str .str)) h0_1, .row 89 (.pair (.int .i64) (.pair .str .str)) x2] => impl_Device_fence.p6 k h0_0 h0_1 x2 x10 x11
  | _, _ => none
def impl_Device_fence.G23 (k : Nat) (avs : List AV) (H : List HE) : Option (ByteArray × List (Int × ByteArray × ByteArray)) := match avs, H with
  | [.box 0 0, .own 3, .box 4 0, .own 2, .v (.int .i64 x10), .v (.int .i64 x11)], [.box [.v (.string h0_0), .own 2], .gone, .row 89 (.pair (.int .i64) (.pair .str .str)) h0_1, .row 89 (.pair (.int .i64) (.pair .str .str)) x2, .box [.v (.int .i64 x4_0), .v (.string x4_1), .v (.string x4_2)]] => impl_Device_fence.p23 k h0_0 h0_1 x2 x4_0 x4_1 x4_2 x10 x11
  | _, _ => none
def impl_Device_fence.G (k p : Nat) (avs : List AV) (H : List HE) : Option (ByteArray × List (Int × ByteArray × ByteArray)) := (pick1 6 (impl_Device_fence.G6 k avs H) (pick1 23 (impl_Device_fence.G23 k avs H) none p) p)
set_option maxRecDepth 100000 in
theorem impl_Device_fence.eq (k : Nat) (a0_0 : ByteArray) (a0_1 : List (Int × ByteArray × ByteArray)) : fromTop Tryz.prog impl_Device_fence.E k impl_Device_fence.a (impl_Device_fence.G k) 1000 (bodyOf Tryz.prog 153) [.box 0 0] [.box [.v (.string a0_0), .own 1], .row 89 (.pair (.int .i64) (.pair .str .str)) a0_1] = impl_Device_fence.f k a0_0 a0_1 := by kernel_rfl
set_option maxRecDepth 100000 in
theorem impl_Device_fence.eq6 (k : Nat) (h0_0 : ByteArray) (h0_1 : List (Int × ByteArray × ByteArray)) (x2 : List (Int × ByteArray × ByteArray)) (x10 : Int) (x11 : Int) : fromPt Tryz.prog impl_Device_fence.E k impl_Device_fence.a (impl_Device_fence.G k) 1000 (bodyOf Tryz.prog 153) 6 [.box 0 0, .own 3, .own 2, .v (.int .i64 x10), .v (.int .i64 x11)] [.box [.v (.string h0_0), .own 2], .gone, .row 89 (.pair (.int .i64) (.pair .str .str)) h0_1, .row 89 (.pair (.int .i64) (.pair .str .str)) x2] = impl_Device_fence.p6 (k + 1) h0_0 h0_1 x2 x10 x11 := by kernel_rfl
theorem impl_Device_fence.G6_0 {avs : List AV} {H : List HE} : impl_Device_fence.G6 0 avs H = none := by unfold impl_Device_fence.G6; split <;> rfl
theorem impl_Device_fence.G6_s (k : Nat) {avs : List AV} {H : List HE} {x : ByteArray × List (Int × ByteArray × ByteArray)} (h : impl_Device_fence.G6 (k + 1) avs H = some x) : fromPt Tryz.prog impl_Device_fence.E k impl_Device_fence.a (impl_Device_fence.G k) 1000 (bodyOf Tryz.prog 153) 6 avs H = some x := by
  unfold impl_Device_fence.G6 at h
  split at h
  · rw [← h]; exact impl_Device_fence.eq6 _ _ _ _ _ _
  · cases h
set_option maxRecDepth 100000 in
theorem impl_Device_fence.eq23 (k : Nat) (h0_0 : ByteArray) (h0_1 : List (Int × ByteArray × ByteArray)) (x2 : List (Int × ByteArray × ByteArray)) (x4_0 : Int) (x4_1 : ByteArray) (x4_2 : ByteArray) (x10 : Int) (x11 : Int) : fromPt Tryz.prog impl_Device_fence.E k impl_Device_fence.a (impl_Device_fence.G k) 1000 (bodyOf Tryz.prog 153) 23 [.box 0 0, .own 3, .box 4 0, .own 2, .v (.int .i64 x10), .v (.int .i64 x11)] [.box [.v (.string h0_0), .own 2], .gone, .row 89 (.pair (.int .i64) (.pair .str .str)) h0_1, .row 89 (.pair (.int .i64) (.pair .str .str)) x2, .box [.v (.int .i64 x4_0), .v (.string x4_1), .v (.string x4_2)]] = impl_Device_fence.p23 (k + 1) h0_0 h0_1 x2 x4_0 x4_1 x4_2 x10 x11 := by kernel_rfl
theorem impl_Device_fence.G23_0 {avs : List AV} {H : List HE} : impl_Device_fence.G23 0 avs H = none := by unfold impl_Device_fence.G23; split <;> rfl
theorem impl_Device_fence.G23_s (k : Nat) {avs : List AV} {H : List HE} {x : ByteArray × List (Int × ByteArray × ByteArray)} (h : impl_Device_fence.G23 (k + 1) avs H = some x) : fromPt Tryz.prog impl_Device_fence.E k impl_Device_fence.a (impl_Device_fence.G k) 1000 (bodyOf Tryz.prog 153) 23 avs H = some x := by
  unfold impl_Device_fence.G23 at h
  split at h
  · rw [← h]; exact impl_Device_fence.eq23 _ _ _ _ _ _ _ _ _
  · cases h
theorem impl_Device_fence.E_ok : EnvOk Tryz.prog impl_Device_fence.E := ⟨⟨impl_replaced.sound, callable_of (by kernel_rfl)⟩, trivial⟩
theorem impl_Device_fence.sound : Sound Tryz.prog 153 impl_Device_fence.s := by
  refine func_sound (f := impl_Device_fence.a) (G := impl_Device_fence.G) (fn := Tryz.f153) (body := bodyOf Tryz.prog 153) 1000 (by kernel_rfl) impl_Device_fence.E_ok Tryz.func153 (by kernel_rfl) (by kernel_rfl) (by kernel_rfl) (ptsOk_of (by kernel_rfl)) ?_ ?_ ?_ ?_
  · intro r H x h
    unfold impl_Device_fence.a at h
    simp only at h
    split at h
    · cases h; rfl
    · cases h
  · exact fun q avs H => pick1_none impl_Device_fence.G6_0 (pick1_none impl_Device_fence.G23_0 (rfl))
  · intro k q pt avs H x _ h
    rcases pick1_some h with ⟨rfl, h⟩ | h
    · exact impl_Device_fence.G6_s _ h
    rcases pick1_some h with ⟨rfl, h⟩ | h
    · exact impl_Device_fence.G23_s _ h
    cases h
  · intro k avs H o h
    try dsimp only at h
    split at h
    · cases h; exact impl_Device_fence.eq _ _ _
    · cases h

def impl_machine_fence.a : FnA (ByteArray × List (Int × ByteArray × ByteArray) × Int × Int) := ⟨8, [], .tup [], [.box [.val, .row 89 (.pair (.int .i64) (.pair .str .str)), .val, .val], .drop], [], fun x H => match x, H with
  | .tup [], [.box [.v (.string h0_0), .own 2, .v (.int .i64 h0_2), .v (.int .i64 h0_3)], .gone, .row 89 (.pair (.int .i64) (.pair .str .str)) h0_1] => some (h0_0, h0_1, h0_2, h0_3)
  | _, _ => none⟩
def impl_machine_fence.s : Spec := mkS [.box [.val, .row 89 (.pair (.int .i64) (.pair .str .str)), .val, .val]] (fun k avs H => match avs, H with
  | [.box 0 0], [.box [.v (.string a0_0), .own 1, .v (.int .i64 a0_2), .v (.int .i64 a0_3)], .row 89 (.pair (.int .i64) (.pair .str .str)) a0_1] => some (impl_machine_fence.f k a0_0 a0_1 a0_2 a0_3)
  | _, _ => none) (fun r => (.tup [], [.box [.v (.string r.1), .own 2, .v (.int .i64 r.2.2.1), .v (.int .i64 r.2.2.2)], .gone, .row 89 (.pair (.int .i64) (.pair .str .str)) r.2.1]))
def impl_machine_fence.E : Env := [((145, []), impl_machine_step.s), ((153, []), impl_Device_fence.s)]
def impl_machine_fence.G (k p : Nat) (avs : List AV) (H : List HE) : Option (ByteArray × List (Int × ByteArray × ByteArray) × Int × Int) := none
set_option maxRecDepth 100000 in
theorem impl_machine_fence.eq (k : Nat) (a0_0 : ByteArray) (a0_1 : List (Int × ByteArray × ByteArray)) (a0_2 : Int) (a0_3 : Int) : fromTop Tryz.prog impl_machine_fence.E k impl_machine_fence.a (impl_machine_fence.G k) 1000 (bodyOf Tryz.prog 118) [.box 0 0] [.box [.v (.string a0_0), .own 1, .v (.int .i64 a0_2), .v (.int .i64 a0_3)], .row 89 (.pair (.int .i64) (.pair .str .str)) a0_1] = impl_machine_fence.f k a0_0 a0_1 a0_2 a0_3 := by kernel_rfl
theorem impl_machine_fence.E_ok : EnvOk Tryz.prog impl_machine_fence.E := ⟨⟨impl_machine_step.sound, callable_of (by kernel_rfl)⟩, ⟨impl_Device_fence.sound, callable_of (by kernel_rfl)⟩, trivial⟩
theorem impl_machine_fence.sound : Sound Tryz.prog 118 impl_machine_fence.s := by
  refine func_sound (f := impl_machine_fence.a) (G := impl_machine_fence.G) (fn := Tryz.f118) (body := bodyOf Tryz.prog 118) 1000 (by kernel_rfl) impl_machine_fence.E_ok Tryz.func118 (by kernel_rfl) (by kernel_rfl) (by kernel_rfl) (ptsOk_of (by kernel_rfl)) ?_ ?_ ?_ ?_
  · intro r H x h
    unfold impl_machine_fence.a at h
    simp only at h
    split at h
    · cases h; rfl
    · cases h
  · intro q avs H; rfl
  · intro k q pt avs H x _ h; cases h
  · intro k avs H o h
    try dsimp only at h
    split at h
    · cases h; exact impl_machine_fence.eq _ _ _ _ _
    · cases h

def impl_machine_sync.a : FnA (ByteArray × List (Int × ByteArray × ByteArray) × Int × Int) := ⟨16, [], .tup [], [.box [.val, .row 89 (.pair (.int .i64) (.pair .str .str)), .val, .val], .drop], [], fun x H => match x, H with
  | .tup [], [.box [.v (.string h0_0), .own 2, .v (.int .i64 h0_2), .v (.int .i64 h0_3)], .gone, .row 89 (.pair (.int .i64) (.pair .str .str)) h0_1] => some (h0_0, h0_1, h0_2, h0_3)
  | _, _ => none⟩
def impl_machine_sync.s : Spec := mkS [.box [.val, .row 89 (.pair (.int .i64) (.pair .str .str)), .val, .val], .val, .val] (fun k avs H => match avs, H with
  | [.box 0 0, .v (.int .i64 a1), .v (.string a2)], [.box [.v (.string a0_0), .own 1, .v (.int .i64 a0_2), .v (.int .i64 a0_3)], .row 89 (.pair (.int .i64) (.pair .str .str)) a0_1] => some (impl_machine_sync.f k a0_0 a0_1 a0_2 a0_3 a1 a2)
  | _, _ => none) (fun r => (.tup [], [.box [.v (.string r.1), .own 2, .v (.int .i64 r.2.2.1), .v (.int .i64 r.2.2.2)], .gone, .row 89 (.pair (.int .i64) (.pair .str .str)) r.2.1]))
def impl_machine_sync.E : Env := [((107, []), impl_machine_store.s), ((117, []), impl_machine_flush.s), ((118, []), impl_machine_fence.s)]
def impl_machine_sync.G (k p : Nat) (avs : List AV) (H : List HE) : Option (ByteArray × List (Int × ByteArray × ByteArray) × Int × Int) := none
set_option maxRecDepth 100000 in
theorem impl_machine_sync.eq (k : Nat) (a0_0 : ByteArray) (a0_1 : List (Int × ByteArray × ByteArray)) (a0_2 : Int) (a0_3 : Int) (a1 : Int) (a2 : ByteArray) : fromTop Tryz.prog impl_machine_sync.E k impl_machine_sync.a (impl_machine_sync.G k) 1000 (bodyOf Tryz.prog 119) [.box 0 0, .v (.int .i64 a1), .v (.string a2)] [.box [.v (.string a0_0), .own 1, .v (.int .i64 a0_2), .v (.int .i64 a0_3)], .row 89 (.pair (.int .i64) (.pair .str .str)) a0_1] = impl_machine_sync.f k a0_0 a0_1 a0_2 a0_3 a1 a2 := by kernel_rfl
theorem impl_machine_sync.E_ok : EnvOk Tryz.prog impl_machine_sync.E := ⟨⟨impl_machine_store.sound, callable_of (by kernel_rfl)⟩, ⟨impl_machine_flush.sound, callable_of (by kernel_rfl)⟩, ⟨impl_machine_fence.sound, callable_of (by kernel_rfl)⟩, trivial⟩
theorem impl_machine_sync.sound : Sound Tryz.prog 119 impl_machine_sync.s := by
  refine func_sound (f := impl_machine_sync.a) (G := impl_machine_sync.G) (fn := Tryz.f119) (body := bodyOf Tryz.prog 119) 1000 (by kernel_rfl) impl_machine_sync.E_ok Tryz.func119 (by kernel_rfl) (by kernel_rfl) (by kernel_rfl) (ptsOk_of (by kernel_rfl)) ?_ ?_ ?_ ?_
  · intro r H x h
    unfold impl_machine_sync.a at h
    simp only at h
    split at h
    · cases h; rfl
    · cases h
  · intro q avs H; rfl
  · intro k q pt avs H x _ h; cases h
  · intro k avs H o h
    try dsimp only at h
    split at h
    · cases h; exact impl_machine_sync.eq _ _ _ _ _ _ _
    · cases h

def impl_machine_note.a : FnA (ByteArray × List (Int × ByteArray × ByteArray) × Int × Int × Int) := ⟨52, [.tmp 6], .val, [.box [.val, .row 89 (.pair (.int .i64) (.pair .str .str)), .val, .val], .drop], [], fun x H => match x, H with
  | .v (.int .i64 r), [.box [.v (.string h0_0), .own 2, .v (.int .i64 h0_2), .v (.int .i64 h0_3)], .gone, .row 89 (.pair (.int .i64) (.pair .str .str)) h0_1] => some (h0_0, h0_1, h0_2, h0_3, r)
  | _, _ => none⟩
def impl_machine_note.s : Spec := mkS [.box [.val, .row 89 (.pair (.int .i64) (.pair .str .str)), .val, .val], .agg [.val, .val, .val, .con .str], .val] (fun k avs H => match avs, H with
  | [.box 0 0, .agg [.v (.int .i64 a1_0), .v (.int .i64 a1_1), .v (.int .i64 a1_2), .con .str a1_3], .v (.int .i64 a2)], [.box [.v (.string a0_0), .own 1, .v (.int .i64 a0_2), .v (.int .i64 a0_3)], .row 89 (.pair (.int .i64) (.pair .str .str)) a0_1] => some (impl_machine_note.f k a0_0 a0_1 a0_2 a0_3 a1_0 a1_1 a1_2 a1_3 a2)
  | _, _ => none) (fun r => (.v (.int .i64 r.2.2.2.2), [.box [.v (.string r.1), .own 2, .v (.int .i64 r.2.2.1), .v (.int .i64 r.2.2.2.1)], .gone, .row 89 (.pair (.int .i64) (.pair .str .str)) r.2.1]))
def impl_machine_note.E : Env := [((47, []), impl_loggedOn.s), ((70, [130]), slices_ContainsFunc_implRecord_at_impl_machine_note_1.s), ((72, []), impl_size_implRecord.s), ((131, []), impl_machine_seen.s), ((27, []), impl_Half.s), ((127, []), impl_RecordLine.s), ((119, []), impl_machine_sync.s)]
def impl_machine_note.G (k p : Nat) (avs : List AV) (H : List HE) : Option (ByteArray × List (Int × ByteArray × ByteArray) × Int × Int × Int) := none
set_option maxRecDepth 100000 in
theorem impl_machine_note.eq (k : Nat) (a0_0 : ByteArray) (a0_1 : List (Int × ByteArray × ByteArray)) (a0_2 : Int) (a0_3 : Int) (a1_0 : Int) (a1_1 : Int) (a1_2 : Int) (a1_3 : List ByteArray) (a2 : Int) : fromTop Tryz.prog impl_machine_note.E k impl_machine_note.a (impl_machine_note.G k) 1000 (bodyOf Tryz.prog 79) [.box 0 0, .agg [.v (.int .i64 a1_0), .v (.int .i64 a1_1), .v (.int .i64 a1_2), .con .str a1_3], .v (.int .i64 a2)] [.box [.v (.string a0_0), .own 1, .v (.int .i64 a0_2), .v (.int .i64 a0_3)], .row 89 (.pair (.int .i64) (.pair .str .str)) a0_1] = impl_machine_note.f k a0_0 a0_1 a0_2 a0_3 a1_0 a1_1 a1_2 a1_3 a2 := by kernel_rfl
theorem impl_machine_note.E_ok : EnvOk Tryz.prog impl_machine_note.E := ⟨⟨impl_loggedOn.sound, callable_of (by kernel_rfl)⟩, ⟨slices_ContainsFunc_implRecord_at_impl_machine_note_1.sound, callable_of (by kernel_rfl)⟩, ⟨impl_size_implRecord.sound, callable_of (by kernel_rfl)⟩, ⟨impl_machine_seen.sound, callable_of (by kernel_rfl)⟩, ⟨impl_Half.sound, callable_of (by kernel_rfl)⟩, ⟨impl_RecordLine.sound, callable_of (by kernel_rfl)⟩, ⟨impl_machine_sync.sound, callable_of (by kernel_rfl)⟩, trivial⟩
theorem impl_machine_note.sound : Sound Tryz.prog 79 impl_machine_note.s := by
  refine func_sound (f := impl_machine_note.a) (G := impl_machine_note.G) (fn := Tryz.f79) (body := bodyOf Tryz.prog 79) 1000 (by kernel_rfl) impl_machine_note.E_ok Tryz.func79 (by kernel_rfl) (by kernel_rfl) (by kernel_rfl) (ptsOk_of (by kernel_rfl)) ?_ ?_ ?_ ?_
  · intro r H x h
    unfold impl_machine_note.a at h
    simp only at h
    split at h
    · cases h; rfl
    · cases h
  · intro q avs H; rfl
  · intro k q pt avs H x _ h; cases h
  · intro k avs H o h
    try dsimp only at h
    split at h
    · cases h; exact impl_machine_note.eq _ _ _ _ _ _ _ _ _ _
    · cases h

def impl_answered.a : FnA (ByteArray × Int × Int × ByteArray × List (Int × ByteArray × ByteArray) × Int) := ⟨14, [.cell 4 29, .tmp 5], .tup [.agg [.val, .row 89 (.pair (.int .i64) (.pair .str .str))], .val], [.box [.val, .dead, .val, .val], .drop], [], fun x H => match x, H with
  | .tup [.agg [.v (.string r_0_0), .own 2], .v (.int .i64 r_1)], [.box [.v (.string h0_0), .dead, .v (.int .i64 h0_2), .v (.int .i64 h0_3)], .gone, .row 89 (.pair (.int .i64) (.pair .str .str)) r_0_1] => some (h0_0, h0_2, h0_3, r_0_0, r_0_1, r_1)
  | _, _ => none⟩
def impl_answered.s : Spec := mkS [.box [.val, .row 89 (.pair (.int .i64) (.pair .str .str)), .val, .val], .val] (fun k avs H => match avs, H with
  | [.box 0 0, .v (.int .i64 a1)], [.box [.v (.string a0_0), .own 1, .v (.int .i64 a0_2), .v (.int .i64 a0_3)], .row 89 (.pair (.int .i64) (.pair .str .str)) a0_1] => some (impl_answered.f a0_0 a0_1 a0_2 a0_3 a1)
  | _, _ => none) (fun r => (.tup [.agg [.v (.string r.2.2.2.1), .own 2], .v (.int .i64 r.2.2.2.2.2)], [.box [.v (.string r.1), .dead, .v (.int .i64 r.2.1), .v (.int .i64 r.2.2.1)], .gone, .row 89 (.pair (.int .i64) (.pair .str .str)) r.2.2.2.2.1]))
def impl_answered.E : Env := []
def impl_answered.G (k p : Nat) (avs : List AV) (H : List HE) : Option (ByteArray × Int × Int × ByteArray × List (Int × ByteArray × ByteArray) × Int) := none
set_option maxRecDepth 100000 in
theorem impl_answered.eq (k : Nat) (a0_0 : ByteArray) (a0_1 : List (Int × ByteArray × ByteArray)) (a0_2 : Int) (a0_3 : Int) (a1 : Int) : fromTop Tryz.prog impl_answered.E k impl_answered.a (impl_answered.G k) 1000 (bodyOf Tryz.prog 51) [.box 0 0, .v (.int .i64 a1)] [.box [.v (.string a0_0), .own 1, .v (.int .i64 a0_2), .v (.int .i64 a0_3)], .row 89 (.pair (.int .i64) (.pair .str .str)) a0_1] = impl_answered.f a0_0 a0_1 a0_2 a0_3 a1 := by kernel_rfl
theorem impl_answered.E_ok : EnvOk Tryz.prog impl_answered.E := trivial
theorem impl_answered.sound : Sound Tryz.prog 51 impl_answered.s := by
  refine func_sound (f := impl_answered.a) (G := impl_answered.G) (fn := Tryz.f51) (body := bodyOf Tryz.prog 51) 1000 (by kernel_rfl) impl_answered.E_ok Tryz.func51 (by kernel_rfl) (by kernel_rfl) (by kernel_rfl) (ptsOk_of (by kernel_rfl)) ?_ ?_ ?_ ?_
  · intro r H x h
    unfold impl_answered.a at h
    simp only at h
    split at h
    · cases h; rfl
    · cases h
  · intro q avs H; rfl
  · intro k q pt avs H x _ h; cases h
  · intro k avs H o h
    try dsimp only at h
    split at h
    · cases h; exact impl_answered.eq _ _ _ _ _ _
    · cases h

def impl_Noted.a : FnA (ByteArray × List (Int × ByteArray × ByteArray) × Int) := ⟨37, [.cell 6 29, .tmp 7], .tup [.agg [.val, .row 89 (.pair (.int .i64) (.pair .str .str))], .val], [], [], fun x H => match x, H with
  | .tup [.agg [.v (.string r_0_0), .own 0], .v (.int .i64 r_1)], [.row 89 (.pair (.int .i64) (.pair .str .str)) r_0_1] => some (r_0_0, r_0_1, r_1)
  | _, _ => none⟩
def impl_Noted.s : Spec := mkS [.agg [.val, .val, .val, .con .str], .agg [.val, .con (.pair (.int .i64) (.pair .str .str))], .val] (fun k avs H => match avs, H with
  | [.agg [.v (.int .i64 a0_0), .v (.int .i64 a0_1), .v (.int .i64 a0_2), .con .str a0_3], .agg [.v (.string a1_0), .con (.pair (.int .i64) (.pair .str .str)) a1_1], .v (.int .i64 a2)], [] => some (impl_Noted.f k a0_0 a0_1 a0_2 a0_3 a1_0 a1_1 a2)
  | _, _ => none) (fun r => (.tup [.agg [.v (.string r.1), .own 0], .v (.int .i64 r.2.2)], [.row 89 (.pair (.int .i64) (.pair .str .str)) r.2.1]))
def impl_Noted.E : Env := [((47, []), impl_loggedOn.s), ((48, []), impl_canLog.s), ((50, []), impl_newMachine.s), ((79, []), impl_machine_note.s), ((51, []), impl_answered.s)]
def impl_Noted.G (k p : Nat) (avs : List AV) (H : List HE) : Option (ByteArray × List (Int × ByteArray × ByteArray) × Int) := none
set_option maxRecDepth 100000 in
theorem impl_Noted.eq (k : Nat) (a0_0 : Int) (a0_1 : Int) (a0_2 : Int) (a0_3 : List ByteArray) (a1_0 : ByteArray) (a1_1 : List (Int × ByteArray × ByteArray)) (a2 : Int) : fromTop Tryz.prog impl_Noted.E k impl_Noted.a (impl_Noted.G k) 1000 (bodyOf Tryz.prog 25) [.agg [.v (.int .i64 a0_0), .v (.int .i64 a0_1), .v (.int .i64 a0_2), .con .str a0_3], .agg [.v (.string a1_0), .con (.pair (.int .i64) (.pair .str .str)) a1_1], .v (.int .i64 a2)] [] = impl_Noted.f k a0_0 a0_1 a0_2 a0_3 a1_0 a1_1 a2 := by kernel_rfl
theorem impl_Noted.E_ok : EnvOk Tryz.prog impl_Noted.E := ⟨⟨impl_loggedOn.sound, callable_of (by kernel_rfl)⟩, ⟨impl_canLog.sound, callable_of (by kernel_rfl)⟩, ⟨impl_newMachine.sound, callable_of (by kernel_rfl)⟩, ⟨impl_machine_note.sound, callable_of (by kernel_rfl)⟩, ⟨impl_answered.sound, callable_of (by kernel_rfl)⟩, trivial⟩
theorem impl_Noted.sound : Sound Tryz.prog 25 impl_Noted.s := by
  refine func_sound (f := impl_Noted.a) (G := impl_Noted.G) (fn := Tryz.f25) (body := bodyOf Tryz.prog 25) 1000 (by kernel_rfl) impl_Noted.E_ok Tryz.func25 (by kernel_rfl) (by kernel_rfl) (by kernel_rfl) (ptsOk_of (by kernel_rfl)) ?_ ?_ ?_ ?_
  · intro r H x h
    unfold impl_Noted.a at h
    simp only at h
    split at h
    · cases h; rfl
    · cases h
  · intro q avs H; rfl
  · intro k q pt avs H x _ h; cases h
  · intro k avs H o h
    try dsimp only at h
    split at h
    · cases h; exact impl_Noted.eq _ _ _ _ _ _ _ _
    · cases h

def spec_Noted.a : FnA (ByteArray × List (Int × ByteArray × ByteArray) × Int) := ⟨31, [.cell 6 29, .tmp 7], .tup [.agg [.val, .con (.pair (.int .i64) (.pair .str .str))], .val], [], [], fun x H => match x, H with
  | .tup [.agg [.v (.string r_0_0), .con (.pair (.int .i64) (.pair .str .str)) r_0_1], .v (.int .i64 r_1)], [] => some (r_0_0, r_0_1, r_1)
  | _, _ => none⟩
def spec_Noted.s : Spec := mkS [.agg [.val, .val, .val, .con .str], .agg [.val, .con (.pair (.int .i64) (.pair .str .str))], .val] (fun k avs H => match avs, H with
  | [.agg [.v (.int .i64 a0_0), .v (.int .i64 a0_1), .v (.int .i64 a0_2), .con .str a0_3], .agg [.v (.string a1_0), .con (.pair (.int .i64) (.pair .str .str)) a1_1], .v (.int .i64 a2)], [] => some (spec_Noted.f k a0_0 a0_1 a0_2 a0_3 a1_0 a1_1 a2)
  | _, _ => none) (fun r => (.tup [.agg [.v (.string r.1), .con (.pair (.int .i64) (.pair .str .str)) r.2.1], .v (.int .i64 r.2.2)], []))
def spec_Noted.E : Env := [((53, []), spec_l5Bad.s), ((55, []), spec_l5Half.s), ((56, []), spec_l2Copy.s), ((57, []), spec_l5W_note.s)]
def spec_Noted.G (k p : Nat) (avs : List AV) (H : List HE) : Option (ByteArray × List (Int × ByteArray × ByteArray) × Int) := none
set_option maxRecDepth 100000 in
theorem spec_Noted.eq (k : Nat) (a0_0 : Int) (a0_1 : Int) (a0_2 : Int) (a0_3 : List ByteArray) (a1_0 : ByteArray) (a1_1 : List (Int × ByteArray × ByteArray)) (a2 : Int) : fromTop Tryz.prog spec_Noted.E k spec_Noted.a (spec_Noted.G k) 1000 (bodyOf Tryz.prog 26) [.agg [.v (.int .i64 a0_0), .v (.int .i64 a0_1), .v (.int .i64 a0_2), .con .str a0_3], .agg [.v (.string a1_0), .con (.pair (.int .i64) (.pair .str .str)) a1_1], .v (.int .i64 a2)] [] = spec_Noted.f k a0_0 a0_1 a0_2 a0_3 a1_0 a1_1 a2 := by kernel_rfl
theorem spec_Noted.E_ok : EnvOk Tryz.prog spec_Noted.E := ⟨⟨spec_l5Bad.sound, callable_of (by kernel_rfl)⟩, ⟨spec_l5Half.sound, callable_of (by kernel_rfl)⟩, ⟨spec_l2Copy.sound, callable_of (by kernel_rfl)⟩, ⟨spec_l5W_note.sound, callable_of (by kernel_rfl)⟩, trivial⟩
theorem spec_Noted.sound : Sound Tryz.prog 26 spec_Noted.s := by
  refine func_sound (f := spec_Noted.a) (G := spec_Noted.G) (fn := Tryz.f26) (body := bodyOf Tryz.prog 26) 1000 (by kernel_rfl) spec_Noted.E_ok Tryz.func26 (by kernel_rfl) (by kernel_rfl) (by kernel_rfl) (ptsOk_of (by kernel_rfl)) ?_ ?_ ?_ ?_
  · intro r H x h
    unfold spec_Noted.a at h
    simp only at h
    split at h
    · cases h; rfl
    · cases h
  · intro q avs H; rfl
  · intro k q pt avs H x _ h; cases h
  · intro k avs H o h
    try dsimp only at h
    split at h
    · cases h; exact spec_Noted.eq _ _ _ _ _ _ _ _
    · cases h

def laws_sameDev.a : FnA (Bool) := ⟨38, [.tmp 4], .bool, [], [⟨14, [2, 3, 5], [.box [.val, .con (.pair (.int .i64) (.pair .str .str))], .box [.val, .con (.pair (.int .i64) (.pair .str .str))], .val], []⟩], fun x H => match x, H with
  | .bs false r, [] => some r
  | _, _ => none⟩
def laws_sameDev.s : Spec := mkS [.agg [.val, .con (.pair (.int .i64) (.pair .str .str))], .agg [.val, .con (.pair (.int .i64) (.pair .str .str))]] (fun k avs H => match avs, H with
  | [.agg [.v (.string a0_0), .con (.pair (.int .i64) (.pair .str .str)) a0_1], .agg [.v (.string a1_0), .con (.pair (.int .i64) (.pair .str .str)) a1_1]], [] => some (laws_sameDev.f k a0_0 a0_1 a1_0 a1_1)
  | _, _ => none) (fun r => (.bs false r, []))
def laws_sameDev.E : Env := []
def laws_sameDev.G14 (k : Nat) (avs : List AV) (H : List HE) : Option (Bool) := match avs, H with
  | [.box 0 0, .box 1 0, .v (.int .i64 x5)], [.box [.v (.string x2_0), .con (.pair (.int .i64) (.pair .str .str)) x2_1], .box [.v (.string x3_0), .con (.pair (.int .i64) (.pair .str .str)) x3_1]] => laws_sameDev.p14 k x2_0 x2_1 x3_0 x3_1 x5
  | _, _ => none
def laws_sameDev.G (k p : Nat) (avs : List AV) (H : List HE) : Option (Bool) := (pick1 14 (laws_sameDev.G14 k avs H) none p)
set_option maxRecDepth 100000 in
theorem laws_sameDev.eq (k : Nat) (a0_0 : ByteArray) (a0_1 : List (Int × ByteArray × ByteArray)) (a1_0 : ByteArray) (a1_1 : List (Int × ByteArray × ByteArray)) : fromTop Tryz.prog laws_sameDev.E k laws_sameDev.a (laws_sameDev.G k) 1000 (bodyOf Tryz.prog 11) [.agg [.v (.string a0_0), .con (.pair (.int .i64) (.pair .str .str)) a0_1], .agg [.v (.string a1_0), .con (.pair (.int .i64) (.pair .str .str)) a1_1]] [] = laws_sameDev.f k a0_0 a0_1 a1_0 a1_1 := by kernel_rfl
set_option maxRecDepth 100000 in
theorem laws_sameDev.eq14 (k : Nat) (x2_0 : ByteArray) (x2_1 : List (Int × ByteArray × ByteArray)) (x3_0 : ByteArray) (x3_1 : List (Int × ByteArray × ByteArray)) (x5 : Int) : fromPt Tryz.prog laws_sameDev.E k laws_sameDev.a (laws_sameDev.G k) 1000 (bodyOf Tryz.prog 11) 14 [.box 0 0, .box 1 0, .v (.int .i64 x5)] [.box [.v (.string x2_0), .con (.pair (.int .i64) (.pair .str .str)) x2_1], .box [.v (.string x3_0), .con (.pair (.int .i64) (.pair .str .str)) x3_1]] = laws_sameDev.p14 (k + 1) x2_0 x2_1 x3_0 x3_1 x5 := by kernel_rfl
theorem laws_sameDev.G14_0 {avs : List AV} {H : List HE} : laws_sameDev.G14 0 avs H = none := by unfold laws_sameDev.G14; split <;> rfl
theorem laws_sameDev.G14_s (k : Nat) {avs : List AV} {H : List HE} {x : Bool} (h : laws_sameDev.G14 (k + 1) avs H = some x) : fromPt Tryz.prog laws_sameDev.E k laws_sameDev.a (laws_sameDev.G k) 1000 (bodyOf Tryz.prog 11) 14 avs H = some x := by
  unfold laws_sameDev.G14 at h
  split at h
  · rw [← h]; exact laws_sameDev.eq14 _ _ _ _ _ _
  · cases h
theorem laws_sameDev.E_ok : EnvOk Tryz.prog laws_sameDev.E := trivial
theorem laws_sameDev.sound : Sound Tryz.prog 11 laws_sameDev.s := by
  refine func_sound (f := laws_sameDev.a) (G := laws_sameDev.G) (fn := Tryz.f11) (body := bodyOf Tryz.prog 11) 1000 (by kernel_rfl) laws_sameDev.E_ok Tryz.func11 (by kernel_rfl) (by kernel_rfl) (by kernel_rfl) (ptsOk_of (by kernel_rfl)) ?_ ?_ ?_ ?_
  · intro r H x h
    unfold laws_sameDev.a at h
    simp only at h
    split at h
    · cases h; rfl
    · cases h
  · exact fun q avs H => pick1_none laws_sameDev.G14_0 (rfl)
  · intro k q pt avs H x _ h
    rcases pick1_some h with ⟨rfl, h⟩ | h
    · exact laws_sameDev.G14_s _ h
    cases h
  · intro k avs H o h
    try dsimp only at h
    split at h
    · cases h; exact laws_sameDev.eq _ _ _ _ _
    · cases h

def impl_Seen.a : FnA (ByteArray) := ⟨8, [.tmp 2], .val, [], [], fun x H => match x, H with
  | .v (.string r), [] => some r
  | _, _ => none⟩
def impl_Seen.s : Spec := mkS [.agg [.val, .con (.pair (.int .i64) (.pair .str .str))]] (fun k avs H => match avs, H with
  | [.agg [.v (.string a0_0), .con (.pair (.int .i64) (.pair .str .str)) a0_1]], [] => some (impl_Seen.f k a0_0 a0_1)
  | _, _ => none) (fun r => (.v (.string r), []))
def impl_Seen.E : Env := [((61, []), impl_DeviceOk.s), ((62, []), _impl_Device_seen.s)]
def impl_Seen.G (k p : Nat) (avs : List AV) (H : List HE) : Option (ByteArray) := none
set_option maxRecDepth 100000 in
theorem impl_Seen.eq (k : Nat) (a0_0 : ByteArray) (a0_1 : List (Int × ByteArray × ByteArray)) : fromTop Tryz.prog impl_Seen.E k impl_Seen.a (impl_Seen.G k) 1000 (bodyOf Tryz.prog 14) [.agg [.v (.string a0_0), .con (.pair (.int .i64) (.pair .str .str)) a0_1]] [] = impl_Seen.f k a0_0 a0_1 := by kernel_rfl
theorem impl_Seen.E_ok : EnvOk Tryz.prog impl_Seen.E := ⟨⟨impl_DeviceOk.sound, callable_of (by kernel_rfl)⟩, ⟨_impl_Device_seen.sound, callable_of (by kernel_rfl)⟩, trivial⟩
theorem impl_Seen.sound : Sound Tryz.prog 14 impl_Seen.s := by
  refine func_sound (f := impl_Seen.a) (G := impl_Seen.G) (fn := Tryz.f14) (body := bodyOf Tryz.prog 14) 1000 (by kernel_rfl) impl_Seen.E_ok Tryz.func14 (by kernel_rfl) (by kernel_rfl) (by kernel_rfl) (ptsOk_of (by kernel_rfl)) ?_ ?_ ?_ ?_
  · intro r H x h
    unfold impl_Seen.a at h
    simp only at h
    split at h
    · cases h; rfl
    · cases h
  · intro q avs H; rfl
  · intro k q pt avs H x _ h; cases h
  · intro k avs H o h
    try dsimp only at h
    split at h
    · cases h; exact impl_Seen.eq _ _ _
    · cases h

def laws_data.a : FnA (ByteArray) := ⟨20, [.tmp 4], .val, [], [], fun x H => match x, H with
  | .v (.string r), [] => some r
  | _, _ => none⟩
def laws_data.s : Spec := mkS [.agg [.val, .val, .val, .con .str], .val] (fun k avs H => match avs, H with
  | [.agg [.v (.int .i64 a0_0), .v (.int .i64 a0_1), .v (.int .i64 a0_2), .con .str a0_3], .v (.string a1)], [] => some (laws_data.f a0_0 a0_1 a0_2 a0_3 a1)
  | _, _ => none) (fun r => (.v (.string r), []))
def laws_data.E : Env := []
def laws_data.G (k p : Nat) (avs : List AV) (H : List HE) : Option (ByteArray) := none
set_option maxRecDepth 100000 in
theorem laws_data.eq (k : Nat) (a0_0 : Int) (a0_1 : Int) (a0_2 : Int) (a0_3 : List ByteArray) (a1 : ByteArray) : fromTop Tryz.prog laws_data.E k laws_data.a (laws_data.G k) 1000 (bodyOf Tryz.prog 13) [.agg [.v (.int .i64 a0_0), .v (.int .i64 a0_1), .v (.int .i64 a0_2), .con .str a0_3], .v (.string a1)] [] = laws_data.f a0_0 a0_1 a0_2 a0_3 a1 := by kernel_rfl
theorem laws_data.E_ok : EnvOk Tryz.prog laws_data.E := trivial
theorem laws_data.sound : Sound Tryz.prog 13 laws_data.s := by
  refine func_sound (f := laws_data.a) (G := laws_data.G) (fn := Tryz.f13) (body := bodyOf Tryz.prog 13) 1000 (by kernel_rfl) laws_data.E_ok Tryz.func13 (by kernel_rfl) (by kernel_rfl) (by kernel_rfl) (ptsOk_of (by kernel_rfl)) ?_ ?_ ?_ ?_
  · intro r H x h
    unfold laws_data.a at h
    simp only at h
    split at h
    · cases h; rfl
    · cases h
  · intro q avs H; rfl
  · intro k q pt avs H x _ h; cases h
  · intro k avs H o h
    try dsimp only at h
    split at h
    · cases h; exact laws_data.eq _ _ _ _ _ _
    · cases h

def laws_FnNoted.a : FnA (Bool) := ⟨169, [.tmp 2], .bool, [], [⟨19, [3, 4, 5, 6, 7, 8, 9, 53], [.box [.val, .val, .val, .con .str], .box [.val, .con (.pair (.int .i64) (.pair .str .str))], .val, .box [.val, .row 89 (.pair (.int .i64) (.pair .str .str))], .val, .box [.val, .con (.pair (.int .i64) (.pair .str .str))], .val, .bool], []⟩, ⟨34, [3, 4, 5, 6, 10, 12, 13, 14, 15], [.box [.val, .val, .val, .con .str], .box [.val, .con (.pair (.int .i64) (.pair .str .str))], .val, .box [.val, .row 89 (.pair (.int .i64) (.pair .str .str))], .row 51 (.pair (.int .i64) (.pair (.int .i64) (.pair (.int .i64) .str))), .row 51 (.pair (.int .i64) (.pair (.int .i64) (.pair (.int .i64) .str))), .bool, .val, .val], []⟩, ⟨51, [3, 4, 5, 6, 10, 12, 13, 14, 16], [.box [.val, .val, .val, .con .str], .box [.val, .con (.pair (.int .i64) (.pair .str .str))], .val, .box [.val, .row 89 (.pair (.int .i64) (.pair .str .str))], .row 51 (.pair (.int .i64) (.pair (.int .i64) (.pair (.int .i64) .str))), .row 51 (.pair (.int .i64) (.pair (.int .i64) (.pair (.int .i64) .str))), .bool, .val, .bool], []⟩], fun x H => match x, H with
  | .bs false r, [] => some r
  | _, _ => none⟩
def laws_FnNoted.s : Spec := mkS [.con (.int .u8)] (fun k avs H => match avs, H with
  | [.con (.int .u8) a0], [] => some (laws_FnNoted.f k a0)
  | _, _ => none) (fun r => (.bs false r, []))
def laws_FnNoted.E : Env := [((7, []), laws_big.s), ((24, []), spec_DrawNoted.s), ((25, []), impl_Noted.s), ((26, []), spec_Noted.s), ((11, []), laws_sameDev.s), ((12, []), spec_Seen.s), ((27, []), impl_Half.s), ((18, []), spec_LogOf.s), ((14, []), impl_Seen.s), ((19, []), impl_LogOf.s), ((13, []), laws_data.s)]
def laws_FnNoted.G19 (k : Nat) (avs : List AV) (H : List HE) : Option (Bool) := match avs, H with
  | [.box 0 0, .box 1 0, .v (.int .i64 x5), .box 2 0, .v (.int .i64 x7), .box 4 0, .v (.int .i64 x9), .bs false x53], [.box [.v (.int .i64 x3_0), .v (.int .i64 x3_1), .v (.int .i64 x3_2), .con .str x3_3], .box [.v (.string x4_0), .con (.pair (.int .i64) (.pair .str .str)) x4_1], .box [.v (.string x6_0), .own 3], .row 89 (.pair (.int .i64) (.pair .str .str)) x6_1, .box [.v (.string x8_0), .con (.pair (.int .i64) (.pair .str .str)) x8_1]] => laws_FnNoted.p19 k x3_0 x3_1 x3_2 x3_3 x4_0 x4_1 x5 x6_0 x6_1 x7 x8_0 x8_1 x9 x53
  | _, _ => none
def laws_FnNoted.G34 (k : Nat) (avs : List AV) (H : List HE) : Option (Bool) := match avs, H with
  | [.box 0 0, .box 1 0, .v (.int .i64 x5), .box 2 0, .own 4, .own 5, .bs false x13, .v (.int .i64 x14), .v (.int .i64 x15)], [.box [.v (.int .i64 x3_0), .v (.int .i64 x3_1), .v (.int .i64 x3_2), .con .str x3_3], .box [.v (.string x4_0), .con (.pair (.int .i64) (.pair .str .str)) x4_1], .box [.v (.string x6_0), .own 3], .row 89 (.pair (.int .i64) (.pair .str .str)) x6_1, .row 51 (.pair (.int .i64) (.pair (.int .i64) (.pair (.int .i64) .str))) x10, .row 51 (.pair (.int .i64) (.pair (.int .i64) (.pair (.int .i64) .str))) x12] => laws_FnNoted.p34 k x3_0 x3_1 x3_2 x3_3 x4_0 x4_1 x5 x6_0 x6_1 x10 x12 x13 x14 x15
  | _, _ => none
def laws_FnNoted.G51 (k : Nat) (avs : List AV) (H : List HE) : Option (Bool) := match avs, H with
  | [.box 0 0, .box 1 0, .v (.int .i64 x5), .box 2 0, .own 4, .own 5, .bs false x13, .v (.int .i64 x14), .bs false x16], [.box [.v (.int .i64 x3_0), .v (.int .i64 x3_1), .v (.int .i64 x3_2), .con .str x3_3], .box [.v (.string x4_0), .con (.pair (.int .i64) (.pair .str .str)) x4_1], .box [.v (.string x6_0), .own 3], .row 89 (.pair (.int .i64) (.pair .str .str)) x6_1, .row 51 (.pair (.int .i64) (.pair (.int .i64) (.pair (.int .i64) .str))) x10, .row 51 (.pair (.int .i64) (.pair (.int .i64) (.pair (.int .i64) .str))) x12] => laws_FnNoted.p51 k x3_0 x3_1 x3_2 x3_3 x4_0 x4_1 x5 x6_0 x6_1 x10 x12 x13 x14 x16
  | _, _ => none
def laws_FnNoted.G (k p : Nat) (avs : List AV) (H : List HE) : Option (Bool) := (pick1 19 (laws_FnNoted.G19 k avs H) (pick1 34 (laws_FnNoted.G34 k avs H) (pick1 51 (laws_FnNoted.G51 k avs H) none p) p) p)
set_option maxRecDepth 100000 in
theorem laws_FnNoted.eq (k : Nat) (a0 : List Int) : fromTop Tryz.prog laws_FnNoted.E k laws_FnNoted.a (laws_FnNoted.G k) 1000 (bodyOf Tryz.prog 5) [.con (.int .u8) a0] [] = laws_FnNoted.f k a0 := by kernel_rfl
set_option maxRecDepth 100000 in
theorem laws_FnNoted.eq19 (k : Nat) (x3_0 : Int) (x3_1 : Int) (x3_2 : Int) (x3_3 : List ByteArray) (x4_0 : ByteArray) (x4_1 : List (Int × ByteArray × ByteArray)) (x5 : Int) (x6_0 : ByteArray) (x6_1 : List (Int × ByteArray × ByteArray)) (x7 : Int) (x8_0 : ByteArray) (x8_1 : List (Int × ByteArray × ByteArray)) (x9 : Int) (x53 : Bool) : fromPt Tryz.prog laws_FnNoted.E k laws_FnNoted.a (laws_FnNoted.G k) 1000 (bodyOf Tryz.prog 5) 19 [.box 0 0, .box 1 0, .v (.int .i64 x5), .box 2 0, .v (.int .i64 x7), .box 4 0, .v (.int .i64 x9), .bs false x53] [.box [.v (.int .i64 x3_0), .v (.int .i64 x3_1), .v (.int .i64 x3_2), .con .str x3_3], .box [.v (.string x4_0), .con (.pair (.int .i64) (.pair .str .str)) x4_1], .box [.v (.string x6_0), .own 3], .row 89 (.pair (.int .i64) (.pair .str .str)) x6_1, .box [.v (.string x8_0), .con (.pair (.int .i64) (.pair .str .str)) x8_1]] = laws_FnNoted.p19 (k + 1) x3_0 x3_1 x3_2 x3_3 x4_0 x4_1 x5 x6_0 x6_1 x7 x8_0 x8_1 x9 x53 := by kernel_rfl
theorem laws_FnNoted.G19_0 {avs : List AV} {H : List HE} : laws_FnNoted.G19 0 avs H = none := by unfold laws_FnNoted.G19; split <;> rfl
theorem laws_FnNoted.G19_s (k : Nat) {avs : List AV} {H : List HE} {x : Bool} (h : laws_FnNoted.G19 (k + 1) avs H = some x) : fromPt Tryz.prog laws_FnNoted.E k laws_FnNoted.a (laws_FnNoted.G k) 1000 (bodyOf Tryz.prog 5) 19 avs H = some x := by
  unfold laws_FnNoted.G19 at h
  split at h
  · rw [← h]; exact laws_FnNoted.eq19 _ _ _ _ _ _ _ _ _ _ _ _ _ _ _
  · cases h
set_option maxRecDepth 100000 in
theorem laws_FnNoted.eq34 (k : Nat) (x3_0 : Int) (x3_1 : Int) (x3_2 : Int) (x3_3 : List ByteArray) (x4_0 : ByteArray) (x4_1 : List (Int × ByteArray × ByteArray)) (x5 : Int) (x6_0 : ByteArray) (x6_1 : List (Int × ByteArray × ByteArray)) (x10 : List (Int × Int × Int × ByteArray)) (x12 : List (Int × Int × Int × ByteArray)) (x13 : Bool) (x14 : Int) (x15 : Int) : fromPt Tryz.prog laws_FnNoted.E k laws_FnNoted.a (laws_FnNoted.G k) 1000 (bodyOf Tryz.prog 5) 34 [.box 0 0, .box 1 0, .v (.int .i64 x5), .box 2 0, .own 4, .own 5, .bs false x13, .v (.int .i64 x14), .v (.int .i64 x15)] [.box [.v (.int .i64 x3_0), .v (.int .i64 x3_1), .v (.int .i64 x3_2), .con .str x3_3], .box [.v (.string x4_0), .con (.pair (.int .i64) (.pair .str .str)) x4_1], .box [.v (.string x6_0), .own 3], .row 89 (.pair (.int .i64) (.pair .str .str)) x6_1, .row 51 (.pair (.int .i64) (.pair (.int .i64) (.pair (.int .i64) .str))) x10, .row 51 (.pair (.int .i64) (.pair (.int .i64) (.pair (.int .i64) .str))) x12] = laws_FnNoted.p34 (k + 1) x3_0 x3_1 x3_2 x3_3 x4_0 x4_1 x5 x6_0 x6_1 x10 x12 x13 x14 x15 := by kernel_rfl
theorem laws_FnNoted.G34_0 {avs : List AV} {H : List HE} : laws_FnNoted.G34 0 avs H = none := by unfold laws_FnNoted.G34; split <;> rfl
theorem laws_FnNoted.G34_s (k : Nat) {avs : List AV} {H : List HE} {x : Bool} (h : laws_FnNoted.G34 (k + 1) avs H = some x) : fromPt Tryz.prog laws_FnNoted.E k laws_FnNoted.a (laws_FnNoted.G k) 1000 (bodyOf Tryz.prog 5) 34 avs H = some x := by
  unfold laws_FnNoted.G34 at h
  split at h
  · rw [← h]; exact laws_FnNoted.eq34 _ _ _ _ _ _ _ _ _ _ _ _ _ _ _
  · cases h
set_option maxRecDepth 100000 in
theorem laws_FnNoted.eq51 (k : Nat) (x3_0 : Int) (x3_1 : Int) (x3_2 : Int) (x3_3 : List ByteArray) (x4_0 : ByteArray) (x4_1 : List (Int × ByteArray × ByteArray)) (x5 : Int) (x6_0 : ByteArray) (x6_1 : List (Int × ByteArray × ByteArray)) (x10 : List (Int × Int × Int × ByteArray)) (x12 : List (Int × Int × Int × ByteArray)) (x13 : Bool) (x14 : Int) (x16 : Bool) : fromPt Tryz.prog laws_FnNoted.E k laws_FnNoted.a (laws_FnNoted.G k) 1000 (bodyOf Tryz.prog 5) 51 [.box 0 0, .box 1 0, .v (.int .i64 x5), .box 2 0, .own 4, .own 5, .bs false x13, .v (.int .i64 x14), .bs false x16] [.box [.v (.int .i64 x3_0), .v (.int .i64 x3_1), .v (.int .i64 x3_2), .con .str x3_3], .box [.v (.string x4_0), .con (.pair (.int .i64) (.pair .str .str)) x4_1], .box [.v (.string x6_0), .own 3], .row 89 (.pair (.int .i64) (.pair .str .str)) x6_1, .row 51 (.pair (.int .i64) (.pair (.int .i64) (.pair (.int .i64) .str))) x10, .row 51 (.pair (.int .i64) (.pair (.int .i64) (.pair (.int .i64) .str))) x12] = laws_FnNoted.p51 (k + 1) x3_0 x3_1 x3_2 x3_3 x4_0 x4_1 x5 x6_0 x6_1 x10 x12 x13 x14 x16 := by kernel_rfl
theorem laws_FnNoted.G51_0 {avs : List AV} {H : List HE} : laws_FnNoted.G51 0 avs H = none := by unfold laws_FnNoted.G51; split <;> rfl
theorem laws_FnNoted.G51_s (k : Nat) {avs : List AV} {H : List HE} {x : Bool} (h : laws_FnNoted.G51 (k + 1) avs H = some x) : fromPt Tryz.prog laws_FnNoted.E k laws_FnNoted.a (laws_FnNoted.G k) 1000 (bodyOf Tryz.prog 5) 51 avs H = some x := by
  unfold laws_FnNoted.G51 at h
  split at h
  · rw [← h]; exact laws_FnNoted.eq51 _ _ _ _ _ _ _ _ _ _ _ _ _ _ _
  · cases h
theorem laws_FnNoted.E_ok : EnvOk Tryz.prog laws_FnNoted.E := ⟨⟨laws_big.sound, callable_of (by kernel_rfl)⟩, ⟨spec_DrawNoted.sound, callable_of (by kernel_rfl)⟩, ⟨impl_Noted.sound, callable_of (by kernel_rfl)⟩, ⟨spec_Noted.sound, callable_of (by kernel_rfl)⟩, ⟨laws_sameDev.sound, callable_of (by kernel_rfl)⟩, ⟨spec_Seen.sound, callable_of (by kernel_rfl)⟩, ⟨impl_Half.sound, callable_of (by kernel_rfl)⟩, ⟨spec_LogOf.sound, callable_of (by kernel_rfl)⟩, ⟨impl_Seen.sound, callable_of (by kernel_rfl)⟩, ⟨impl_LogOf.sound, callable_of (by kernel_rfl)⟩, ⟨laws_data.sound, callable_of (by kernel_rfl)⟩, trivial⟩
theorem laws_FnNoted.sound : Sound Tryz.prog 5 laws_FnNoted.s := by
  refine func_sound (f := laws_FnNoted.a) (G := laws_FnNoted.G) (fn := Tryz.f5) (body := bodyOf Tryz.prog 5) 1000 (by kernel_rfl) laws_FnNoted.E_ok Tryz.func5 (by kernel_rfl) (by kernel_rfl) (by kernel_rfl) (ptsOk_of (by kernel_rfl)) ?_ ?_ ?_ ?_
  · intro r H x h
    unfold laws_FnNoted.a at h
    simp only at h
    split at h
    · cases h; rfl
    · cases h
  · exact fun q avs H => pick1_none laws_FnNoted.G19_0 (pick1_none laws_FnNoted.G34_0 (pick1_none laws_FnNoted.G51_0 (rfl)))
  · intro k q pt avs H x _ h
    rcases pick1_some h with ⟨rfl, h⟩ | h
    · exact laws_FnNoted.G19_s _ h
    rcases pick1_some h with ⟨rfl, h⟩ | h
    · exact laws_FnNoted.G34_s _ h
    rcases pick1_some h with ⟨rfl, h⟩ | h
    · exact laws_FnNoted.G51_s _ h
    cases h
  · intro k avs H o h
    try dsimp only at h
    split at h
    · cases h; exact laws_FnNoted.eq _ _
    · cases h

def impl_Crash.a : FnA (ByteArray) := ⟨65, [.cell 4 29], .agg [.val, .val], [], [⟨16, [1, 4, 5, 16, 17, 18], [.con (.int .i64), .box [.val, .val], .box [.val, .val], .con (.pair (.int .i64) (.pair .str .str)), .val, .val], []⟩, ⟨38, [1, 4, 5, 7, 16, 17, 18, 43], [.con (.int .i64), .box [.val, .val], .box [.val, .val], .box [.val, .val, .val], .con (.pair (.int .i64) (.pair .str .str)), .val, .val, .bool], []⟩], fun x H => match x, H with
  | .agg [.v (.string r_0), .v (.slice none 0 0)], [] => some r_0
  | _, _ => none⟩
def impl_Crash.s : Spec := mkS [.agg [.val, .con (.pair (.int .i64) (.pair .str .str))], .con (.int .i64)] (fun k avs H => match avs, H with
  | [.agg [.v (.string a0_0), .con (.pair (.int .i64) (.pair .str .str)) a0_1], .con (.int .i64) a1], [] => some (impl_Crash.f k a0_0 a0_1 a1)
  | _, _ => none) (fun r => (.agg [.v (.string r), .v (.slice none 0 0)], []))
def impl_Crash.E : Env := [((61, []), impl_DeviceOk.s), ((73, []), impl_replaced.s)]
def impl_Crash.G16 (k : Nat) (avs : List AV) (H : List HE) : Option (ByteArray) := match avs, H with
  | [.con (.int .i64) x1, .box 0 0, .box 1 0, .con (.pair (.int .i64) (.pair .str .str)) x16, .v (.int .i64 x17), .v (.int .i64 x18)], [.box [.v (.string x4_0), .v (.slice none 0 0)], .box [.v (.string x5_0), .v (.slice none 0 0)]] => impl_Crash.p16 k x1 x4_0 x5_0 x16 x17 x18
  | _, _ => none
def impl_Crash.G38 (k : Nat) (avs : List AV) (H : List HE) : Option (ByteArray) := match avs, H with
  | [.con (.int .i64) x1, .box 0 0, .box 1 0, .box 2 0, .con (.pair (.int .i64) (.pair .str .str)) x16, .v (.int .i64 x17), .v (.int .i64 x18), .bs false x43], [.box [.v (.string x4_0), .v (.slice none 0 0)], .box [.v (.string x5_0), .v (.slice none 0 0)], .box [.v (.int .i64 x7_0), .v (.string x7_1), .v (.string x7_2)]] => impl_Crash.p38 k x1 x4_0 x5_0 x7_0 x7_1 x7_2 x16 x17 x18 x43
  | _, _ => none
def impl_Crash.G (k p : Nat) (avs : List AV) (H : List HE) : Option (ByteArray) := (pick1 16 (impl_Crash.G16 k avs H) (pick1 38 (impl_Crash.G38 k avs H) none p) p)
set_option maxRecDepth 100000 in
theorem impl_Crash.eq (k : Nat) (a0_0 : ByteArray) (a0_1 : List (Int × ByteArray × ByteArray)) (a1 : List Int) : fromTop Tryz.prog impl_Crash.E k impl_Crash.a (impl_Crash.G k) 1000 (bodyOf Tryz.prog 20) [.agg [.v (.string a0_0), .con (.pair (.int .i64) (.pair .str .str)) a0_1], .con (.int .i64) a1] [] = impl_Crash.f k a0_0 a0_1 a1 := by kernel_rfl
set_option maxRecDepth 100000 in
theorem impl_Crash.eq16 (k : Nat) (x1 : List Int) (x4_0 : ByteArray) (x5_0 : ByteArray) (x16 : List (Int × ByteArray × ByteArray)) (x17 : Int) (x18 : Int) : fromPt Tryz.prog impl_Crash.E k impl_Crash.a (impl_Crash.G k) 1000 (bodyOf Tryz.prog 20) 16 [.con (.int .i64) x1, .box 0 0, .box 1 0, .con (.pair (.int .i64) (.pair .str .str)) x16, .v (.int .i64 x17), .v (.int .i64 x18)] [.box [.v (.string x4_0), .v (.slice none 0 0)], .box [.v (.string x5_0), .v (.slice none 0 0)]] = impl_Crash.p16 (k + 1) x1 x4_0 x5_0 x16 x17 x18 := by kernel_rfl
theorem impl_Crash.G16_0 {avs : List AV} {H : List HE} : impl_Crash.G16 0 avs H = none := by unfold impl_Crash.G16; split <;> rfl
theorem impl_Crash.G16_s (k : Nat) {avs : List AV} {H : List HE} {x : ByteArray} (h : impl_Crash.G16 (k + 1) avs H = some x) : fromPt Tryz.prog impl_Crash.E k impl_Crash.a (impl_Crash.G k) 1000 (bodyOf Tryz.prog 20) 16 avs H = some x := by
  unfold impl_Crash.G16 at h
  split at h
  · rw [← h]; exact impl_Crash.eq16 _ _ _ _ _ _ _
  · cases h
set_option maxRecDepth 100000 in
theorem impl_Crash.eq38 (k : Nat) (x1 : List Int) (x4_0 : ByteArray) (x5_0 : ByteArray) (x7_0 : Int) (x7_1 : ByteArray) (x7_2 : ByteArray) (x16 : List (Int × ByteArray × ByteArray)) (x17 : Int) (x18 : Int) (x43 : Bool) : fromPt Tryz.prog impl_Crash.E k impl_Crash.a (impl_Crash.G k) 1000 (bodyOf Tryz.prog 20) 38 [.con (.int .i64) x1, .box 0 0, .box 1 0, .box 2 0, .con (.pair (.int .i64) (.pair .str .str)) x16, .v (.int .i64 x17), .v (.int .i64 x18), .bs false x43] [.box [.v (.string x4_0), .v (.slice none 0 0)], .box [.v (.string x5_0), .v (.slice none 0 0)], .box [.v (.int .i64 x7_0), .v (.string x7_1), .v (.string x7_2)]] = impl_Crash.p38 (k + 1) x1 x4_0 x5_0 x7_0 x7_1 x7_2 x16 x17 x18 x43 := by kernel_rfl
theorem impl_Crash.G38_0 {avs : List AV} {H : List HE} : impl_Crash.G38 0 avs H = none := by unfold impl_Crash.G38; split <;> rfl
theorem impl_Crash.G38_s (k : Nat) {avs : List AV} {H : List HE} {x : ByteArray} (h : impl_Crash.G38 (k + 1) avs H = some x) : fromPt Tryz.prog impl_Crash.E k impl_Crash.a (impl_Crash.G k) 1000 (bodyOf Tryz.prog 20) 38 avs H = some x := by
  unfold impl_Crash.G38 at h
  split at h
  · rw [← h]; exact impl_Crash.eq38 _ _ _ _ _ _ _ _ _ _ _
  · cases h
theorem impl_Crash.E_ok : EnvOk Tryz.prog impl_Crash.E := ⟨⟨impl_DeviceOk.sound, callable_of (by kernel_rfl)⟩, ⟨impl_replaced.sound, callable_of (by kernel_rfl)⟩, trivial⟩
theorem impl_Crash.sound : Sound Tryz.prog 20 impl_Crash.s := by
  refine func_sound (f := impl_Crash.a) (G := impl_Crash.G) (fn := Tryz.f20) (body := bodyOf Tryz.prog 20) 1000 (by kernel_rfl) impl_Crash.E_ok Tryz.func20 (by kernel_rfl) (by kernel_rfl) (by kernel_rfl) (ptsOk_of (by kernel_rfl)) ?_ ?_ ?_ ?_
  · intro r H x h
    unfold impl_Crash.a at h
    simp only at h
    split at h
    · cases h; rfl
    · cases h
  · exact fun q avs H => pick1_none impl_Crash.G16_0 (pick1_none impl_Crash.G38_0 (rfl))
  · intro k q pt avs H x _ h
    rcases pick1_some h with ⟨rfl, h⟩ | h
    · exact impl_Crash.G16_s _ h
    rcases pick1_some h with ⟨rfl, h⟩ | h
    · exact impl_Crash.G38_s _ h
    cases h
  · intro k avs H o h
    try dsimp only at h
    split at h
    · cases h; exact impl_Crash.eq _ _ _ _
    · cases h
end
end Go.Proofs.YtmciidoohbmipaaGreatDoor.Abs
namespace Go.Proofs.YtmciidoohbmipaaGreatDoor.fnNoted
open Go.ChangeShapes Go.WideShapes Go.ChangeAt Go.RowKit
open Go.ChangeMaps (open_string shut_string)
set_option linter.unusedVariables false
theorem own : ownKnob Tryz.prog.godebug = none := by kernel_rfl
theorem laidOut : laidOutB Tryz.prog = true := by kernel_rfl
set_option maxRecDepth 100000 in
theorem lifted (os : Os) (started : os.Started) (H : Type) (enc : TypeId × Value → H) :
    ReturnsInHanded {} Tryz.checked os 5 .any (fun w args => (Rows.fnNotedSpec.pre enc Tryz.prog Tryz.f5 Rows.fnNotedRow.domain false w args ∧ laidMetH Tryz.prog Rows.fnNotedRow.laid w) ∧ sizedMet enc Tryz.prog Tryz.f5 (OpenSpec.ofChange Rows.fnNotedSpec) false w args) (Rows.fnNotedSpec.post enc Tryz.prog Tryz.f5 false true false false) := by
  refine returnsInHanded_of_change_and (C := Tryz.checked) (X := fun w _ => laidMetH Tryz.prog Rows.fnNotedRow.laid w) (fun _ _ _ hh h => h.of_heap hh) own started (by kernel_rfl) Tryz.func5
    (ChangeSpec.witness_shaped (enc := enc) (C := Tryz.checked) (os := os) (X := fun w _ => laidMetH Tryz.prog Rows.fnNotedRow.laid w) false (World.laidAll Tryz.prog os Rows.fnNotedRow.laid) #[.slice none 0 0] 8 (World.laidAll_os _ _ _)
      (World.shaped_of_ZipB (by kernel_rfl) (by kernel_rfl)) (by kernel_rfl) (by kernel_rfl) (by kernel_rfl)
      (by rw [MakeChecks.laidMetH_plain _ _ _ (by kernel_rfl)]; exact laidMet_laidAll _ (by kernel_rfl) (by kernel_rfl))) ?_
  intro W base args ds gs before hval0 hW hcnd hsz0 _ _
  have hval : ∀ (j : Nat) t v, Tryz.f5.params[j]? = some t → args[j]? = some v → Value.okWide Tryz.prog W .any base t v := hval0
  have hW' := hW
  obtain ⟨p, q, hA0, hV, rfl, hfz, hnd⟩ := hW
  have hA : DataW.TrodAll enc Tryz.prog W 0 (fun _ => true) true Tryz.f5.params.toList args.toList ds p := hA0
  rw [Tryz.params5] at hA hval
  obtain ⟨v0, vs0, d0, ds0, p0, q0, hargs, rfl, rfl, h0, r0⟩ := trodAll_cons hA
  obtain ⟨rfl, rfl, rfl⟩ := trodAll_nil r0
  obtain rfl : args = #[v0] := by cases args; simp_all
  obtain ⟨rfl, rfl⟩ := trodVars_none hV
  have hc0 := Abs.okWide_cell (by kernel_rfl) (hval 0 22 v0 rfl rfl)
  have k0 := h0
  have lt0 : ∀ x ∈ p0, x.block < W.heap.size := by obtain ⟨m, hm⟩ := k0; exact DataW.trod_lt m _ _ _ hm
  obtain ⟨fuel0, hf0⟩ := h0
  obtain ⟨x0, kr0, ok0⟩ := Abs.opens (M := Abs.Mut (fun _ => False) (Abs.hpOf []) (fun _ => undef)) (Abs.not_mut _) 9 22 (.sl (.int .u8)) (by kernel_rfl) _ _ _ hf0
  clear hA0 hval0 hsz0
  obtain ⟨k, hP⟩ := Abs.Pu.FnNoted x0 ok0
  refine (Abs.law_calls Abs.laws_FnNoted.sound (k := k) (htb := Abs.tb_of (fun p hp => by simp [Abs.tabs] at hp)) (avs := [Abs.argAV false (Abs.Ty.cells (.sl (.int .u8)) x0)]) (c := ⟨Bool, Abs.laws_FnNoted.f k x0, fun r => (.bs false r, [])⟩) (x := true) (Abs.mkS_pat rfl) hP rfl (w := W) (vals := [v0]) ⟨_, _, rfl, Abs.arg_cell (t := (.sl (.int .u8))) hc0 kr0 rfl, rfl⟩).mono fun e W' ⟨he, bel⟩ => ?_
  subst he
  exact ⟨_, rfl, _, _, _, [], _, [], hW', trodAll_mk1 (shut_bool Tryz.underlying4 _), (trodAll_cons_mk (Below.trod laidOut (by kernel_rfl) (of_decide_eq_true (by kernel_rfl)) k0 bel lt0) trodAll_mk0), rfl, bel.frame _, fun h => by cases h⟩
theorem over : Rows.fnNotedRow.holds Tryz.pinned (OpenSpec.ofChange Rows.fnNotedSpec) :=
  OpenClaim.holds_of_wide 5 Tryz.f5 rfl rfl rfl rfl rfl rfl rfl ⟨rfl, rfl, rfl, rfl, rfl⟩ rfl rfl rfl rfl rfl (by kernel_rfl) Tryz.func5 (by kernel_rfl)
    (of_decide_eq_true (by kernel_rfl)) (by unfold Func.isWrapper; first | (rw [if_pos (by decide +kernel)]; kernel_rfl) | (rw [if_neg (by decide +kernel)]; exact ⟨rfl, rfl⟩))
    (fun os started H enc _ => lifted os started H enc)
theorem card : Rows.FnNotedCardSaid :=
  Claim7.holds_tied_plain_at .later [] [.data, .pinned] true (true, "ff238f6e67338ed1ab3430a30a2b8ee9e677c128bc3a12b5c5f1ee639dee4042") false over (fun _ h => by cases h) (by kernel_rfl) (fun _ h => by cases h) fnNoted_row_tie rfl ⟨rfl, rfl⟩ (by kernel_rfl) rfl
    (fun f fn hf hfn => by
      obtain rfl : f = 5 := Option.some.inj ((show Tryz.prog.funcNamed "loop.example/g00648/laws.FnNoted" = some 5 by kernel_rfl).symm.trans hf) |>.symm
      obtain rfl : fn = Tryz.f5 := (Option.some.inj (Tryz.func5.symm.trans hfn)).symm
      exact ⟨by kernel_rfl, fun j t ht => by
        rw [Tryz.params5] at ht
        have hm : t ∈ [22] := by
          have hm_ := Array.mem_of_getElem? ht
          simpa using hm_
        have hall : ([22].all fun u => !Tryz.prog.wantsStandIn u) = true := by kernel_rfl
        exact (show Tryz.prog.wantsStandIn t = false by simpa using List.all_eq_true.1 hall t hm)⟩)
    (by kernel_rfl)
#print axioms card
end Go.Proofs.YtmciidoohbmipaaGreatDoor.fnNoted
namespace Go.Proofs.YtmciidoohbmipaaGreatDoor
/-- The row, under a short name, for the claim. -/
theorem fnNoted_holds : Rows.FnNotedCardSaid := fnNoted.card
end Go.Proofs.YtmciidoohbmipaaGreatDoor
