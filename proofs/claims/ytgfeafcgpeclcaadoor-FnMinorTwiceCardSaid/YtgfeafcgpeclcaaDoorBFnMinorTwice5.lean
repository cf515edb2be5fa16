/- They are sound. (Merged out of this claim's own texts.) -/
import Derived.Test.YtgfeafcgpeclcaaDoorBFnMinorTwice4
import Derived.Shelf.Strings.SlTrimAscii
import Derived.Test.YtgfeafcgpeclcaaDoorProg
import Derived.Test.YtgfeafcgpeclcaaDoorRows
import Derived.Test.YtgfeafcgpeclcaaDoorTie
import Derived.Test.YtgfeafcgpeclcaaDoorCards
import Derived.WalkKit
import Derived.LaidMore
import Derived.Lay
import Derived.SevenTiedAt
import Derived.Stop.Joined
import Derived.ProofKit
import Derived.OpenShut
import Derived.ShutString
import Derived.ChangeOld
import Derived.Below
import Derived.SizedLaws
import Derived.Carry
namespace Go.Proofs.YtgfeafcgpeclcaaDoor.Abs
open Go Go.RowKit
set_option linter.unusedVariables false
set_option linter.unusedSectionVars false
set_option linter.unusedSimpArgs false
noncomputable section
def laws_big.a : FnA (Bool) := ⟨6, [.tmp 2], .bool, [], [], fun x H => match x, H with
  | .bs false r, [] => some r
  | _, _ => none⟩
def laws_big.s : Spec := mkS [.con (.int .u8)] (fun k avs H => match avs, H with
  | [.con (.int .u8) a0], [] => some (laws_big.f a0)
  | _, _ => none) (fun r => (.bs false r, []))
def laws_big.E : Env := []
def laws_big.G (k p : Nat) (avs : List AV) (H : List HE) : Option (Bool) := none
set_option maxRecDepth 100000 in
theorem laws_big.eq (k : Nat) (a0 : List Int) : fromTop Tryd.prog laws_big.E k laws_big.a (laws_big.G k) 1000 (bodyOf Tryd.prog 46) [.con (.int .u8) a0] [] = laws_big.f a0 := by kernel_rfl
theorem laws_big.E_ok : EnvOk Tryd.prog laws_big.E := trivial
theorem laws_big.sound : Sound Tryd.prog 46 laws_big.s := by
  refine func_sound (f := laws_big.a) (G := laws_big.G) (fn := Tryd.f46) (body := bodyOf Tryd.prog 46) 1000 (by kernel_rfl) laws_big.E_ok Tryd.func46 (by kernel_rfl) (by kernel_rfl) (by kernel_rfl) (ptsOk_of (by kernel_rfl)) ?_ ?_ ?_ ?_
  · intro r H x h
    unfold laws_big.a at h
    simp only at h
    split at h
    · cases h; rfl
    · cases h
  · intro q avs H; rfl
  · intro k q pt avs H x _ h; cases h
  · intro k avs H o h
    try dsimp only at h
    split at h
    · cases h; exact laws_big.eq _ _
    · cases h

def spec_l1Open.a : FnA (List Int × Int) := ⟨6, [.tmp 2], .box [.con (.int .u8), .val], [], [], fun x H => match x, H with
  | .box 0 0, [.box [.con (.int .u8) r_0, .v (.int .i64 r_1)]] => some (r_0, r_1)
  | _, _ => none⟩
def spec_l1Open.s : Spec := mkS [.con (.int .u8)] (fun k avs H => match avs, H with
  | [.con (.int .u8) a0], [] => some (spec_l1Open.f a0)
  | _, _ => none) (fun r => (.box 0 0, [.box [.con (.int .u8) r.1, .v (.int .i64 r.2)]]))
def spec_l1Open.E : Env := []
def spec_l1Open.G (k p : Nat) (avs : List AV) (H : List HE) : Option (List Int × Int) := none
set_option maxRecDepth 100000 in
theorem spec_l1Open.eq (k : Nat) (a0 : List Int) : fromTop Tryd.prog spec_l1Open.E k spec_l1Open.a (spec_l1Open.G k) 1000 (bodyOf Tryd.prog 80) [.con (.int .u8) a0] [] = spec_l1Open.f a0 := by kernel_rfl
theorem spec_l1Open.E_ok : EnvOk Tryd.prog spec_l1Open.E := trivial
theorem spec_l1Open.sound : Sound Tryd.prog 80 spec_l1Open.s := by
  refine func_sound (f := spec_l1Open.a) (G := spec_l1Open.G) (fn := Tryd.f80) (body := bodyOf Tryd.prog 80) 1000 (by kernel_rfl) spec_l1Open.E_ok Tryd.func80 (by kernel_rfl) (by kernel_rfl) (by kernel_rfl) (ptsOk_of (by kernel_rfl)) ?_ ?_ ?_ ?_
  · intro r H x h
    unfold spec_l1Open.a at h
    simp only at h
    split at h
    · cases h; rfl
    · cases h
  · intro q avs H; rfl
  · intro k q pt avs H x _ h; cases h
  · intro k avs H o h
    try dsimp only at h
    split at h
    · cases h; exact spec_l1Open.eq _ _
    · cases h

def spec_l1Rd_next.a : FnA (List Int × Int × Int) := ⟨32, [.tmp 2], .val, [.box [.con (.int .u8), .val]], [], fun x H => match x, H with
  | .v (.int .i64 r), [.box [.con (.int .u8) h0_0, .v (.int .i64 h0_1)]] => some (h0_0, h0_1, r)
  | _, _ => none⟩
def spec_l1Rd_next.s : Spec := mkS [.box [.con (.int .u8), .val]] (fun k avs H => match avs, H with
  | [.box 0 0], [.box [.con (.int .u8) a0_0, .v (.int .i64 a0_1)]] => some (spec_l1Rd_next.f a0_0 a0_1)
  | _, _ => none) (fun r => (.v (.int .i64 r.2.2), [.box [.con (.int .u8) r.1, .v (.int .i64 r.2.1)]]))
def spec_l1Rd_next.E : Env := []
def spec_l1Rd_next.G (k p : Nat) (avs : List AV) (H : List HE) : Option (List Int × Int × Int) := none
set_option maxRecDepth 100000 in
theorem spec_l1Rd_next.eq (k : Nat) (a0_0 : List Int) (a0_1 : Int) : fromTop Tryd.prog spec_l1Rd_next.E k spec_l1Rd_next.a (spec_l1Rd_next.G k) 1000 (bodyOf Tryd.prog 107) [.box 0 0] [.box [.con (.int .u8) a0_0, .v (.int .i64 a0_1)]] = spec_l1Rd_next.f a0_0 a0_1 := by kernel_rfl
theorem spec_l1Rd_next.E_ok : EnvOk Tryd.prog spec_l1Rd_next.E := trivial
theorem spec_l1Rd_next.sound : Sound Tryd.prog 107 spec_l1Rd_next.s := by
  refine func_sound (f := spec_l1Rd_next.a) (G := spec_l1Rd_next.G) (fn := Tryd.f107) (body := bodyOf Tryd.prog 107) 1000 (by kernel_rfl) spec_l1Rd_next.E_ok Tryd.func107 (by kernel_rfl) (by kernel_rfl) (by kernel_rfl) (ptsOk_of (by kernel_rfl)) ?_ ?_ ?_ ?_
  · intro r H x h
    unfold spec_l1Rd_next.a at h
    simp only at h
    split at h
    · cases h; rfl
    · cases h
  · intro q avs H; rfl
  · intro k q pt avs H x _ h; cases h
  · intro k avs H o h
    try dsimp only at h
    split at h
    · cases h; exact spec_l1Rd_next.eq _ _ _
    · cases h

def spec_l1Rd_below.a : FnA (List Int × Int × Int) := ⟨24, [.tmp 4], .val, [.box [.con (.int .u8), .val]], [], fun x H => match x, H with
  | .v (.int .i64 r), [.box [.con (.int .u8) h0_0, .v (.int .i64 h0_1)]] => some (h0_0, h0_1, r)
  | _, _ => none⟩
def spec_l1Rd_below.s : Spec := mkS [.box [.con (.int .u8), .val], .val] (fun k avs H => match avs, H with
  | [.box 0 0, .v (.int .i64 a1)], [.box [.con (.int .u8) a0_0, .v (.int .i64 a0_1)]] => some (spec_l1Rd_below.f a0_0 a0_1 a1)
  | _, _ => none) (fun r => (.v (.int .i64 r.2.2), [.box [.con (.int .u8) r.1, .v (.int .i64 r.2.1)]]))
def spec_l1Rd_below.E : Env := [((107, []), spec_l1Rd_next.s)]
def spec_l1Rd_below.G (k p : Nat) (avs : List AV) (H : List HE) : Option (List Int × Int × Int) := none
set_option maxRecDepth 100000 in
theorem spec_l1Rd_below.eq (k : Nat) (a0_0 : List Int) (a0_1 : Int) (a1 : Int) : fromTop Tryd.prog spec_l1Rd_below.E k spec_l1Rd_below.a (spec_l1Rd_below.G k) 1000 (bodyOf Tryd.prog 89) [.box 0 0, .v (.int .i64 a1)] [.box [.con (.int .u8) a0_0, .v (.int .i64 a0_1)]] = spec_l1Rd_below.f a0_0 a0_1 a1 := by kernel_rfl
theorem spec_l1Rd_below.E_ok : EnvOk Tryd.prog spec_l1Rd_below.E := ⟨⟨spec_l1Rd_next.sound, callable_of (by kernel_rfl)⟩, trivial⟩
theorem spec_l1Rd_below.sound : Sound Tryd.prog 89 spec_l1Rd_below.s := by
  refine func_sound (f := spec_l1Rd_below.a) (G := spec_l1Rd_below.G) (fn := Tryd.f89) (body := bodyOf Tryd.prog 89) 1000 (by kernel_rfl) spec_l1Rd_below.E_ok Tryd.func89 (by kernel_rfl) (by kernel_rfl) (by kernel_rfl) (ptsOk_of (by kernel_rfl)) ?_ ?_ ?_ ?_
  · intro r H x h
    unfold spec_l1Rd_below.a at h
    simp only at h
    split at h
    · cases h; rfl
    · cases h
  · intro q avs H; rfl
  · intro k q pt avs H x _ h; cases h
  · intro k avs H o h
    try dsimp only at h
    split at h
    · cases h; exact spec_l1Rd_below.eq _ _ _ _
    · cases h

def spec_l1Rd_once.a : FnA (List Int × Int × Bool) := ⟨11, [.tmp 4], .bool, [.box [.con (.int .u8), .val]], [], fun x H => match x, H with
  | .bs false r, [.box [.con (.int .u8) h0_0, .v (.int .i64 h0_1)]] => some (h0_0, h0_1, r)
  | _, _ => none⟩
def spec_l1Rd_once.s : Spec := mkS [.box [.con (.int .u8), .val], .val] (fun k avs H => match avs, H with
  | [.box 0 0, .v (.int .i64 a1)], [.box [.con (.int .u8) a0_0, .v (.int .i64 a0_1)]] => some (spec_l1Rd_once.f a0_0 a0_1 a1)
  | _, _ => none) (fun r => (.bs false r.2.2, [.box [.con (.int .u8) r.1, .v (.int .i64 r.2.1)]]))
def spec_l1Rd_once.E : Env := [((89, []), spec_l1Rd_below.s)]
def spec_l1Rd_once.G (k p : Nat) (avs : List AV) (H : List HE) : Option (List Int × Int × Bool) := none
set_option maxRecDepth 100000 in
theorem spec_l1Rd_once.eq (k : Nat) (a0_0 : List Int) (a0_1 : Int) (a1 : Int) : fromTop Tryd.prog spec_l1Rd_once.E k spec_l1Rd_once.a (spec_l1Rd_once.G k) 1000 (bodyOf Tryd.prog 90) [.box 0 0, .v (.int .i64 a1)] [.box [.con (.int .u8) a0_0, .v (.int .i64 a0_1)]] = spec_l1Rd_once.f a0_0 a0_1 a1 := by kernel_rfl
theorem spec_l1Rd_once.E_ok : EnvOk Tryd.prog spec_l1Rd_once.E := ⟨⟨spec_l1Rd_below.sound, callable_of (by kernel_rfl)⟩, trivial⟩
theorem spec_l1Rd_once.sound : Sound Tryd.prog 90 spec_l1Rd_once.s := by
  refine func_sound (f := spec_l1Rd_once.a) (G := spec_l1Rd_once.G) (fn := Tryd.f90) (body := bodyOf Tryd.prog 90) 1000 (by kernel_rfl) spec_l1Rd_once.E_ok Tryd.func90 (by kernel_rfl) (by kernel_rfl) (by kernel_rfl) (ptsOk_of (by kernel_rfl)) ?_ ?_ ?_ ?_
  · intro r H x h
    unfold spec_l1Rd_once.a at h
    simp only at h
    split at h
    · cases h; rfl
    · cases h
  · intro q avs H; rfl
  · intro k q pt avs H x _ h; cases h
  · intro k avs H o h
    try dsimp only at h
    split at h
    · cases h; exact spec_l1Rd_once.eq _ _ _ _
    · cases h

def spec_l1Rd_kinds.a : FnA (List Int × Int × ByteArray) := ⟨23, [.tmp 4], .val, [.box [.con (.int .u8), .val]], [⟨8, [0, 5, 6], [.box [], .val, .val], [.box [.con (.int .u8), .val]]⟩], fun x H => match x, H with
  | .v (.string r), [.box [.con (.int .u8) h0_0, .v (.int .i64 h0_1)]] => some (h0_0, h0_1, r)
  | _, _ => none⟩
def spec_l1Rd_kinds.s : Spec := mkS [.box [.con (.int .u8), .val], .val] (fun k avs H => match avs, H with
  | [.box 0 0, .v (.int .i64 a1)], [.box [.con (.int .u8) a0_0, .v (.int .i64 a0_1)]] => some (spec_l1Rd_kinds.f k a0_0 a0_1 a1)
  | _, _ => none) (fun r => (.v (.string r.2.2), [.box [.con (.int .u8) r.1, .v (.int .i64 r.2.1)]]))
def spec_l1Rd_kinds.E : Env := [((89, []), spec_l1Rd_below.s)]
def spec_l1Rd_kinds.G8 (k : Nat) (avs : List AV) (H : List HE) : Option (List Int × Int × ByteArray) := match avs, H with
  | [.box 0 0, .v (.string x5), .v (.int .i64 x6)], [.box [.con (.int .u8) h0_0, .v (.int .i64 h0_1)]] => spec_l1Rd_kinds.p8 k h0_0 h0_1 x5 x6
  | _, _ => none
def spec_l1Rd_kinds.G (k p : Nat) (avs : List AV) (H : List HE) : Option (List Int × Int × ByteArray) := (pick1 8 (spec_l1Rd_kinds.G8 k avs H) none p)
set_option maxRecDepth 100000 in
theorem spec_l1Rd_kinds.eq (k : Nat) (a0_0 : List Int) (a0_1 : Int) (a1 : Int) : fromTop Tryd.prog spec_l1Rd_kinds.E k spec_l1Rd_kinds.a (spec_l1Rd_kinds.G k) 1000 (bodyOf Tryd.prog 101) [.box 0 0, .v (.int .i64 a1)] [.box [.con (.int .u8) a0_0, .v (.int .i64 a0_1)]] = spec_l1Rd_kinds.f k a0_0 a0_1 a1 := by kernel_rfl
set_option maxRecDepth 100000 in
theorem spec_l1Rd_kinds.eq8 (k : Nat) (h0_0 : List Int) (h0_1 : Int) (x5 : ByteArray) (x6 : Int) : fromPt Tryd.prog spec_l1Rd_kinds.E k spec_l1Rd_kinds.a (spec_l1Rd_kinds.G k) 1000 (bodyOf Tryd.prog 101) 8 [.box 0 0, .v (.string x5), .v (.int .i64 x6)] [.box [.con (.int .u8) h0_0, .v (.int .i64 h0_1)]] = spec_l1Rd_kinds.p8 (k + 1) h0_0 h0_1 x5 x6 := by kernel_rfl
theorem spec_l1Rd_kinds.G8_0 {avs : List AV} {H : List HE} : spec_l1Rd_kinds.G8 0 avs H = none := by unfold spec_l1Rd_kinds.G8; split <;> rfl
theorem spec_l1Rd_kinds.G8_s (k : Nat) {avs : List AV} {H : List HE} {x : List Int × Int × ByteArray} (h : spec_l1Rd_kinds.G8 (k + 1) avs H = some x) : fromPt Tryd.prog spec_l1Rd_kinds.E k spec_l1Rd_kinds.a (spec_l1Rd_kinds.G k) 1000 (bodyOf Tryd.prog 101) 8 avs H = some x := by
  unfold spec_l1Rd_kinds.G8 at h
  split at h
  · rw [← h]; exact spec_l1Rd_kinds.eq8 _ _ _ _ _
  · cases h
theorem spec_l1Rd_kinds.E_ok : EnvOk Tryd.prog spec_l1Rd_kinds.E := ⟨⟨spec_l1Rd_below.sound, callable_of (by kernel_rfl)⟩, trivial⟩
theorem spec_l1Rd_kinds.sound : Sound Tryd.prog 101 spec_l1Rd_kinds.s := by
  refine func_sound (f := spec_l1Rd_kinds.a) (G := spec_l1Rd_kinds.G) (fn := Tryd.f101) (body := bodyOf Tryd.prog 101) 1000 (by kernel_rfl) spec_l1Rd_kinds.E_ok Tryd.func101 (by kernel_rfl) (by kernel_rfl) (by kernel_rfl) (ptsOk_of (by kernel_rfl)) ?_ ?_ ?_ ?_
  · intro r H x h
    unfold spec_l1Rd_kinds.a at h
    simp only at h
    split at h
    · cases h; rfl
    · cases h
  · exact fun q avs H => pick1_none spec_l1Rd_kinds.G8_0 (rfl)
  · intro k q pt avs H x _ h
    rcases pick1_some h with ⟨rfl, h⟩ | h
    · exact spec_l1Rd_kinds.G8_s _ h
    cases h
  · intro k avs H o h
    try dsimp only at h
    split at h
    · cases h; exact spec_l1Rd_kinds.eq _ _ _ _
    · cases h

def spec_l1Rd_types.a : FnA (List Int × Int × List ByteArray) := ⟨27, [.tmp 2], .row 9 .str, [.box [.con (.int .u8), .val]], [⟨8, [0, 3, 4], [.box [], .row 9 .str, .val], [.box [.con (.int .u8), .val]]⟩], fun x H => match x, H with
  | .own 1, [.box [.con (.int .u8) h0_0, .v (.int .i64 h0_1)], .row 9 .str r] => some (h0_0, h0_1, r)
  | _, _ => none⟩
def spec_l1Rd_types.s : Spec := mkS [.box [.con (.int .u8), .val]] (fun k avs H => match avs, H with
  | [.box 0 0], [.box [.con (.int .u8) a0_0, .v (.int .i64 a0_1)]] => some (spec_l1Rd_types.f k a0_0 a0_1)
  | _, _ => none) (fun r => (.own 1, [.box [.con (.int .u8) r.1, .v (.int .i64 r.2.1)], .row 9 .str r.2.2]))
def spec_l1Rd_types.E : Env := [((89, []), spec_l1Rd_below.s), ((90, []), spec_l1Rd_once.s), ((101, []), spec_l1Rd_kinds.s)]
def spec_l1Rd_types.G8 (k : Nat) (avs : List AV) (H : List HE) : Option (List Int × Int × List ByteArray) := match avs, H with
  | [.box 0 0, .own 1, .v (.int .i64 x4)], [.box [.con (.int .u8) h0_0, .v (.int .i64 h0_1)], .row 9 .str x3] => spec_l1Rd_types.p8 k h0_0 h0_1 x3 x4
  | _, _ => none
def spec_l1Rd_types.G (k p : Nat) (avs : List AV) (H : List HE) : Option (List Int × Int × List ByteArray) := (pick1 8 (spec_l1Rd_types.G8 k avs H) none p)
set_option maxRecDepth 100000 in
theorem spec_l1Rd_types.eq (k : Nat) (a0_0 : List Int) (a0_1 : Int) : fromTop Tryd.prog spec_l1Rd_types.E k spec_l1Rd_types.a (spec_l1Rd_types.G k) 1000 (bodyOf Tryd.prog 81) [.box 0 0] [.box [.con (.int .u8) a0_0, .v (.int .i64 a0_1)]] = spec_l1Rd_types.f k a0_0 a0_1 := by kernel_rfl
set_option maxRecDepth 100000 in
theorem spec_l1Rd_types.eq8 (k : Nat) (h0_0 : List Int) (h0_1 : Int) (x3 : List ByteArray) (x4 : Int) : fromPt Tryd.prog spec_l1Rd_types.E k spec_l1Rd_types.a (spec_l1Rd_types.G k) 1000 (bodyOf Tryd.prog 81) 8 [.box 0 0, .own 1, .v (.int .i64 x4)] [.box [.con (.int .u8) h0_0, .v (.int .i64 h0_1)], .row 9 .str x3] = spec_l1Rd_types.p8 (k + 1) h0_0 h0_1 x3 x4 := by kernel_rfl
theorem spec_l1Rd_types.G8_0 {avs : List AV} {H : List HE} : spec_l1Rd_types.G8 0 avs H = none := by unfold spec_l1Rd_types.G8; split <;> rfl
theorem spec_l1Rd_types.G8_s (k : Nat) {avs : List AV} {H : List HE} {x : List Int × Int × List ByteArray} (h : spec_l1Rd_types.G8 (k + 1) avs H = some x) : fromPt Tryd.prog spec_l1Rd_types.E k spec_l1Rd_types.a (spec_l1Rd_types.G k) 1000 (bodyOf Tryd.prog 81) 8 avs H = some x := by
  unfold spec_l1Rd_types.G8 at h
  split at h
  · rw [← h]; exact spec_l1Rd_types.eq8 _ _ _ _ _
  · cases h
theorem spec_l1Rd_types.E_ok : EnvOk Tryd.prog spec_l1Rd_types.E := ⟨⟨spec_l1Rd_below.sound, callable_of (by kernel_rfl)⟩, ⟨spec_l1Rd_once.sound, callable_of (by kernel_rfl)⟩, ⟨spec_l1Rd_kinds.sound, callable_of (by kernel_rfl)⟩, trivial⟩
theorem spec_l1Rd_types.sound : Sound Tryd.prog 81 spec_l1Rd_types.s := by
  refine func_sound (f := spec_l1Rd_types.a) (G := spec_l1Rd_types.G) (fn := Tryd.f81) (body := bodyOf Tryd.prog 81) 1000 (by kernel_rfl) spec_l1Rd_types.E_ok Tryd.func81 (by kernel_rfl) (by kernel_rfl) (by kernel_rfl) (ptsOk_of (by kernel_rfl)) ?_ ?_ ?_ ?_
  · intro r H x h
    unfold spec_l1Rd_types.a at h
    simp only at h
    split at h
    · cases h; rfl
    · cases h
  · exact fun q avs H => pick1_none spec_l1Rd_types.G8_0 (rfl)
  · intro k q pt avs H x _ h
    rcases pick1_some h with ⟨rfl, h⟩ | h
    · exact spec_l1Rd_types.G8_s _ h
    cases h
  · intro k avs H o h
    try dsimp only at h
    split at h
    · cases h; exact spec_l1Rd_types.eq _ _ _
    · cases h

def spec_l1Rd_size.a : FnA (List Int × Int × Int) := ⟨24, [.tmp 6], .val, [.box [.con (.int .u8), .val]], [], fun x H => match x, H with
  | .v (.int .i64 r), [.box [.con (.int .u8) h0_0, .v (.int .i64 h0_1)]] => some (h0_0, h0_1, r)
  | _, _ => none⟩
def spec_l1Rd_size.s : Spec := mkS [.box [.con (.int .u8), .val], .val, .val] (fun k avs H => match avs, H with
  | [.box 0 0, .v (.int .i64 a1), .v (.int .i64 a2)], [.box [.con (.int .u8) a0_0, .v (.int .i64 a0_1)]] => some (spec_l1Rd_size.f a0_0 a0_1 a1 a2)
  | _, _ => none) (fun r => (.v (.int .i64 r.2.2), [.box [.con (.int .u8) r.1, .v (.int .i64 r.2.1)]]))
def spec_l1Rd_size.E : Env := [((89, []), spec_l1Rd_below.s)]
def spec_l1Rd_size.G (k p : Nat) (avs : List AV) (H : List HE) : Option (List Int × Int × Int) := none
set_option maxRecDepth 100000 in
theorem spec_l1Rd_size.eq (k : Nat) (a0_0 : List Int) (a0_1 : Int) (a1 : Int) (a2 : Int) : fromTop Tryd.prog spec_l1Rd_size.E k spec_l1Rd_size.a (spec_l1Rd_size.G k) 1000 (bodyOf Tryd.prog 102) [.box 0 0, .v (.int .i64 a1), .v (.int .i64 a2)] [.box [.con (.int .u8) a0_0, .v (.int .i64 a0_1)]] = spec_l1Rd_size.f a0_0 a0_1 a1 a2 := by kernel_rfl
theorem spec_l1Rd_size.E_ok : EnvOk Tryd.prog spec_l1Rd_size.E := ⟨⟨spec_l1Rd_below.sound, callable_of (by kernel_rfl)⟩, trivial⟩
theorem spec_l1Rd_size.sound : Sound Tryd.prog 102 spec_l1Rd_size.s := by
  refine func_sound (f := spec_l1Rd_size.a) (G := spec_l1Rd_size.G) (fn := Tryd.f102) (body := bodyOf Tryd.prog 102) 1000 (by kernel_rfl) spec_l1Rd_size.E_ok Tryd.func102 (by kernel_rfl) (by kernel_rfl) (by kernel_rfl) (ptsOk_of (by kernel_rfl)) ?_ ?_ ?_ ?_
  · intro r H x h
    unfold spec_l1Rd_size.a at h
    simp only at h
    split at h
    · cases h; rfl
    · cases h
  · intro q avs H; rfl
  · intro k q pt avs H x _ h; cases h
  · intro k avs H o h
    try dsimp only at h
    split at h
    · cases h; exact spec_l1Rd_size.eq _ _ _ _ _
    · cases h

def spec_l1In.a : FnA (Bool) := ⟨15, [.tmp 6], .bool, [], [], fun x H => match x, H with
  | .bs false r, [] => some r
  | _, _ => none⟩
def spec_l1In.s : Spec := mkS [.val, .val, .val] (fun k avs H => match avs, H with
  | [.v (.int .i64 a0), .v (.int .i64 a1), .v (.int .i64 a2)], [] => some (spec_l1In.f a0 a1 a2)
  | _, _ => none) (fun r => (.bs false r, []))
def spec_l1In.E : Env := []
def spec_l1In.G (k p : Nat) (avs : List AV) (H : List HE) : Option (Bool) := none
set_option maxRecDepth 100000 in
theorem spec_l1In.eq (k : Nat) (a0 : Int) (a1 : Int) (a2 : Int) : fromTop Tryd.prog spec_l1In.E k spec_l1In.a (spec_l1In.G k) 1000 (bodyOf Tryd.prog 67) [.v (.int .i64 a0), .v (.int .i64 a1), .v (.int .i64 a2)] [] = spec_l1In.f a0 a1 a2 := by kernel_rfl
theorem spec_l1In.E_ok : EnvOk Tryd.prog spec_l1In.E := trivial
theorem spec_l1In.sound : Sound Tryd.prog 67 spec_l1In.s := by
  refine func_sound (f := spec_l1In.a) (G := spec_l1In.G) (fn := Tryd.f67) (body := bodyOf Tryd.prog 67) 1000 (by kernel_rfl) spec_l1In.E_ok Tryd.func67 (by kernel_rfl) (by kernel_rfl) (by kernel_rfl) (ptsOk_of (by kernel_rfl)) ?_ ?_ ?_ ?_
  · intro r H x h
    unfold spec_l1In.a at h
    simp only at h
    split at h
    · cases h; rfl
    · cases h
  · intro q avs H; rfl
  · intro k q pt avs H x _ h; cases h
  · intro k avs H o h
    try dsimp only at h
    split at h
    · cases h; exact spec_l1In.eq _ _ _ _
    · cases h

def spec_l3Type.a : FnA (Bool) := ⟨23, [.tmp 2], .bool, [], [⟨6, [0, 3], [.val, .val], []⟩], fun x H => match x, H with
  | .bs false r, [] => some r
  | _, _ => none⟩
def spec_l3Type.s : Spec := mkS [.val] (fun k avs H => match avs, H with
  | [.v (.string a0)], [] => some (spec_l3Type.f k a0)
  | _, _ => none) (fun r => (.bs false r, []))
def spec_l3Type.E : Env := [((67, []), spec_l1In.s)]
def spec_l3Type.G6 (k : Nat) (avs : List AV) (H : List HE) : Option (Bool) := match avs, H with
  | [.v (.string x0), .v (.int .i64 x3)], [] => spec_l3Type.p6 k x0 x3
  | _, _ => none
def spec_l3Type.G (k p : Nat) (avs : List AV) (H : List HE) : Option (Bool) := (pick1 6 (spec_l3Type.G6 k avs H) none p)
set_option maxRecDepth 100000 in
theorem spec_l3Type.eq (k : Nat) (a0 : ByteArray) : fromTop Tryd.prog spec_l3Type.E k spec_l3Type.a (spec_l3Type.G k) 1000 (bodyOf Tryd.prog 108) [.v (.string a0)] [] = spec_l3Type.f k a0 := by kernel_rfl
set_option maxRecDepth 100000 in
theorem spec_l3Type.eq6 (k : Nat) (x0 : ByteArray) (x3 : Int) : fromPt Tryd.prog spec_l3Type.E k spec_l3Type.a (spec_l3Type.G k) 1000 (bodyOf Tryd.prog 108) 6 [.v (.string x0), .v (.int .i64 x3)] [] = spec_l3Type.p6 (k + 1) x0 x3 := by kernel_rfl
theorem spec_l3Type.G6_0 {avs : List AV} {H : List HE} : spec_l3Type.G6 0 avs H = none := by unfold spec_l3Type.G6; split <;> rfl
theorem spec_l3Type.G6_s (k : Nat) {avs : List AV} {H : List HE} {x : Bool} (h : spec_l3Type.G6 (k + 1) avs H = some x) : fromPt Tryd.prog spec_l3Type.E k spec_l3Type.a (spec_l3Type.G k) 1000 (bodyOf Tryd.prog 108) 6 avs H = some x := by
  unfold spec_l3Type.G6 at h
  split at h
  · rw [← h]; exact spec_l3Type.eq6 _ _ _
  · cases h
theorem spec_l3Type.E_ok : EnvOk Tryd.prog spec_l3Type.E := ⟨⟨spec_l1In.sound, callable_of (by kernel_rfl)⟩, trivial⟩
theorem spec_l3Type.sound : Sound Tryd.prog 108 spec_l3Type.s := by
  refine func_sound (f := spec_l3Type.a) (G := spec_l3Type.G) (fn := Tryd.f108) (body := bodyOf Tryd.prog 108) 1000 (by kernel_rfl) spec_l3Type.E_ok Tryd.func108 (by kernel_rfl) (by kernel_rfl) (by kernel_rfl) (ptsOk_of (by kernel_rfl)) ?_ ?_ ?_ ?_
  · intro r H x h
    unfold spec_l3Type.a at h
    simp only at h
    split at h
    · cases h; rfl
    · cases h
  · exact fun q avs H => pick1_none spec_l3Type.G6_0 (rfl)
  · intro k q pt avs H x _ h
    rcases pick1_some h with ⟨rfl, h⟩ | h
    · exact spec_l3Type.G6_s _ h
    cases h
  · intro k avs H o h
    try dsimp only at h
    split at h
    · cases h; exact spec_l3Type.eq _ _
    · cases h

def spec_TypesOk.a : FnA (Bool) := ⟨20, [.tmp 2], .bool, [], [⟨14, [0, 3], [.con .str, .val], []⟩], fun x H => match x, H with
  | .bs false r, [] => some r
  | _, _ => none⟩
def spec_TypesOk.s : Spec := mkS [.con .str] (fun k avs H => match avs, H with
  | [.con .str a0], [] => some (spec_TypesOk.f k a0)
  | _, _ => none) (fun r => (.bs false r, []))
def spec_TypesOk.E : Env := [((67, []), spec_l1In.s), ((108, []), spec_l3Type.s)]
def spec_TypesOk.G14 (k : Nat) (avs : List AV) (H : List HE) : Option (Bool) := match avs, H with
  | [.con .str x0, .v (.int .i64 x3)], [] => spec_TypesOk.p14 k x0 x3
  | _, _ => none
def spec_TypesOk.G (k p : Nat) (avs : List AV) (H : List HE) : Option (Bool) := (pick1 14 (spec_TypesOk.G14 k avs H) none p)
set_option maxRecDepth 100000 in
theorem spec_TypesOk.eq (k : Nat) (a0 : List ByteArray) : fromTop Tryd.prog spec_TypesOk.E k spec_TypesOk.a (spec_TypesOk.G k) 1000 (bodyOf Tryd.prog 91) [.con .str a0] [] = spec_TypesOk.f k a0 := by kernel_rfl
set_option maxRecDepth 100000 in
theorem spec_TypesOk.eq14 (k : Nat) (x0 : List ByteArray) (x3 : Int) : fromPt Tryd.prog spec_TypesOk.E k spec_TypesOk.a (spec_TypesOk.G k) 1000 (bodyOf Tryd.prog 91) 14 [.con .str x0, .v (.int .i64 x3)] [] = spec_TypesOk.p14 (k + 1) x0 x3 := by kernel_rfl
theorem spec_TypesOk.G14_0 {avs : List AV} {H : List HE} : spec_TypesOk.G14 0 avs H = none := by unfold spec_TypesOk.G14; split <;> rfl
theorem spec_TypesOk.G14_s (k : Nat) {avs : List AV} {H : List HE} {x : Bool} (h : spec_TypesOk.G14 (k + 1) avs H = some x) : fromPt Tryd.prog spec_TypesOk.E k spec_TypesOk.a (spec_TypesOk.G k) 1000 (bodyOf Tryd.prog 91) 14 avs H = some x := by
  unfold spec_TypesOk.G14 at h
  split at h
  · rw [← h]; exact spec_TypesOk.eq14 _ _ _
  · cases h
theorem spec_TypesOk.E_ok : EnvOk Tryd.prog spec_TypesOk.E := ⟨⟨spec_l1In.sound, callable_of (by kernel_rfl)⟩, ⟨spec_l3Type.sound, callable_of (by kernel_rfl)⟩, trivial⟩
theorem spec_TypesOk.sound : Sound Tryd.prog 91 spec_TypesOk.s := by
  refine func_sound (f := spec_TypesOk.a) (G := spec_TypesOk.G) (fn := Tryd.f91) (body := bodyOf Tryd.prog 91) 1000 (by kernel_rfl) spec_TypesOk.E_ok Tryd.func91 (by kernel_rfl) (by kernel_rfl) (by kernel_rfl) (ptsOk_of (by kernel_rfl)) ?_ ?_ ?_ ?_
  · intro r H x h
    unfold spec_TypesOk.a at h
    simp only at h
    split at h
    · cases h; rfl
    · cases h
  · exact fun q avs H => pick1_none spec_TypesOk.G14_0 (rfl)
  · intro k q pt avs H x _ h
    rcases pick1_some h with ⟨rfl, h⟩ | h
    · exact spec_TypesOk.G14_s _ h
    cases h
  · intro k avs H o h
    try dsimp only at h
    split at h
    · cases h; exact spec_TypesOk.eq _ _
    · cases h

def spec_l8Parse.a : FnA (List Int × Bool) := ⟨78, [.tmp 4, .tmp 5], .tup [.row 2 (.int .i64), .bool], [], [⟨16, [0, 3, 6, 7], [.con .str, .box [.val, .con (.int .i64)], .row 2 (.int .i64), .val], []⟩], fun x H => match x, H with
  | .tup [.own 0, .bs false r_1], [.row 2 (.int .i64) r_0] => some (r_0, r_1)
  | _, _ => none⟩
def spec_l8Parse.s : Spec := mkS [.con .str, .agg [.val, .con (.int .i64)]] (fun k avs H => match avs, H with
  | [.con .str a0, .agg [.v (.int .i64 a1_0), .con (.int .i64) a1_1]], [] => some (spec_l8Parse.f k a0 a1_0 a1_1)
  | _, _ => none) (fun r => (.tup [.own 0, .bs false r.2], [.row 2 (.int .i64) r.1]))
def spec_l8Parse.E : Env := [((91, []), spec_TypesOk.s), ((67, []), spec_l1In.s)]
def spec_l8Parse.G16 (k : Nat) (avs : List AV) (H : List HE) : Option (List Int × Bool) := match avs, H with
  | [.con .str x0, .box 0 0, .own 1, .v (.int .i64 x7)], [.box [.v (.int .i64 x3_0), .con (.int .i64) x3_1], .row 2 (.int .i64) x6] => spec_l8Parse.p16 k x0 x3_0 x3_1 x6 x7
  | _, _ => none
def spec_l8Parse.G (k p : Nat) (avs : List AV) (H : List HE) : Option (List Int × Bool) := (pick1 16 (spec_l8Parse.G16 k avs H) none p)
set_option maxRecDepth 100000 in
theorem spec_l8Parse.eq (k : Nat) (a0 : List ByteArray) (a1_0 : Int) (a1_1 : List Int) : fromTop Tryd.prog spec_l8Parse.E k spec_l8Parse.a (spec_l8Parse.G k) 1000 (bodyOf Tryd.prog 58) [.con .str a0, .agg [.v (.int .i64 a1_0), .con (.int .i64) a1_1]] [] = spec_l8Parse.f k a0 a1_0 a1_1 := by kernel_rfl
set_option maxRecDepth 100000 in
theorem spec_l8Parse.eq16 (k : Nat) (x0 : List ByteArray) (x3_0 : Int) (x3_1 : List Int) (x6 : List Int) (x7 : Int) : fromPt Tryd.prog spec_l8Parse.E k spec_l8Parse.a (spec_l8Parse.G k) 1000 (bodyOf Tryd.prog 58) 16 [.con .str x0, .box 0 0, .own 1, .v (.int .i64 x7)] [.box [.v (.int .i64 x3_0), .con (.int .i64) x3_1], .row 2 (.int .i64) x6] = spec_l8Parse.p16 (k + 1) x0 x3_0 x3_1 x6 x7 := by kernel_rfl
theorem spec_l8Parse.G16_0 {avs : List AV} {H : List HE} : spec_l8Parse.G16 0 avs H = none := by unfold spec_l8Parse.G16; split <;> rfl
theorem spec_l8Parse.G16_s (k : Nat) {avs : List AV} {H : List HE} {x : List Int × Bool} (h : spec_l8Parse.G16 (k + 1) avs H = some x) : fromPt Tryd.prog spec_l8Parse.E k spec_l8Parse.a (spec_l8Parse.G k) 1000 (bodyOf Tryd.prog 58) 16 avs H = some x := by
  unfold spec_l8Parse.G16 at h
  split at h
  · rw [← h]; exact spec_l8Parse.eq16 _ _ _ _ _ _
  · cases h
theorem spec_l8Parse.E_ok : EnvOk Tryd.prog spec_l8Parse.E := ⟨⟨spec_TypesOk.sound, callable_of (by kernel_rfl)⟩, ⟨spec_l1In.sound, callable_of (by kernel_rfl)⟩, trivial⟩
theorem spec_l8Parse.sound : Sound Tryd.prog 58 spec_l8Parse.s := by
  refine func_sound (f := spec_l8Parse.a) (G := spec_l8Parse.G) (fn := Tryd.f58) (body := bodyOf Tryd.prog 58) 1000 (by kernel_rfl) spec_l8Parse.E_ok Tryd.func58 (by kernel_rfl) (by kernel_rfl) (by kernel_rfl) (ptsOk_of (by kernel_rfl)) ?_ ?_ ?_ ?_
  · intro r H x h
    unfold spec_l8Parse.a at h
    simp only at h
    split at h
    · cases h; rfl
    · cases h
  · exact fun q avs H => pick1_none spec_l8Parse.G16_0 (rfl)
  · intro k q pt avs H x _ h
    rcases pick1_some h with ⟨rfl, h⟩ | h
    · exact spec_l8Parse.G16_s _ h
    cases h
  · intro k avs H o h
    try dsimp only at h
    split at h
    · cases h; exact spec_l8Parse.eq _ _ _ _
    · cases h

def spec_RefKind.a : FnA (Int) := ⟨22, [.tmp 2], .val, [], [], fun x H => match x, H with
  | .v (.int .i64 r), [] => some r
  | _, _ => none⟩
def spec_RefKind.s : Spec := mkS [.val] (fun k avs H => match avs, H with
  | [.v (.int .i64 a0)], [] => some (spec_RefKind.f a0)
  | _, _ => none) (fun r => (.v (.int .i64 r), []))
def spec_RefKind.E : Env := [((67, []), spec_l1In.s)]
def spec_RefKind.G (k p : Nat) (avs : List AV) (H : List HE) : Option (Int) := none
set_option maxRecDepth 100000 in
theorem spec_RefKind.eq (k : Nat) (a0 : Int) : fromTop Tryd.prog spec_RefKind.E k spec_RefKind.a (spec_RefKind.G k) 1000 (bodyOf Tryd.prog 62) [.v (.int .i64 a0)] [] = spec_RefKind.f a0 := by kernel_rfl
theorem spec_RefKind.E_ok : EnvOk Tryd.prog spec_RefKind.E := ⟨⟨spec_l1In.sound, callable_of (by kernel_rfl)⟩, trivial⟩
theorem spec_RefKind.sound : Sound Tryd.prog 62 spec_RefKind.s := by
  refine func_sound (f := spec_RefKind.a) (G := spec_RefKind.G) (fn := Tryd.f62) (body := bodyOf Tryd.prog 62) 1000 (by kernel_rfl) spec_RefKind.E_ok Tryd.func62 (by kernel_rfl) (by kernel_rfl) (by kernel_rfl) (ptsOk_of (by kernel_rfl)) ?_ ?_ ?_ ?_
  · intro r H x h
    unfold spec_RefKind.a at h
    simp only at h
    split at h
    · cases h; rfl
    · cases h
  · intro q avs H; rfl
  · intro k q pt avs H x _ h; cases h
  · intro k avs H o h
    try dsimp only at h
    split at h
    · cases h; exact spec_RefKind.eq _ _
    · cases h

def spec_l7Place.a : FnA (Int) := ⟨19, [.tmp 4], .val, [], [⟨6, [0, 1, 5], [.con (.int .i64), .val, .val], []⟩], fun x H => match x, H with
  | .v (.int .i64 r), [] => some r
  | _, _ => none⟩
def spec_l7Place.s : Spec := mkS [.con (.int .i64), .val] (fun k avs H => match avs, H with
  | [.con (.int .i64) a0, .v (.int .i64 a1)], [] => some (spec_l7Place.f k a0 a1)
  | _, _ => none) (fun r => (.v (.int .i64 r), []))
def spec_l7Place.E : Env := []
def spec_l7Place.G6 (k : Nat) (avs : List AV) (H : List HE) : Option (Int) := match avs, H with
  | [.con (.int .i64) x0, .v (.int .i64 x1), .v (.int .i64 x5)], [] => spec_l7Place.p6 k x0 x1 x5
  | _, _ => none
def spec_l7Place.G (k p : Nat) (avs : List AV) (H : List HE) : Option (Int) := (pick1 6 (spec_l7Place.G6 k avs H) none p)
set_option maxRecDepth 100000 in
theorem spec_l7Place.eq (k : Nat) (a0 : List Int) (a1 : Int) : fromTop Tryd.prog spec_l7Place.E k spec_l7Place.a (spec_l7Place.G k) 1000 (bodyOf Tryd.prog 63) [.con (.int .i64) a0, .v (.int .i64 a1)] [] = spec_l7Place.f k a0 a1 := by kernel_rfl
set_option maxRecDepth 100000 in
theorem spec_l7Place.eq6 (k : Nat) (x0 : List Int) (x1 : Int) (x5 : Int) : fromPt Tryd.prog spec_l7Place.E k spec_l7Place.a (spec_l7Place.G k) 1000 (bodyOf Tryd.prog 63) 6 [.con (.int .i64) x0, .v (.int .i64 x1), .v (.int .i64 x5)] [] = spec_l7Place.p6 (k + 1) x0 x1 x5 := by kernel_rfl
theorem spec_l7Place.G6_0 {avs : List AV} {H : List HE} : spec_l7Place.G6 0 avs H = none := by unfold spec_l7Place.G6; split <;> rfl
theorem spec_l7Place.G6_s (k : Nat) {avs : List AV} {H : List HE} {x : Int} (h : spec_l7Place.G6 (k + 1) avs H = some x) : fromPt Tryd.prog spec_l7Place.E k spec_l7Place.a (spec_l7Place.G k) 1000 (bodyOf Tryd.prog 63) 6 avs H = some x := by
  unfold spec_l7Place.G6 at h
  split at h
  · rw [← h]; exact spec_l7Place.eq6 _ _ _ _
  · cases h
theorem spec_l7Place.E_ok : EnvOk Tryd.prog spec_l7Place.E := trivial
theorem spec_l7Place.sound : Sound Tryd.prog 63 spec_l7Place.s := by
  refine func_sound (f := spec_l7Place.a) (G := spec_l7Place.G) (fn := Tryd.f63) (body := bodyOf Tryd.prog 63) 1000 (by kernel_rfl) spec_l7Place.E_ok Tryd.func63 (by kernel_rfl) (by kernel_rfl) (by kernel_rfl) (ptsOk_of (by kernel_rfl)) ?_ ?_ ?_ ?_
  · intro r H x h
    unfold spec_l7Place.a at h
    simp only at h
    split at h
    · cases h; rfl
    · cases h
  · exact fun q avs H => pick1_none spec_l7Place.G6_0 (rfl)
  · intro k q pt avs H x _ h
    rcases pick1_some h with ⟨rfl, h⟩ | h
    · exact spec_l7Place.G6_s _ h
    cases h
  · intro k avs H o h
    try dsimp only at h
    split at h
    · cases h; exact spec_l7Place.eq _ _ _
    · cases h

def spec_l8Ref.a : FnA (Bool) := ⟨25, [.tmp 4], .bool, [], [], fun x H => match x, H with
  | .bs false r, [] => some r
  | _, _ => none⟩
def spec_l8Ref.s : Spec := mkS [.con (.int .i64), .val] (fun k avs H => match avs, H with
  | [.con (.int .i64) a0, .v (.int .i64 a1)], [] => some (spec_l8Ref.f k a0 a1)
  | _, _ => none) (fun r => (.bs false r, []))
def spec_l8Ref.E : Env := [((62, []), spec_RefKind.s), ((63, []), spec_l7Place.s)]
def spec_l8Ref.G (k p : Nat) (avs : List AV) (H : List HE) : Option (Bool) := none
set_option maxRecDepth 100000 in
theorem spec_l8Ref.eq (k : Nat) (a0 : List Int) (a1 : Int) : fromTop Tryd.prog spec_l8Ref.E k spec_l8Ref.a (spec_l8Ref.G k) 1000 (bodyOf Tryd.prog 59) [.con (.int .i64) a0, .v (.int .i64 a1)] [] = spec_l8Ref.f k a0 a1 := by kernel_rfl
theorem spec_l8Ref.E_ok : EnvOk Tryd.prog spec_l8Ref.E := ⟨⟨spec_RefKind.sound, callable_of (by kernel_rfl)⟩, ⟨spec_l7Place.sound, callable_of (by kernel_rfl)⟩, trivial⟩
theorem spec_l8Ref.sound : Sound Tryd.prog 59 spec_l8Ref.s := by
  refine func_sound (f := spec_l8Ref.a) (G := spec_l8Ref.G) (fn := Tryd.f59) (body := bodyOf Tryd.prog 59) 1000 (by kernel_rfl) spec_l8Ref.E_ok Tryd.func59 (by kernel_rfl) (by kernel_rfl) (by kernel_rfl) (ptsOk_of (by kernel_rfl)) ?_ ?_ ?_ ?_
  · intro r H x h
    unfold spec_l8Ref.a at h
    simp only at h
    split at h
    · cases h; rfl
    · cases h
  · intro q avs H; rfl
  · intro k q pt avs H x _ h; cases h
  · intro k avs H o h
    try dsimp only at h
    split at h
    · cases h; exact spec_l8Ref.eq _ _ _
    · cases h

def spec_NurseryOk.a : FnA (Bool) := ⟨62, [.tmp 4], .bool, [], [⟨16, [0, 3, 5, 7], [.con .str, .box [.val, .con (.int .i64)], .row 2 (.int .i64), .val], []⟩, ⟨30, [0, 3, 5, 7, 8, 9], [.con .str, .box [.val, .con (.int .i64)], .row 2 (.int .i64), .val, .val, .val], []⟩], fun x H => match x, H with
  | .bs false r, [] => some r
  | _, _ => none⟩
def spec_NurseryOk.s : Spec := mkS [.con .str, .agg [.val, .con (.int .i64)]] (fun k avs H => match avs, H with
  | [.con .str a0, .agg [.v (.int .i64 a1_0), .con (.int .i64) a1_1]], [] => some (spec_NurseryOk.f k a0 a1_0 a1_1)
  | _, _ => none) (fun r => (.bs false r, []))
def spec_NurseryOk.E : Env := [((58, []), spec_l8Parse.s), ((59, []), spec_l8Ref.s)]
def spec_NurseryOk.G16 (k : Nat) (avs : List AV) (H : List HE) : Option (Bool) := match avs, H with
  | [.con .str x0, .box 0 0, .own 1, .v (.int .i64 x7)], [.box [.v (.int .i64 x3_0), .con (.int .i64) x3_1], .row 2 (.int .i64) x5] => spec_NurseryOk.p16 k x0 x3_0 x3_1 x5 x7
  | _, _ => none
def spec_NurseryOk.G30 (k : Nat) (avs : List AV) (H : List HE) : Option (Bool) := match avs, H with
  | [.con .str x0, .box 0 0, .own 1, .v (.int .i64 x7), .v (.string x8), .v (.int .i64 x9)], [.box [.v (.int .i64 x3_0), .con (.int .i64) x3_1], .row 2 (.int .i64) x5] => spec_NurseryOk.p30 k x0 x3_0 x3_1 x5 x7 x8 x9
  | _, _ => none
def spec_NurseryOk.G (k p : Nat) (avs : List AV) (H : List HE) : Option (Bool) := (pick1 16 (spec_NurseryOk.G16 k avs H) (pick1 30 (spec_NurseryOk.G30 k avs H) none p) p)
set_option maxRecDepth 100000 in
theorem spec_NurseryOk.eq (k : Nat) (a0 : List ByteArray) (a1_0 : Int) (a1_1 : List Int) : fromTop Tryd.prog spec_NurseryOk.E k spec_NurseryOk.a (spec_NurseryOk.G k) 1000 (bodyOf Tryd.prog 18) [.con .str a0, .agg [.v (.int .i64 a1_0), .con (.int .i64) a1_1]] [] = spec_NurseryOk.f k a0 a1_0 a1_1 := by kernel_rfl
set_option maxRecDepth 100000 in
theorem spec_NurseryOk.eq16 (k : Nat) (x0 : List ByteArray) (x3_0 : Int) (x3_1 : List Int) (x5 : List Int) (x7 : Int) : fromPt Tryd.prog spec_NurseryOk.E k spec_NurseryOk.a (spec_NurseryOk.G k) 1000 (bodyOf Tryd.prog 18) 16 [.con .str x0, .box 0 0, .own 1, .v (.int .i64 x7)] [.box [.v (.int .i64 x3_0), .con (.int .i64) x3_1], .row 2 (.int .i64) x5] = spec_NurseryOk.p16 (k + 1) x0 x3_0 x3_1 x5 x7 := by kernel_rfl
theorem spec_NurseryOk.G16_0 {avs : List AV} {H : List HE} : spec_NurseryOk.G16 0 avs H = none := by unfold spec_NurseryOk.G16; split <;> rfl
theorem spec_NurseryOk.G16_s (k : Nat) {avs : List AV} {H : List HE} {x : Bool} (h : spec_NurseryOk.G16 (k + 1) avs H = some x) : fromPt Tryd.prog spec_NurseryOk.E k spec_NurseryOk.a (spec_NurseryOk.G k) 1000 (bodyOf Tryd.prog 18) 16 avs H = some x := by
  unfold spec_NurseryOk.G16 at h
  split at h
  · rw [← h]; exact spec_NurseryOk.eq16 _ _ _ _ _ _
  · cases h
set_option maxRecDepth 100000 in
theorem spec_NurseryOk.eq30 (k : Nat) (x0 : List ByteArray) (x3_0 : Int) (x3_1 : List Int) (x5 : List Int) (x7 : Int) (x8 : ByteArray) (x9 : Int) : fromPt Tryd.prog spec_NurseryOk.E k spec_NurseryOk.a (spec_NurseryOk.G k) 1000 (bodyOf Tryd.prog 18) 30 [.con .str x0, .box 0 0, .own 1, .v (.int .i64 x7), .v (.string x8), .v (.int .i64 x9)] [.box [.v (.int .i64 x3_0), .con (.int .i64) x3_1], .row 2 (.int .i64) x5] = spec_NurseryOk.p30 (k + 1) x0 x3_0 x3_1 x5 x7 x8 x9 := by kernel_rfl
theorem spec_NurseryOk.G30_0 {avs : List AV} {H : List HE} : spec_NurseryOk.G30 0 avs H = none := by unfold spec_NurseryOk.G30; split <;> rfl
theorem spec_NurseryOk.G30_s (k : Nat) {avs : List AV} {H : List HE} {x : Bool} (h : spec_NurseryOk.G30 (k + 1) avs H = some x) : fromPt Tryd.prog spec_NurseryOk.E k spec_NurseryOk.a (spec_NurseryOk.G k) 1000 (bodyOf Tryd.prog 18) 30 avs H = some x := by
  unfold spec_NurseryOk.G30 at h
  split at h
  · rw [← h]; exact spec_NurseryOk.eq30 _ _ _ _ _ _ _ _
  · cases h
theorem spec_NurseryOk.E_ok : EnvOk Tryd.prog spec_NurseryOk.E := ⟨⟨spec_l8Parse.sound, callable_of (by kernel_rfl)⟩, ⟨spec_l8Ref.sound, callable_of (by kernel_rfl)⟩, trivial⟩
theorem spec_NurseryOk.sound : Sound Tryd.prog 18 spec_NurseryOk.s := by
  refine func_sound (f := spec_NurseryOk.a) (G := spec_NurseryOk.G) (fn := Tryd.f18) (body := bodyOf Tryd.prog 18) 1000 (by kernel_rfl) spec_NurseryOk.E_ok Tryd.func18 (by kernel_rfl) (by kernel_rfl) (by kernel_rfl) (ptsOk_of (by kernel_rfl)) ?_ ?_ ?_ ?_
  · intro r H x h
    unfold spec_NurseryOk.a at h
    simp only at h
    split at h
    · cases h; rfl
    · cases h
  · exact fun q avs H => pick1_none spec_NurseryOk.G16_0 (pick1_none spec_NurseryOk.G30_0 (rfl))
  · intro k q pt avs H x _ h
    rcases pick1_some h with ⟨rfl, h⟩ | h
    · exact spec_NurseryOk.G16_s _ h
    rcases pick1_some h with ⟨rfl, h⟩ | h
    · exact spec_NurseryOk.G30_s _ h
    cases h
  · intro k avs H o h
    try dsimp only at h
    split at h
    · cases h; exact spec_NurseryOk.eq _ _ _ _
    · cases h

def spec_l8Copy.a : FnA (Int × List Int) := ⟨10, [.cell 2 30], .agg [.val, .row 2 (.int .i64)], [], [], fun x H => match x, H with
  | .agg [.v (.int .i64 r_0), .own 0], [.row 2 (.int .i64) r_1] => some (r_0, r_1)
  | _, _ => none⟩
def spec_l8Copy.s : Spec := mkS [.agg [.val, .con (.int .i64)]] (fun k avs H => match avs, H with
  | [.agg [.v (.int .i64 a0_0), .con (.int .i64) a0_1]], [] => some (spec_l8Copy.f a0_0 a0_1)
  | _, _ => none) (fun r => (.agg [.v (.int .i64 r.1), .own 0], [.row 2 (.int .i64) r.2]))
def spec_l8Copy.E : Env := []
def spec_l8Copy.G (k p : Nat) (avs : List AV) (H : List HE) : Option (Int × List Int) := none
set_option maxRecDepth 100000 in
theorem spec_l8Copy.eq (k : Nat) (a0_0 : Int) (a0_1 : List Int) : fromTop Tryd.prog spec_l8Copy.E k spec_l8Copy.a (spec_l8Copy.G k) 1000 (bodyOf Tryd.prog 68) [.agg [.v (.int .i64 a0_0), .con (.int .i64) a0_1]] [] = spec_l8Copy.f a0_0 a0_1 := by kernel_rfl
theorem spec_l8Copy.E_ok : EnvOk Tryd.prog spec_l8Copy.E := trivial
theorem spec_l8Copy.sound : Sound Tryd.prog 68 spec_l8Copy.s := by
  refine func_sound (f := spec_l8Copy.a) (G := spec_l8Copy.G) (fn := Tryd.f68) (body := bodyOf Tryd.prog 68) 1000 (by kernel_rfl) spec_l8Copy.E_ok Tryd.func68 (by kernel_rfl) (by kernel_rfl) (by kernel_rfl) (ptsOk_of (by kernel_rfl)) ?_ ?_ ?_ ?_
  · intro r H x h
    unfold spec_l8Copy.a at h
    simp only at h
    split at h
    · cases h; rfl
    · cases h
  · intro q avs H; rfl
  · intro k q pt avs H x _ h; cases h
  · intro k avs H o h
    try dsimp only at h
    split at h
    · cases h; exact spec_l8Copy.eq _ _ _
    · cases h

def spec_YoungAlloc.a : FnA (Int × List Int × Int × Int) := ⟨57, [.cell 6 30, .tmp 7, .tmp 8], .tup [.agg [.val, .row 2 (.int .i64)], .val, .val], [], [], fun x H => match x, H with
  | .tup [.agg [.v (.int .i64 r_0_0), .own 0], .v (.int .i64 r_1), .v (.int .i64 r_2)], [.row 2 (.int .i64) r_0_1] => some (r_0_0, r_0_1, r_1, r_2)
  | _, _ => none⟩
def spec_YoungAlloc.s : Spec := mkS [.con .str, .agg [.val, .con (.int .i64)], .val] (fun k avs H => match avs, H with
  | [.con .str a0, .agg [.v (.int .i64 a1_0), .con (.int .i64) a1_1], .v (.int .i64 a2)], [] => some (spec_YoungAlloc.f k a0 a1_0 a1_1 a2)
  | _, _ => none) (fun r => (.tup [.agg [.v (.int .i64 r.1), .own 0], .v (.int .i64 r.2.2.1), .v (.int .i64 r.2.2.2)], [.row 2 (.int .i64) r.2.1]))
def spec_YoungAlloc.E : Env := [((18, []), spec_NurseryOk.s), ((67, []), spec_l1In.s), ((68, []), spec_l8Copy.s)]
def spec_YoungAlloc.G (k p : Nat) (avs : List AV) (H : List HE) : Option (Int × List Int × Int × Int) := none
set_option maxRecDepth 100000 in
theorem spec_YoungAlloc.eq (k : Nat) (a0 : List ByteArray) (a1_0 : Int) (a1_1 : List Int) (a2 : Int) : fromTop Tryd.prog spec_YoungAlloc.E k spec_YoungAlloc.a (spec_YoungAlloc.G k) 1000 (bodyOf Tryd.prog 38) [.con .str a0, .agg [.v (.int .i64 a1_0), .con (.int .i64) a1_1], .v (.int .i64 a2)] [] = spec_YoungAlloc.f k a0 a1_0 a1_1 a2 := by kernel_rfl
theorem spec_YoungAlloc.E_ok : EnvOk Tryd.prog spec_YoungAlloc.E := ⟨⟨spec_NurseryOk.sound, callable_of (by kernel_rfl)⟩, ⟨spec_l1In.sound, callable_of (by kernel_rfl)⟩, ⟨spec_l8Copy.sound, callable_of (by kernel_rfl)⟩, trivial⟩
theorem spec_YoungAlloc.sound : Sound Tryd.prog 38 spec_YoungAlloc.s := by
  refine func_sound (f := spec_YoungAlloc.a) (G := spec_YoungAlloc.G) (fn := Tryd.f38) (body := bodyOf Tryd.prog 38) 1000 (by kernel_rfl) spec_YoungAlloc.E_ok Tryd.func38 (by kernel_rfl) (by kernel_rfl) (by kernel_rfl) (ptsOk_of (by kernel_rfl)) ?_ ?_ ?_ ?_
  · intro r H x h
    unfold spec_YoungAlloc.a at h
    simp only at h
    split at h
    · cases h; rfl
    · cases h
  · intro q avs H; rfl
  · intro k q pt avs H x _ h; cases h
  · intro k avs H o h
    try dsimp only at h
    split at h
    · cases h; exact spec_YoungAlloc.eq _ _ _ _ _
    · cases h

def spec_Starts.a : FnA (List Int) := ⟨18, [.tmp 4], .row 2 (.int .i64), [], [], fun x H => match x, H with
  | .own 0, [.row 2 (.int .i64) r] => some r
  | _, _ => none⟩
def spec_Starts.s : Spec := mkS [.con .str, .agg [.val, .con (.int .i64)]] (fun k avs H => match avs, H with
  | [.con .str a0, .agg [.v (.int .i64 a1_0), .con (.int .i64) a1_1]], [] => some (spec_Starts.f k a0 a1_0 a1_1)
  | _, _ => none) (fun r => (.own 0, [.row 2 (.int .i64) r]))
def spec_Starts.E : Env := [((18, []), spec_NurseryOk.s), ((58, []), spec_l8Parse.s)]
def spec_Starts.G (k p : Nat) (avs : List AV) (H : List HE) : Option (List Int) := none
set_option maxRecDepth 100000 in
theorem spec_Starts.eq (k : Nat) (a0 : List ByteArray) (a1_0 : Int) (a1_1 : List Int) : fromTop Tryd.prog spec_Starts.E k spec_Starts.a (spec_Starts.G k) 1000 (bodyOf Tryd.prog 24) [.con .str a0, .agg [.v (.int .i64 a1_0), .con (.int .i64) a1_1]] [] = spec_Starts.f k a0 a1_0 a1_1 := by kernel_rfl
theorem spec_Starts.E_ok : EnvOk Tryd.prog spec_Starts.E := ⟨⟨spec_NurseryOk.sound, callable_of (by kernel_rfl)⟩, ⟨spec_l8Parse.sound, callable_of (by kernel_rfl)⟩, trivial⟩
theorem spec_Starts.sound : Sound Tryd.prog 24 spec_Starts.s := by
  refine func_sound (f := spec_Starts.a) (G := spec_Starts.G) (fn := Tryd.f24) (body := bodyOf Tryd.prog 24) 1000 (by kernel_rfl) spec_Starts.E_ok Tryd.func24 (by kernel_rfl) (by kernel_rfl) (by kernel_rfl) (ptsOk_of (by kernel_rfl)) ?_ ?_ ?_ ?_
  · intro r H x h
    unfold spec_Starts.a at h
    simp only at h
    split at h
    · cases h; rfl
    · cases h
  · intro q avs H; rfl
  · intro k q pt avs H x _ h; cases h
  · intro k avs H o h
    try dsimp only at h
    split at h
    · cases h; exact spec_Starts.eq _ _ _ _
    · cases h

def spec_l8Obj.a : FnA (Int × List Int) := ⟨31, [.cell 6 40], .agg [.val, .row 2 (.int .i64)], [], [], fun x H => match x, H with
  | .agg [.v (.int .i64 r_0), .own 0], [.row 2 (.int .i64) r_1] => some (r_0, r_1)
  | _, _ => none⟩
def spec_l8Obj.s : Spec := mkS [.con .str, .agg [.val, .con (.int .i64)], .val] (fun k avs H => match avs, H with
  | [.con .str a0, .agg [.v (.int .i64 a1_0), .con (.int .i64) a1_1], .v (.int .i64 a2)], [] => some (spec_l8Obj.f a0 a1_0 a1_1 a2)
  | _, _ => none) (fun r => (.agg [.v (.int .i64 r.1), .own 0], [.row 2 (.int .i64) r.2]))
def spec_l8Obj.E : Env := []
def spec_l8Obj.G (k p : Nat) (avs : List AV) (H : List HE) : Option (Int × List Int) := none
set_option maxRecDepth 100000 in
theorem spec_l8Obj.eq (k : Nat) (a0 : List ByteArray) (a1_0 : Int) (a1_1 : List Int) (a2 : Int) : fromTop Tryd.prog spec_l8Obj.E k spec_l8Obj.a (spec_l8Obj.G k) 1000 (bodyOf Tryd.prog 64) [.con .str a0, .agg [.v (.int .i64 a1_0), .con (.int .i64) a1_1], .v (.int .i64 a2)] [] = spec_l8Obj.f a0 a1_0 a1_1 a2 := by kernel_rfl
theorem spec_l8Obj.E_ok : EnvOk Tryd.prog spec_l8Obj.E := trivial
theorem spec_l8Obj.sound : Sound Tryd.prog 64 spec_l8Obj.s := by
  refine func_sound (f := spec_l8Obj.a) (G := spec_l8Obj.G) (fn := Tryd.f64) (body := bodyOf Tryd.prog 64) 1000 (by kernel_rfl) spec_l8Obj.E_ok Tryd.func64 (by kernel_rfl) (by kernel_rfl) (by kernel_rfl) (ptsOk_of (by kernel_rfl)) ?_ ?_ ?_ ?_
  · intro r H x h
    unfold spec_l8Obj.a at h
    simp only at h
    split at h
    · cases h; rfl
    · cases h
  · intro q avs H; rfl
  · intro k q pt avs H x _ h; cases h
  · intro k avs H o h
    try dsimp only at h
    split at h
    · cases h; exact spec_l8Obj.eq _ _ _ _ _
    · cases h

def spec_YoungObject.a : FnA (Int × List Int × Bool) := ⟨26, [.cell 6 40, .tmp 7], .tup [.agg [.val, .row 2 (.int .i64)], .bool], [], [], fun x H => match x, H with
  | .tup [.agg [.v (.int .i64 r_0_0), .own 0], .bs false r_1], [.row 2 (.int .i64) r_0_1] => some (r_0_0, r_0_1, r_1)
  | _, _ => none⟩
def spec_YoungObject.s : Spec := mkS [.con .str, .agg [.val, .con (.int .i64)], .val] (fun k avs H => match avs, H with
  | [.con .str a0, .agg [.v (.int .i64 a1_0), .con (.int .i64) a1_1], .v (.int .i64 a2)], [] => some (spec_YoungObject.f k a0 a1_0 a1_1 a2)
  | _, _ => none) (fun r => (.tup [.agg [.v (.int .i64 r.1), .own 0], .bs false r.2.2], [.row 2 (.int .i64) r.2.1]))
def spec_YoungObject.E : Env := [((62, []), spec_RefKind.s), ((24, []), spec_Starts.s), ((63, []), spec_l7Place.s), ((64, []), spec_l8Obj.s)]
def spec_YoungObject.G (k p : Nat) (avs : List AV) (H : List HE) : Option (Int × List Int × Bool) := none
set_option maxRecDepth 100000 in
theorem spec_YoungObject.eq (k : Nat) (a0 : List ByteArray) (a1_0 : Int) (a1_1 : List Int) (a2 : Int) : fromTop Tryd.prog spec_YoungObject.E k spec_YoungObject.a (spec_YoungObject.G k) 1000 (bodyOf Tryd.prog 33) [.con .str a0, .agg [.v (.int .i64 a1_0), .con (.int .i64) a1_1], .v (.int .i64 a2)] [] = spec_YoungObject.f k a0 a1_0 a1_1 a2 := by kernel_rfl
theorem spec_YoungObject.E_ok : EnvOk Tryd.prog spec_YoungObject.E := ⟨⟨spec_RefKind.sound, callable_of (by kernel_rfl)⟩, ⟨spec_Starts.sound, callable_of (by kernel_rfl)⟩, ⟨spec_l7Place.sound, callable_of (by kernel_rfl)⟩, ⟨spec_l8Obj.sound, callable_of (by kernel_rfl)⟩, trivial⟩
theorem spec_YoungObject.sound : Sound Tryd.prog 33 spec_YoungObject.s := by
  refine func_sound (f := spec_YoungObject.a) (G := spec_YoungObject.G) (fn := Tryd.f33) (body := bodyOf Tryd.prog 33) 1000 (by kernel_rfl) spec_YoungObject.E_ok Tryd.func33 (by kernel_rfl) (by kernel_rfl) (by kernel_rfl) (ptsOk_of (by kernel_rfl)) ?_ ?_ ?_ ?_
  · intro r H x h
    unfold spec_YoungObject.a at h
    simp only at h
    split at h
    · cases h; rfl
    · cases h
  · intro q avs H; rfl
  · intro k q pt avs H x _ h; cases h
  · intro k avs H o h
    try dsimp only at h
    split at h
    · cases h; exact spec_YoungObject.eq _ _ _ _ _
    · cases h

def spec_YoungSet.a : FnA (Int × List Int × Bool) := ⟨64, [.cell 10 30, .tmp 11], .tup [.agg [.val, .row 2 (.int .i64)], .bool], [], [⟨7, [2, 3, 4, 6, 10, 50], [.val, .val, .val, .box [.val, .con (.int .i64)], .box [.val, .val], .bool], []⟩], fun x H => match x, H with
  | .tup [.agg [.v (.int .i64 r_0_0), .own 0], .bs false r_1], [.row 2 (.int .i64) r_0_1] => some (r_0_0, r_0_1, r_1)
  | _, _ => none⟩
def spec_YoungSet.s : Spec := mkS [.con .str, .agg [.val, .con (.int .i64)], .val, .val, .val] (fun k avs H => match avs, H with
  | [.con .str a0, .agg [.v (.int .i64 a1_0), .con (.int .i64) a1_1], .v (.int .i64 a2), .v (.int .i64 a3), .v (.int .i64 a4)], [] => some (spec_YoungSet.f k a0 a1_0 a1_1 a2 a3 a4)
  | _, _ => none) (fun r => (.tup [.agg [.v (.int .i64 r.1), .own 0], .bs false r.2.2], [.row 2 (.int .i64) r.2.1]))
def spec_YoungSet.E : Env := [((33, []), spec_YoungObject.s), ((67, []), spec_l1In.s), ((24, []), spec_Starts.s), ((59, []), spec_l8Ref.s), ((68, []), spec_l8Copy.s)]
def spec_YoungSet.G7 (k : Nat) (avs : List AV) (H : List HE) : Option (Int × List Int × Bool) := match avs, H with
  | [.v (.int .i64 x2), .v (.int .i64 x3), .v (.int .i64 x4), .box 0 0, .box 1 0, .bs false x50], [.box [.v (.int .i64 x6_0), .con (.int .i64) x6_1], .box [.v (.int .i64 x10_0), .v (.slice none 0 0)]] => spec_YoungSet.p7 k x2 x3 x4 x6_0 x6_1 x10_0 x50
  | _, _ => none
def spec_YoungSet.G (k p : Nat) (avs : List AV) (H : List HE) : Option (Int × List Int × Bool) := (pick1 7 (spec_YoungSet.G7 k avs H) none p)
set_option maxRecDepth 100000 in
theorem spec_YoungSet.eq (k : Nat) (a0 : List ByteArray) (a1_0 : Int) (a1_1 : List Int) (a2 : Int) (a3 : Int) (a4 : Int) : fromTop Tryd.prog spec_YoungSet.E k spec_YoungSet.a (spec_YoungSet.G k) 1000 (bodyOf Tryd.prog 41) [.con .str a0, .agg [.v (.int .i64 a1_0), .con (.int .i64) a1_1], .v (.int .i64 a2), .v (.int .i64 a3), .v (.int .i64 a4)] [] = spec_YoungSet.f k a0 a1_0 a1_1 a2 a3 a4 := by kernel_rfl
set_option maxRecDepth 100000 in
theorem spec_YoungSet.eq7 (k : Nat) (x2 : Int) (x3 : Int) (x4 : Int) (x6_0 : Int) (x6_1 : List Int) (x10_0 : Int) (x50 : Bool) : fromPt Tryd.prog spec_YoungSet.E k spec_YoungSet.a (spec_YoungSet.G k) 1000 (bodyOf Tryd.prog 41) 7 [.v (.int .i64 x2), .v (.int .i64 x3), .v (.int .i64 x4), .box 0 0, .box 1 0, .bs false x50] [.box [.v (.int .i64 x6_0), .con (.int .i64) x6_1], .box [.v (.int .i64 x10_0), .v (.slice none 0 0)]] = spec_YoungSet.p7 (k + 1) x2 x3 x4 x6_0 x6_1 x10_0 x50 := by kernel_rfl
theorem spec_YoungSet.G7_0 {avs : List AV} {H : List HE} : spec_YoungSet.G7 0 avs H = none := by unfold spec_YoungSet.G7; split <;> rfl
theorem spec_YoungSet.G7_s (k : Nat) {avs : List AV} {H : List HE} {x : Int × List Int × Bool} (h : spec_YoungSet.G7 (k + 1) avs H = some x) : fromPt Tryd.prog spec_YoungSet.E k spec_YoungSet.a (spec_YoungSet.G k) 1000 (bodyOf Tryd.prog 41) 7 avs H = some x := by
  unfold spec_YoungSet.G7 at h
  split at h
  · rw [← h]; exact spec_YoungSet.eq7 _ _ _ _ _ _ _ _
  · cases h
theorem spec_YoungSet.E_ok : EnvOk Tryd.prog spec_YoungSet.E := ⟨⟨spec_YoungObject.sound, callable_of (by kernel_rfl)⟩, ⟨spec_l1In.sound, callable_of (by kernel_rfl)⟩, ⟨spec_Starts.sound, callable_of (by kernel_rfl)⟩, ⟨spec_l8Ref.sound, callable_of (by kernel_rfl)⟩, ⟨spec_l8Copy.sound, callable_of (by kernel_rfl)⟩, trivial⟩
theorem spec_YoungSet.sound : Sound Tryd.prog 41 spec_YoungSet.s := by
  refine func_sound (f := spec_YoungSet.a) (G := spec_YoungSet.G) (fn := Tryd.f41) (body := bodyOf Tryd.prog 41) 1000 (by kernel_rfl) spec_YoungSet.E_ok Tryd.func41 (by kernel_rfl) (by kernel_rfl) (by kernel_rfl) (ptsOk_of (by kernel_rfl)) ?_ ?_ ?_ ?_
  · intro r H x h
    unfold spec_YoungSet.a at h
    simp only at h
    split at h
    · cases h; rfl
    · cases h
  · exact fun q avs H => pick1_none spec_YoungSet.G7_0 (rfl)
  · intro k q pt avs H x _ h
    rcases pick1_some h with ⟨rfl, h⟩ | h
    · exact spec_YoungSet.G7_s _ h
    cases h
  · intro k avs H o h
    try dsimp only at h
    split at h
    · cases h; exact spec_YoungSet.eq _ _ _ _ _ _ _
    · cases h

def spec_l1Rd_nursery.a : FnA (List Int × Int × Int × List Int) := ⟨94, [.cell 4 30], .agg [.val, .row 2 (.int .i64)], [.box [.con (.int .u8), .val]], [⟨10, [0, 1, 4, 5, 6, 7], [.box [], .con .str, .box [.val, .val], .box [.val, .row 2 (.int .i64)], .row 2 (.int .i64), .val], [.box [.con (.int .u8), .val]]⟩, ⟨29, [0, 1, 4, 5, 6, 7, 8], [.box [], .con .str, .box [.val, .val], .box [.val, .row 2 (.int .i64)], .row 2 (.int .i64), .val, .box [.val, .dead]], [.box [.con (.int .u8), .val]]⟩, ⟨41, [0, 1, 4, 5, 6, 7], [.box [], .con .str, .box [.val, .val], .box [.val, .row 2 (.int .i64)], .row 2 (.int .i64), .val], [.box [.con (.int .u8), .val]]⟩, ⟨43, [0, 1, 4, 5, 6, 7, 80], [.box [], .con .str, .box [.val, .val], .box [.val, .row 2 (.int .i64)], .row 2 (.int .i64), .val, .bool], [.box [.con (.int .u8), .val]]⟩], fun x H => match x, H with
  | .agg [.v (.int .i64 r_0), .own 1], [.box [.con (.int .u8) h0_0, .v (.int .i64 h0_1)], .row 2 (.int .i64) r_1] => some (h0_0, h0_1, r_0, r_1)
  | _, _ => none⟩
def spec_l1Rd_nursery.s : Spec := mkS [.box [.con (.int .u8), .val], .con .str] (fun k avs H => match avs, H with
  | [.box 0 0, .con .str a1], [.box [.con (.int .u8) a0_0, .v (.int .i64 a0_1)]] => some (spec_l1Rd_nursery.f k a0_0 a0_1 a1)
  | _, _ => none) (fun r => (.agg [.v (.int .i64 r.2.2.1), .own 1], [.box [.con (.int .u8) r.1, .v (.int .i64 r.2.1)], .row 2 (.int .i64) r.2.2.2]))
def spec_l1Rd_nursery.E : Env := [((89, []), spec_l1Rd_below.s), ((102, []), spec_l1Rd_size.s), ((38, []), spec_YoungAlloc.s), ((90, []), spec_l1Rd_once.s), ((41, []), spec_YoungSet.s)]
def spec_l1Rd_nursery.G10 (k : Nat) (avs : List AV) (H : List HE) : Option (List Int × Int × Int × List Int) := match avs, H with
  | [.box 0 0, .con .str x1, .box 1 0, .box 2 0, .own 4, .v (.int .i64 x7)], [.box [.con (.int .u8) h0_0, .v (.int .i64 h0_1)], .box [.v (.int .i64 x4_0), .v (.slice none 0 0)], .box [.v (.int .i64 x5_0), .own 3], .row 2 (.int .i64) x5_1, .row 2 (.int .i64) x6] => spec_l1Rd_nursery.p10 k h0_0 h0_1 x1 x4_0 x5_0 x5_1 x6 x7
  | _, _ => none
def spec_l1Rd_nursery.G29 (k : Nat) (avs : List AV) (H : List HE) : Option (List Int × Int × Int × List Int) := match avs, H with
  | [.box 0 0, .con .str x1, .box 1 0, .box 2 0, .own 4, .v (.int .i64 x7), .box 5 0], [.box [.con (.int .u8) h0_0, .v (.int .i64 h0_1)], .box [.v (.int .i64 x4_0), .v (.slice none 0 0)], .box [.v (.int .i64 x5_0), .own 3], .row 2 (.int .i64) x5_1, .row 2 (.int .i64) x6, .box [.v (.int .i64 x8_0), .dead]] => spec_l1Rd_nursery.p29 k h0_0 h0_1 x1 x4_0 x5_0 x5_1 x6 x7 x8_0
  | _, _ => none
def spec_l1Rd_nursery.G41 (k : Nat) (avs : List AV) (H : List HE) : Option (List Int × Int × Int × List Int) := match avs, H with
  | [.box 0 0, .con .str x1, .box 1 0, .box 2 0, .own 4, .v (.int .i64 x7)], [.box [.con (.int .u8) h0_0, .v (.int .i64 h0_1)], .box [.v (.int .i64 x4_0), .v (.slice none 0 0)], .box [.v (.int .i64 x5_0), .own 3], .row 2 (.int .i64) x5_1, .row 2 (.int .i64) x6] => spec_l1Rd_nursery.p41 k h0_0 h0_1 x1 x4_0 x5_0 x5_1 x6 x7
  | _, _ => none
def spec_l1Rd_nursery.G43 (k : Nat) (avs : List AV) (H : List HE) : Option (List Int × Int × Int × List Int) := match avs, H with
  | [.box 0 0, .con .str x1, .box 1 0, .box 2 0, .own 4, .v (.int .i64 x7), .bs false x80], [.box [.con (.int .u8) h0_0, .v (.int .i64 h0_1)], .box [.v (.int .i64 x4_0), .v (.slice none 0 0)], .box [.v (.int .i64 x5_0), .own 3], .row 2 (.int .i64) x5_1, .row 2 (.int .i64) x6] => spec_l1Rd_nursery.p43 k h0_0 h0_1 x1 x4_0 x5_0 x5_1 x6 x7 x80
  | _, _ => none
def spec_l1Rd_nursery.G (k p : Nat) (avs : List AV) (H : List HE) : Option (List Int × Int × Int × List Int) := (pick1 10 (spec_l1Rd_nursery.G10 k avs H) (pick1 29 (spec_l1Rd_nursery.G29 k avs H) (pick1 41 (spec_l1Rd_nursery.G41 k avs H) (pick1 43 (spec_l1Rd_nursery.G43 k avs H) none p) p) p) p)
set_option maxRecDepth 100000 in
theorem spec_l1Rd_nursery.eq (k : Nat) (a0_0 : List Int) (a0_1 : Int) (a1 : List ByteArray) : fromTop Tryd.prog spec_l1Rd_nursery.E k spec_l1Rd_nursery.a (spec_l1Rd_nursery.G k) 1000 (bodyOf Tryd.prog 83) [.box 0 0, .con .str a1] [.box [.con (.int .u8) a0_0, .v (.int .i64 a0_1)]] = spec_l1Rd_nursery.f k a0_0 a0_1 a1 := by kernel_rfl
set_option maxRecDepth 100000 in
theorem spec_l1Rd_nursery.eq10 (k : Nat) (h0_0 : List Int) (h0_1 : Int) (x1 : List ByteArray) (x4_0 : Int) (x5_0 : Int) (x5_1 : List Int) (x6 : List Int) (x7 : Int) : fromPt Tryd.prog spec_l1Rd_nursery.E k spec_l1Rd_nursery.a (spec_l1Rd_nursery.G k) 1000 (bodyOf Tryd.prog 83) 10 [.box 0 0, .con .str x1, .box 1 0, .box 2 0, .own 4, .v (.int .i64 x7)] [.box [.con (.int .u8) h0_0, .v (.int .i64 h0_1)], .box [.v (.int .i64 x4_0), .v (.slice none 0 0)], .box [.v (.int .i64 x5_0), .own 3], .row 2 (.int .i64) x5_1, .row 2 (.int .i64) x6] = spec_l1Rd_nursery.p10 (k + 1) h0_0 h0_1 x1 x4_0 x5_0 x5_1 x6 x7 := by kernel_rfl
theorem spec_l1Rd_nursery.G10_0 {avs : List AV} {H : List HE} : spec_l1Rd_nursery.G10 0 avs H = none := by unfold spec_l1Rd_nursery.G10; split <;> rfl
theorem spec_l1Rd_nursery.G10_s (k : Nat) {avs : List AV} {H : List HE} {x : List Int × Int × Int × List Int} (h : spec_l1Rd_nursery.G10 (k + 1) avs H = some x) : fromPt Tryd.prog spec_l1Rd_nursery.E k spec_l1Rd_nursery.a (spec_l1Rd_nursery.G k) 1000 (bodyOf Tryd.prog 83) 10 avs H = some x := by
  unfold spec_l1Rd_nursery.G10 at h
  split at h
  · rw [← h]; exact spec_l1Rd_nursery.eq10 _ _ _ _ _ _ _ _ _
  · cases h
set_option maxRecDepth 100000 in
theorem spec_l1Rd_nursery.eq29 (k : Nat) (h0_0 : List Int) (h0_1 : Int) (x1 : List ByteArray) (x4_0 : Int) (x5_0 : Int) (x5_1 : List Int) (x6 : List Int) (x7 : Int) (x8_0 : Int) : fromPt Tryd.prog spec_l1Rd_nursery.E k spec_l1Rd_nursery.a (spec_l1Rd_nursery.G k) 1000 (bodyOf Tryd.prog 83) 29 [.box 0 0, .con .str x1, .box 1 0, .box 2 0, .own 4, .v (.int .i64 x7), .box 5 0] [.box [.con (.int .u8) h0_0, .v (.int .i64 h0_1)], .box [.v (.int .i64 x4_0), .v (.slice none 0 0)], .box [.v (.int .i64 x5_0), .own 3], .row 2 (.int .i64) x5_1, .row 2 (.int .i64) x6, .box [.v (.int .i64 x8_0), .dead]] = spec_l1Rd_nursery.p29 (k + 1) h0_0 h0_1 x1 x4_0 x5_0 x5_1 x6 x7 x8_0 := by kernel_rfl
theorem spec_l1Rd_nursery.G29_0 {avs : List AV} {H : List HE} : spec_l1Rd_nursery.G29 0 avs H = none := by unfold spec_l1Rd_nursery.G29; split <;> rfl
theorem spec_l1Rd_nursery.G29_s (k : Nat) {avs : List AV} {H : List HE} {x : List Int × Int × Int × List Int} (h : spec_l1Rd_nursery.G29 (k + 1) avs H = some x) : fromPt Tryd.prog spec_l1Rd_nursery.E k spec_l1Rd_nursery.a (spec_l1Rd_nursery.G k) 1000 (bodyOf Tryd.prog 83) 29 avs H = some x := by
  unfold spec_l1Rd_nursery.G29 at h
  split at h
  · rw [← h]; exact spec_l1Rd_nursery.eq29 _ _ _ _ _ _ _ _ _ _
  · cases h
set_option maxRecDepth 100000 in
theorem spec_l1Rd_nursery.eq41 (k : Nat) (h0_0 : List Int) (h0_1 : Int) (x1 : List ByteArray) (x4_0 : Int) (x5_0 : Int) (x5_1 : List Int) (x6 : List Int) (x7 : Int) : fromPt Tryd.prog spec_l1Rd_nursery.E k spec_l1Rd_nursery.a (spec_l1Rd_nursery.G k) 1000 (bodyOf Tryd.prog 83) 41 [.box 0 0, .con .str x1, .box 1 0, .box 2 0, .own 4, .v (.int .i64 x7)] [.box [.con (.int .u8) h0_0, .v (.int .i64 h0_1)], .box [.v (.int .i64 x4_0), .v (.slice none 0 0)], .box [.v (.int .i64 x5_0), .own 3], .row 2 (.int .i64) x5_1, .row 2 (.int .i64) x6] = spec_l1Rd_nursery.p41 (k + 1) h0_0 h0_1 x1 x4_0 x5_0 x5_1 x6 x7 := by kernel_rfl
theorem spec_l1Rd_nursery.G41_0 {avs : List AV} {H : List HE} : spec_l1Rd_nursery.G41 0 avs H = none := by unfold spec_l1Rd_nursery.G41; split <;> rfl
theorem spec_l1Rd_nursery.G41_s (k : Nat) {avs : List AV} {H : List HE} {x : List Int × Int × Int × List Int} (h : spec_l1Rd_nursery.G41 (k + 1) avs H = some x) : fromPt Tryd.prog spec_l1Rd_nursery.E k spec_l1Rd_nursery.a (spec_l1Rd_nursery.G k) 1000 (bodyOf Tryd.prog 83) 41 avs H = some x := by
  unfold spec_l1Rd_nursery.G41 at h
  split at h
  · rw [← h]; exact spec_l1Rd_nursery.eq41 _ _ _ _ _ _ _ _ _
  · cases h
set_option maxRecDepth 100000 in
theorem spec_l1Rd_nursery.eq43 (k : Nat) (h0_0 : List Int) (h0_1 : Int) (x1 : List ByteArray) (x4_0 : Int) (x5_0 : Int) (x5_1 : List Int) (x6 : List Int) (x7 : Int) (x80 : Bool) : fromPt Tryd.prog spec_l1Rd_nursery.E k spec_l1Rd_nursery.a (spec_l1Rd_nursery.G k) 1000 (bodyOf Tryd.prog 83) 43 [.box 0 0, .con .str x1, .box 1 0, .box 2 0, .own 4, .v (.int .i64 x7), .bs false x80] [.box [.con (.int .u8) h0_0, .v (.int .i64 h0_1)], .box [.v (.int .i64 x4_0), .v (.slice none 0 0)], .box [.v (.int .i64 x5_0), .own 3], .row 2 (.int .i64) x5_1, .row 2 (.int .i64) x6] = spec_l1Rd_nursery.p43 (k + 1) h0_0 h0_1 x1 x4_0 x5_0 x5_1 x6 x7 x80 := by kernel_rfl
theorem spec_l1Rd_nursery.G43_0 {avs : List AV} {H : List HE} : spec_l1Rd_nursery.G43 0 avs H = none := by unfold spec_l1Rd_nursery.G43; split <;> rfl
theorem spec_l1Rd_nursery.G43_s (k : Nat) {avs : List AV} {H : List HE} {x : List Int × Int × Int × List Int} (h : spec_l1Rd_nursery.G43 (k + 1) avs H = some x) : fromPt Tryd.prog spec_l1Rd_nursery.E k spec_l1Rd_nursery.a (spec_l1Rd_nursery.G k) 1000 (bodyOf Tryd.prog 83) 43 avs H = some x := by
  unfold spec_l1Rd_nursery.G43 at h
  split at h
  · rw [← h]; exact spec_l1Rd_nursery.eq43 _ _ _ _ _ _ _ _ _ _
  · cases h
theorem spec_l1Rd_nursery.E_ok : EnvOk Tryd.prog spec_l1Rd_nursery.E := ⟨⟨spec_l1Rd_below.sound, callable_of (by kernel_rfl)⟩, ⟨spec_l1Rd_size.sound, callable_of (by kernel_rfl)⟩, ⟨spec_YoungAlloc.sound, callable_of (by kernel_rfl)⟩, ⟨spec_l1Rd_once.sound, callable_of (by kernel_rfl)⟩, ⟨spec_YoungSet.sound, callable_of (by kernel_rfl)⟩, trivial⟩
theorem spec_l1Rd_nursery.sound : Sound Tryd.prog 83 spec_l1Rd_nursery.s := by
  refine func_sound (f := spec_l1Rd_nursery.a) (G := spec_l1Rd_nursery.G) (fn := Tryd.f83) (body := bodyOf Tryd.prog 83) 1000 (by kernel_rfl) spec_l1Rd_nursery.E_ok Tryd.func83 (by kernel_rfl) (by kernel_rfl) (by kernel_rfl) (ptsOk_of (by kernel_rfl)) ?_ ?_ ?_ ?_
  · intro r H x h
    unfold spec_l1Rd_nursery.a at h
    simp only at h
    split at h
    · cases h; rfl
    · cases h
  · exact fun q avs H => pick1_none spec_l1Rd_nursery.G10_0 (pick1_none spec_l1Rd_nursery.G29_0 (pick1_none spec_l1Rd_nursery.G41_0 (pick1_none spec_l1Rd_nursery.G43_0 (rfl))))
  · intro k q pt avs H x _ h
    rcases pick1_some h with ⟨rfl, h⟩ | h
    · exact spec_l1Rd_nursery.G10_s _ h
    rcases pick1_some h with ⟨rfl, h⟩ | h
    · exact spec_l1Rd_nursery.G29_s _ h
    rcases pick1_some h with ⟨rfl, h⟩ | h
    · exact spec_l1Rd_nursery.G41_s _ h
    rcases pick1_some h with ⟨rfl, h⟩ | h
    · exact spec_l1Rd_nursery.G43_s _ h
    cases h
  · intro k avs H o h
    try dsimp only at h
    split at h
    · cases h; exact spec_l1Rd_nursery.eq _ _ _ _
    · cases h

def spec_l1Rd_word.a : FnA (List Int × Int × Int) := ⟨16, [.tmp 2], .val, [.box [.con (.int .u8), .val]], [⟨8, [0, 3, 4], [.box [], .val, .val], [.box [.con (.int .u8), .val]]⟩], fun x H => match x, H with
  | .v (.int .u64 r), [.box [.con (.int .u8) h0_0, .v (.int .i64 h0_1)]] => some (h0_0, h0_1, r)
  | _, _ => none⟩
def spec_l1Rd_word.s : Spec := mkS [.box [.con (.int .u8), .val]] (fun k avs H => match avs, H with
  | [.box 0 0], [.box [.con (.int .u8) a0_0, .v (.int .i64 a0_1)]] => some (spec_l1Rd_word.f k a0_0 a0_1)
  | _, _ => none) (fun r => (.v (.int .u64 r.2.2), [.box [.con (.int .u8) r.1, .v (.int .i64 r.2.1)]]))
def spec_l1Rd_word.E : Env := [((107, []), spec_l1Rd_next.s)]
def spec_l1Rd_word.G8 (k : Nat) (avs : List AV) (H : List HE) : Option (List Int × Int × Int) := match avs, H with
  | [.box 0 0, .v (.int .u64 x3), .v (.int .i64 x4)], [.box [.con (.int .u8) h0_0, .v (.int .i64 h0_1)]] => spec_l1Rd_word.p8 k h0_0 h0_1 x3 x4
  | _, _ => none
def spec_l1Rd_word.G (k p : Nat) (avs : List AV) (H : List HE) : Option (List Int × Int × Int) := (pick1 8 (spec_l1Rd_word.G8 k avs H) none p)
set_option maxRecDepth 100000 in
theorem spec_l1Rd_word.eq (k : Nat) (a0_0 : List Int) (a0_1 : Int) : fromTop Tryd.prog spec_l1Rd_word.E k spec_l1Rd_word.a (spec_l1Rd_word.G k) 1000 (bodyOf Tryd.prog 114) [.box 0 0] [.box [.con (.int .u8) a0_0, .v (.int .i64 a0_1)]] = spec_l1Rd_word.f k a0_0 a0_1 := by kernel_rfl
set_option maxRecDepth 100000 in
theorem spec_l1Rd_word.eq8 (k : Nat) (h0_0 : List Int) (h0_1 : Int) (x3 : Int) (x4 : Int) : fromPt Tryd.prog spec_l1Rd_word.E k spec_l1Rd_word.a (spec_l1Rd_word.G k) 1000 (bodyOf Tryd.prog 114) 8 [.box 0 0, .v (.int .u64 x3), .v (.int .i64 x4)] [.box [.con (.int .u8) h0_0, .v (.int .i64 h0_1)]] = spec_l1Rd_word.p8 (k + 1) h0_0 h0_1 x3 x4 := by kernel_rfl
theorem spec_l1Rd_word.G8_0 {avs : List AV} {H : List HE} : spec_l1Rd_word.G8 0 avs H = none := by unfold spec_l1Rd_word.G8; split <;> rfl
theorem spec_l1Rd_word.G8_s (k : Nat) {avs : List AV} {H : List HE} {x : List Int × Int × Int} (h : spec_l1Rd_word.G8 (k + 1) avs H = some x) : fromPt Tryd.prog spec_l1Rd_word.E k spec_l1Rd_word.a (spec_l1Rd_word.G k) 1000 (bodyOf Tryd.prog 114) 8 avs H = some x := by
  unfold spec_l1Rd_word.G8 at h
  split at h
  · rw [← h]; exact spec_l1Rd_word.eq8 _ _ _ _ _
  · cases h
theorem spec_l1Rd_word.E_ok : EnvOk Tryd.prog spec_l1Rd_word.E := ⟨⟨spec_l1Rd_next.sound, callable_of (by kernel_rfl)⟩, trivial⟩
theorem spec_l1Rd_word.sound : Sound Tryd.prog 114 spec_l1Rd_word.s := by
  refine func_sound (f := spec_l1Rd_word.a) (G := spec_l1Rd_word.G) (fn := Tryd.f114) (body := bodyOf Tryd.prog 114) 1000 (by kernel_rfl) spec_l1Rd_word.E_ok Tryd.func114 (by kernel_rfl) (by kernel_rfl) (by kernel_rfl) (ptsOk_of (by kernel_rfl)) ?_ ?_ ?_ ?_
  · intro r H x h
    unfold spec_l1Rd_word.a at h
    simp only at h
    split at h
    · cases h; rfl
    · cases h
  · exact fun q avs H => pick1_none spec_l1Rd_word.G8_0 (rfl)
  · intro k q pt avs H x _ h
    rcases pick1_some h with ⟨rfl, h⟩ | h
    · exact spec_l1Rd_word.G8_s _ h
    cases h
  · intro k avs H o h
    try dsimp only at h
    split at h
    · cases h; exact spec_l1Rd_word.eq _ _ _
    · cases h

def spec_l1Rd_near.a : FnA (List Int × Int × Int) := ⟨31, [.tmp 6], .val, [.box [.con (.int .u8), .val]], [], fun x H => match x, H with
  | .v (.int .i64 r), [.box [.con (.int .u8) h0_0, .v (.int .i64 h0_1)]] => some (h0_0, h0_1, r)
  | _, _ => none⟩
def spec_l1Rd_near.s : Spec := mkS [.box [.con (.int .u8), .val], .val, .val] (fun k avs H => match avs, H with
  | [.box 0 0, .v (.int .i64 a1), .v (.int .i64 a2)], [.box [.con (.int .u8) a0_0, .v (.int .i64 a0_1)]] => some (spec_l1Rd_near.f k a0_0 a0_1 a1 a2)
  | _, _ => none) (fun r => (.v (.int .i64 r.2.2), [.box [.con (.int .u8) r.1, .v (.int .i64 r.2.1)]]))
def spec_l1Rd_near.E : Env := [((89, []), spec_l1Rd_below.s), ((114, []), spec_l1Rd_word.s)]
def spec_l1Rd_near.G (k p : Nat) (avs : List AV) (H : List HE) : Option (List Int × Int × Int) := none
set_option maxRecDepth 100000 in
theorem spec_l1Rd_near.eq (k : Nat) (a0_0 : List Int) (a0_1 : Int) (a1 : Int) (a2 : Int) : fromTop Tryd.prog spec_l1Rd_near.E k spec_l1Rd_near.a (spec_l1Rd_near.G k) 1000 (bodyOf Tryd.prog 103) [.box 0 0, .v (.int .i64 a1), .v (.int .i64 a2)] [.box [.con (.int .u8) a0_0, .v (.int .i64 a0_1)]] = spec_l1Rd_near.f k a0_0 a0_1 a1 a2 := by kernel_rfl
theorem spec_l1Rd_near.E_ok : EnvOk Tryd.prog spec_l1Rd_near.E := ⟨⟨spec_l1Rd_below.sound, callable_of (by kernel_rfl)⟩, ⟨spec_l1Rd_word.sound, callable_of (by kernel_rfl)⟩, trivial⟩
theorem spec_l1Rd_near.sound : Sound Tryd.prog 103 spec_l1Rd_near.s := by
  refine func_sound (f := spec_l1Rd_near.a) (G := spec_l1Rd_near.G) (fn := Tryd.f103) (body := bodyOf Tryd.prog 103) 1000 (by kernel_rfl) spec_l1Rd_near.E_ok Tryd.func103 (by kernel_rfl) (by kernel_rfl) (by kernel_rfl) (ptsOk_of (by kernel_rfl)) ?_ ?_ ?_ ?_
  · intro r H x h
    unfold spec_l1Rd_near.a at h
    simp only at h
    split at h
    · cases h; rfl
    · cases h
  · intro q avs H; rfl
  · intro k q pt avs H x _ h; cases h
  · intro k avs H o h
    try dsimp only at h
    split at h
    · cases h; exact spec_l1Rd_near.eq _ _ _ _ _
    · cases h

def spec_l1Rd_off.a : FnA (List Int × Int × Int) := ⟨22, [.tmp 6], .val, [.box [.con (.int .u8), .val]], [], fun x H => match x, H with
  | .v (.int .i64 r), [.box [.con (.int .u8) h0_0, .v (.int .i64 h0_1)]] => some (h0_0, h0_1, r)
  | _, _ => none⟩
def spec_l1Rd_off.s : Spec := mkS [.box [.con (.int .u8), .val], .val, .val] (fun k avs H => match avs, H with
  | [.box 0 0, .v (.int .i64 a1), .v (.int .i64 a2)], [.box [.con (.int .u8) a0_0, .v (.int .i64 a0_1)]] => some (spec_l1Rd_off.f k a0_0 a0_1 a1 a2)
  | _, _ => none) (fun r => (.v (.int .i64 r.2.2), [.box [.con (.int .u8) r.1, .v (.int .i64 r.2.1)]]))
def spec_l1Rd_off.E : Env := [((90, []), spec_l1Rd_once.s), ((89, []), spec_l1Rd_below.s), ((103, []), spec_l1Rd_near.s)]
def spec_l1Rd_off.G (k p : Nat) (avs : List AV) (H : List HE) : Option (List Int × Int × Int) := none
set_option maxRecDepth 100000 in
theorem spec_l1Rd_off.eq (k : Nat) (a0_0 : List Int) (a0_1 : Int) (a1 : Int) (a2 : Int) : fromTop Tryd.prog spec_l1Rd_off.E k spec_l1Rd_off.a (spec_l1Rd_off.G k) 1000 (bodyOf Tryd.prog 84) [.box 0 0, .v (.int .i64 a1), .v (.int .i64 a2)] [.box [.con (.int .u8) a0_0, .v (.int .i64 a0_1)]] = spec_l1Rd_off.f k a0_0 a0_1 a1 a2 := by kernel_rfl
theorem spec_l1Rd_off.E_ok : EnvOk Tryd.prog spec_l1Rd_off.E := ⟨⟨spec_l1Rd_once.sound, callable_of (by kernel_rfl)⟩, ⟨spec_l1Rd_below.sound, callable_of (by kernel_rfl)⟩, ⟨spec_l1Rd_near.sound, callable_of (by kernel_rfl)⟩, trivial⟩
theorem spec_l1Rd_off.sound : Sound Tryd.prog 84 spec_l1Rd_off.s := by
  refine func_sound (f := spec_l1Rd_off.a) (G := spec_l1Rd_off.G) (fn := Tryd.f84) (body := bodyOf Tryd.prog 84) 1000 (by kernel_rfl) spec_l1Rd_off.E_ok Tryd.func84 (by kernel_rfl) (by kernel_rfl) (by kernel_rfl) (ptsOk_of (by kernel_rfl)) ?_ ?_ ?_ ?_
  · intro r H x h
    unfold spec_l1Rd_off.a at h
    simp only at h
    split at h
    · cases h; rfl
    · cases h
  · intro q avs H; rfl
  · intro k q pt avs H x _ h; cases h
  · intro k avs H o h
    try dsimp only at h
    split at h
    · cases h; exact spec_l1Rd_off.eq _ _ _ _ _
    · cases h

def spec_l1Rd_ref.a : FnA (List Int × Int × Int) := ⟨28, [.tmp 2], .val, [.box [.con (.int .u8), .val]], [], fun x H => match x, H with
  | .v (.int .i64 r), [.box [.con (.int .u8) h0_0, .v (.int .i64 h0_1)]] => some (h0_0, h0_1, r)
  | _, _ => none⟩
def spec_l1Rd_ref.s : Spec := mkS [.box [.con (.int .u8), .val]] (fun k avs H => match avs, H with
  | [.box 0 0], [.box [.con (.int .u8) a0_0, .v (.int .i64 a0_1)]] => some (spec_l1Rd_ref.f k a0_0 a0_1)
  | _, _ => none) (fun r => (.v (.int .i64 r.2.2), [.box [.con (.int .u8) r.1, .v (.int .i64 r.2.1)]]))
def spec_l1Rd_ref.E : Env := [((89, []), spec_l1Rd_below.s), ((84, []), spec_l1Rd_off.s)]
def spec_l1Rd_ref.G (k p : Nat) (avs : List AV) (H : List HE) : Option (List Int × Int × Int) := none
set_option maxRecDepth 100000 in
theorem spec_l1Rd_ref.eq (k : Nat) (a0_0 : List Int) (a0_1 : Int) : fromTop Tryd.prog spec_l1Rd_ref.E k spec_l1Rd_ref.a (spec_l1Rd_ref.G k) 1000 (bodyOf Tryd.prog 104) [.box 0 0] [.box [.con (.int .u8) a0_0, .v (.int .i64 a0_1)]] = spec_l1Rd_ref.f k a0_0 a0_1 := by kernel_rfl
theorem spec_l1Rd_ref.E_ok : EnvOk Tryd.prog spec_l1Rd_ref.E := ⟨⟨spec_l1Rd_below.sound, callable_of (by kernel_rfl)⟩, ⟨spec_l1Rd_off.sound, callable_of (by kernel_rfl)⟩, trivial⟩
theorem spec_l1Rd_ref.sound : Sound Tryd.prog 104 spec_l1Rd_ref.s := by
  refine func_sound (f := spec_l1Rd_ref.a) (G := spec_l1Rd_ref.G) (fn := Tryd.f104) (body := bodyOf Tryd.prog 104) 1000 (by kernel_rfl) spec_l1Rd_ref.E_ok Tryd.func104 (by kernel_rfl) (by kernel_rfl) (by kernel_rfl) (ptsOk_of (by kernel_rfl)) ?_ ?_ ?_ ?_
  · intro r H x h
    unfold spec_l1Rd_ref.a at h
    simp only at h
    split at h
    · cases h; rfl
    · cases h
  · intro q avs H; rfl
  · intro k q pt avs H x _ h; cases h
  · intro k avs H o h
    try dsimp only at h
    split at h
    · cases h; exact spec_l1Rd_ref.eq _ _ _
    · cases h

def spec_l1Rd_youngRef.a : FnA (List Int × Int × List Int × Int) := ⟨29, [.tmp 6], .val, [.box [.con (.int .u8), .val], .keep], [], fun x H => match x, H with
  | .v (.int .i64 r), [.box [.con (.int .u8) h0_0, .v (.int .i64 h0_1)], .row 2 (.int .i64) h1] => some (h0_0, h0_1, h1, r)
  | _, _ => none⟩
def spec_l1Rd_youngRef.s : Spec := mkS [.box [.con (.int .u8), .val], .con .str, .agg [.val, .row 2 (.int .i64)]] (fun k avs H => match avs, H with
  | [.box 0 0, .con .str a1, .agg [.v (.int .i64 a2_0), .own 1]], [.box [.con (.int .u8) a0_0, .v (.int .i64 a0_1)], .row 2 (.int .i64) a2_1] => some (spec_l1Rd_youngRef.f k a0_0 a0_1 a1 a2_0 a2_1)
  | _, _ => none) (fun r => (.v (.int .i64 r.2.2.2), [.box [.con (.int .u8) r.1, .v (.int .i64 r.2.1)], .row 2 (.int .i64) r.2.2.1]))
def spec_l1Rd_youngRef.E : Env := [((24, []), spec_Starts.s), ((104, []), spec_l1Rd_ref.s), ((90, []), spec_l1Rd_once.s), ((89, []), spec_l1Rd_below.s)]
def spec_l1Rd_youngRef.G (k p : Nat) (avs : List AV) (H : List HE) : Option (List Int × Int × List Int × Int) := none
set_option maxRecDepth 100000 in
theorem spec_l1Rd_youngRef.eq (k : Nat) (a0_0 : List Int) (a0_1 : Int) (a1 : List ByteArray) (a2_0 : Int) (a2_1 : List Int) : fromTop Tryd.prog spec_l1Rd_youngRef.E k spec_l1Rd_youngRef.a (spec_l1Rd_youngRef.G k) 1000 (bodyOf Tryd.prog 85) [.box 0 0, .con .str a1, .agg [.v (.int .i64 a2_0), .own 1]] [.box [.con (.int .u8) a0_0, .v (.int .i64 a0_1)], .row 2 (.int .i64) a2_1] = spec_l1Rd_youngRef.f k a0_0 a0_1 a1 a2_0 a2_1 := by kernel_rfl
theorem spec_l1Rd_youngRef.E_ok : EnvOk Tryd.prog spec_l1Rd_youngRef.E := ⟨⟨spec_Starts.sound, callable_of (by kernel_rfl)⟩, ⟨spec_l1Rd_ref.sound, callable_of (by kernel_rfl)⟩, ⟨spec_l1Rd_once.sound, callable_of (by kernel_rfl)⟩, ⟨spec_l1Rd_below.sound, callable_of (by kernel_rfl)⟩, trivial⟩
theorem spec_l1Rd_youngRef.sound : Sound Tryd.prog 85 spec_l1Rd_youngRef.s := by
  refine func_sound (f := spec_l1Rd_youngRef.a) (G := spec_l1Rd_youngRef.G) (fn := Tryd.f85) (body := bodyOf Tryd.prog 85) 1000 (by kernel_rfl) spec_l1Rd_youngRef.E_ok Tryd.func85 (by kernel_rfl) (by kernel_rfl) (by kernel_rfl) (ptsOk_of (by kernel_rfl)) ?_ ?_ ?_ ?_
  · intro r H x h
    unfold spec_l1Rd_youngRef.a at h
    simp only at h
    split at h
    · cases h; rfl
    · cases h
  · intro q avs H; rfl
  · intro k q pt avs H x _ h; cases h
  · intro k avs H o h
    try dsimp only at h
    split at h
    · cases h; exact spec_l1Rd_youngRef.eq _ _ _ _ _ _
    · cases h

def spec_l1Rd_hurtNursery.a : FnA (List Int × Int × Int × List Int) := ⟨47, [.cell 4 30], .agg [.val, .row 2 (.int .i64)], [.box [.con (.int .u8), .val], .drop], [], fun x H => match x, H with
  | .agg [.v (.int .i64 r_0), .own 2], [.box [.con (.int .u8) h0_0, .v (.int .i64 h0_1)], .gone, .row 2 (.int .i64) r_1] => some (h0_0, h0_1, r_0, r_1)
  | _, _ => none⟩
def spec_l1Rd_hurtNursery.s : Spec := mkS [.box [.con (.int .u8), .val], .agg [.val, .row 2 (.int .i64)]] (fun k avs H => match avs, H with
  | [.box 0 0, .agg [.v (.int .i64 a1_0), .own 1]], [.box [.con (.int .u8) a0_0, .v (.int .i64 a0_1)], .row 2 (.int .i64) a1_1] => some (spec_l1Rd_hurtNursery.f k a0_0 a0_1 a1_0 a1_1)
  | _, _ => none) (fun r => (.agg [.v (.int .i64 r.2.2.1), .own 2], [.box [.con (.int .u8) r.1, .v (.int .i64 r.2.1)], .gone, .row 2 (.int .i64) r.2.2.2]))
def spec_l1Rd_hurtNursery.E : Env := [((89, []), spec_l1Rd_below.s), ((84, []), spec_l1Rd_off.s)]
def spec_l1Rd_hurtNursery.G (k p : Nat) (avs : List AV) (H : List HE) : Option (List Int × Int × Int × List Int) := none
set_option maxRecDepth 100000 in
theorem spec_l1Rd_hurtNursery.eq (k : Nat) (a0_0 : List Int) (a0_1 : Int) (a1_0 : Int) (a1_1 : List Int) : fromTop Tryd.prog spec_l1Rd_hurtNursery.E k spec_l1Rd_hurtNursery.a (spec_l1Rd_hurtNursery.G k) 1000 (bodyOf Tryd.prog 82) [.box 0 0, .agg [.v (.int .i64 a1_0), .own 1]] [.box [.con (.int .u8) a0_0, .v (.int .i64 a0_1)], .row 2 (.int .i64) a1_1] = spec_l1Rd_hurtNursery.f k a0_0 a0_1 a1_0 a1_1 := by kernel_rfl
theorem spec_l1Rd_hurtNursery.E_ok : EnvOk Tryd.prog spec_l1Rd_hurtNursery.E := ⟨⟨spec_l1Rd_below.sound, callable_of (by kernel_rfl)⟩, ⟨spec_l1Rd_off.sound, callable_of (by kernel_rfl)⟩, trivial⟩
theorem spec_l1Rd_hurtNursery.sound : Sound Tryd.prog 82 spec_l1Rd_hurtNursery.s := by
  refine func_sound (f := spec_l1Rd_hurtNursery.a) (G := spec_l1Rd_hurtNursery.G) (fn := Tryd.f82) (body := bodyOf Tryd.prog 82) 1000 (by kernel_rfl) spec_l1Rd_hurtNursery.E_ok Tryd.func82 (by kernel_rfl) (by kernel_rfl) (by kernel_rfl) (ptsOk_of (by kernel_rfl)) ?_ ?_ ?_ ?_
  · intro r H x h
    unfold spec_l1Rd_hurtNursery.a at h
    simp only at h
    split at h
    · cases h; rfl
    · cases h
  · intro q avs H; rfl
  · intro k q pt avs H x _ h; cases h
  · intro k avs H o h
    try dsimp only at h
    split at h
    · cases h; exact spec_l1Rd_hurtNursery.eq _ _ _ _ _
    · cases h

def spec_DrawYoungClosure.a : FnA (List ByteArray × Int × List Int × List Int) := ⟨53, [.tmp 2, .cell 3 30, .tmp 4], .tup [.con .str, .agg [.val, .row 2 (.int .i64)], .row 2 (.int .i64)], [], [⟨14, [3, 5, 6, 7, 8, 9], [.box [.val, .val], .box [.con (.int .u8), .val], .con .str, .box [.val, .row 2 (.int .i64)], .row 2 (.int .i64), .val], []⟩, ⟨28, [3, 5, 6, 7, 8, 9, 10, 40], [.box [.val, .val], .box [.con (.int .u8), .val], .con .str, .box [.val, .row 2 (.int .i64)], .row 2 (.int .i64), .val, .val, .bool], []⟩], fun x H => match x, H with
  | .tup [.con .str r_0, .agg [.v (.int .i64 r_1_0), .own 0], .own 1], [.row 2 (.int .i64) r_1_1, .row 2 (.int .i64) r_2] => some (r_0, r_1_0, r_1_1, r_2)
  | _, _ => none⟩
def spec_DrawYoungClosure.s : Spec := mkS [.con (.int .u8)] (fun k avs H => match avs, H with
  | [.con (.int .u8) a0], [] => some (spec_DrawYoungClosure.f k a0)
  | _, _ => none) (fun r => (.tup [.con .str r.1, .agg [.v (.int .i64 r.2.1), .own 0], .own 1], [.row 2 (.int .i64) r.2.2.1, .row 2 (.int .i64) r.2.2.2]))
def spec_DrawYoungClosure.E : Env := [((80, []), spec_l1Open.s), ((81, []), spec_l1Rd_types.s), ((83, []), spec_l1Rd_nursery.s), ((89, []), spec_l1Rd_below.s), ((85, []), spec_l1Rd_youngRef.s), ((90, []), spec_l1Rd_once.s), ((62, []), spec_RefKind.s), ((82, []), spec_l1Rd_hurtNursery.s)]
def spec_DrawYoungClosure.G14 (k : Nat) (avs : List AV) (H : List HE) : Option (List ByteArray × Int × List Int × List Int) := match avs, H with
  | [.box 0 0, .box 1 0, .con .str x6, .box 2 0, .own 4, .v (.int .i64 x9)], [.box [.v (.int .i64 x3_0), .v (.slice none 0 0)], .box [.con (.int .u8) x5_0, .v (.int .i64 x5_1)], .box [.v (.int .i64 x7_0), .own 3], .row 2 (.int .i64) x7_1, .row 2 (.int .i64) x8] => spec_DrawYoungClosure.p14 k x3_0 x5_0 x5_1 x6 x7_0 x7_1 x8 x9
  | _, _ => none
def spec_DrawYoungClosure.G28 (k : Nat) (avs : List AV) (H : List HE) : Option (List ByteArray × Int × List Int × List Int) := match avs, H with
  | [.box 0 0, .box 1 0, .con .str x6, .box 2 0, .own 4, .v (.int .i64 x9), .v (.int .i64 x10), .bs false x40], [.box [.v (.int .i64 x3_0), .v (.slice none 0 0)], .box [.con (.int .u8) x5_0, .v (.int .i64 x5_1)], .box [.v (.int .i64 x7_0), .own 3], .row 2 (.int .i64) x7_1, .row 2 (.int .i64) x8] => spec_DrawYoungClosure.p28 k x3_0 x5_0 x5_1 x6 x7_0 x7_1 x8 x9 x10 x40
  | _, _ => none
def spec_DrawYoungClosure.G (k p : Nat) (avs : List AV) (H : List HE) : Option (List ByteArray × Int × List Int × List Int) := (pick1 14 (spec_DrawYoungClosure.G14 k avs H) (pick1 28 (spec_DrawYoungClosure.G28 k avs H) none p) p)
set_option maxRecDepth 100000 in
theorem spec_DrawYoungClosure.eq (k : Nat) (a0 : List Int) : fromTop Tryd.prog spec_DrawYoungClosure.E k spec_DrawYoungClosure.a (spec_DrawYoungClosure.G k) 1000 (bodyOf Tryd.prog 52) [.con (.int .u8) a0] [] = spec_DrawYoungClosure.f k a0 := by kernel_rfl
set_option maxRecDepth 100000 in
theorem spec_DrawYoungClosure.eq14 (k : Nat) (x3_0 : Int) (x5_0 : List Int) (x5_1 : Int) (x6 : List ByteArray) (x7_0 : Int) (x7_1 : List Int) (x8 : List Int) (x9 : Int) : fromPt Tryd.prog spec_DrawYoungClosure.E k spec_DrawYoungClosure.a (spec_DrawYoungClosure.G k) 1000 (bodyOf Tryd.prog 52) 14 [.box 0 0, .box 1 0, .con .str x6, .box 2 0, .own 4, .v (.int .i64 x9)] [.box [.v (.int .i64 x3_0), .v (.slice none 0 0)], .box [.con (.int .u8) x5_0, .v (.int .i64 x5_1)], .box [.v (.int .i64 x7_0), .own 3], .row 2 (.int .i64) x7_1, .row 2 (.int .i64) x8] = spec_DrawYoungClosure.p14 (k + 1) x3_0 x5_0 x5_1 x6 x7_0 x7_1 x8 x9 := by kernel_rfl
theorem spec_DrawYoungClosure.G14_0 {avs : List AV} {H : List HE} : spec_DrawYoungClosure.G14 0 avs H = none := by unfold spec_DrawYoungClosure.G14; split <;> rfl
theorem spec_DrawYoungClosure.G14_s (k : Nat) {avs : List AV} {H : List HE} {x : List ByteArray × Int × List Int × List Int} (h : spec_DrawYoungClosure.G14 (k + 1) avs H = some x) : fromPt Tryd.prog spec_DrawYoungClosure.E k spec_DrawYoungClosure.a (spec_DrawYoungClosure.G k) 1000 (bodyOf Tryd.prog 52) 14 avs H = some x := by
  unfold spec_DrawYoungClosure.G14 at h
  split at h
  · rw [← h]; exact spec_DrawYoungClosure.eq14 _ _ _ _ _ _ _ _ _
  · cases h
set_option maxRecDepth 100000 in
theorem spec_DrawYoungClosure.eq28 (k : Nat) (x3_0 : Int) (x5_0 : List Int) (x5_1 : Int) (x6 : List ByteArray) (x7_0 : Int) (x7_1 : List Int) (x8 : List Int) (x9 : Int) (x10 : Int) (x40 : Bool) : fromPt Tryd.prog spec_DrawYoungClosure.E k spec_DrawYoungClosure.a (spec_DrawYoungClosure.G k) 1000 (bodyOf Tryd.prog 52) 28 [.box 0 0, .box 1 0, .con .str x6, .box 2 0, .own 4, .v (.int .i64 x9), .v (.int .i64 x10), .bs false x40] [.box [.v (.int .i64 x3_0), .v (.slice none 0 0)], .box [.con (.int .u8) x5_0, .v (.int .i64 x5_1)], .box [.v (.int .i64 x7_0), .own 3], .row 2 (.int .i64) x7_1, .row 2 (.int .i64) x8] = spec_DrawYoungClosure.p28 (k + 1) x3_0 x5_0 x5_1 x6 x7_0 x7_1 x8 x9 x10 x40 := by kernel_rfl
theorem spec_DrawYoungClosure.G28_0 {avs : List AV} {H : List HE} : spec_DrawYoungClosure.G28 0 avs H = none := by unfold spec_DrawYoungClosure.G28; split <;> rfl
theorem spec_DrawYoungClosure.G28_s (k : Nat) {avs : List AV} {H : List HE} {x : List ByteArray × Int × List Int × List Int} (h : spec_DrawYoungClosure.G28 (k + 1) avs H = some x) : fromPt Tryd.prog spec_DrawYoungClosure.E k spec_DrawYoungClosure.a (spec_DrawYoungClosure.G k) 1000 (bodyOf Tryd.prog 52) 28 avs H = some x := by
  unfold spec_DrawYoungClosure.G28 at h
  split at h
  · rw [← h]; exact spec_DrawYoungClosure.eq28 _ _ _ _ _ _ _ _ _ _ _
  · cases h
theorem spec_DrawYoungClosure.E_ok : EnvOk Tryd.prog spec_DrawYoungClosure.E := ⟨⟨spec_l1Open.sound, callable_of (by kernel_rfl)⟩, ⟨spec_l1Rd_types.sound, callable_of (by kernel_rfl)⟩, ⟨spec_l1Rd_nursery.sound, callable_of (by kernel_rfl)⟩, ⟨spec_l1Rd_below.sound, callable_of (by kernel_rfl)⟩, ⟨spec_l1Rd_youngRef.sound, callable_of (by kernel_rfl)⟩, ⟨spec_l1Rd_once.sound, callable_of (by kernel_rfl)⟩, ⟨spec_RefKind.sound, callable_of (by kernel_rfl)⟩, ⟨spec_l1Rd_hurtNursery.sound, callable_of (by kernel_rfl)⟩, trivial⟩
theorem spec_DrawYoungClosure.sound : Sound Tryd.prog 52 spec_DrawYoungClosure.s := by
  refine func_sound (f := spec_DrawYoungClosure.a) (G := spec_DrawYoungClosure.G) (fn := Tryd.f52) (body := bodyOf Tryd.prog 52) 1000 (by kernel_rfl) spec_DrawYoungClosure.E_ok Tryd.func52 (by kernel_rfl) (by kernel_rfl) (by kernel_rfl) (ptsOk_of (by kernel_rfl)) ?_ ?_ ?_ ?_
  · intro r H x h
    unfold spec_DrawYoungClosure.a at h
    simp only at h
    split at h
    · cases h; rfl
    · cases h
  · exact fun q avs H => pick1_none spec_DrawYoungClosure.G14_0 (pick1_none spec_DrawYoungClosure.G28_0 (rfl))
  · intro k q pt avs H x _ h
    rcases pick1_some h with ⟨rfl, h⟩ | h
    · exact spec_DrawYoungClosure.G14_s _ h
    rcases pick1_some h with ⟨rfl, h⟩ | h
    · exact spec_DrawYoungClosure.G28_s _ h
    cases h
  · intro k avs H o h
    try dsimp only at h
    split at h
    · cases h; exact spec_DrawYoungClosure.eq _ _
    · cases h

def spec_DrawMinor.a : FnA (List ByteArray × Int × List Int × List Int) := ⟨10, [.tmp 2, .cell 3 30, .tmp 4], .tup [.con .str, .agg [.val, .row 2 (.int .i64)], .row 2 (.int .i64)], [], [], fun x H => match x, H with
  | .tup [.con .str r_0, .agg [.v (.int .i64 r_1_0), .own 0], .own 1], [.row 2 (.int .i64) r_1_1, .row 2 (.int .i64) r_2] => some (r_0, r_1_0, r_1_1, r_2)
  | _, _ => none⟩
def spec_DrawMinor.s : Spec := mkS [.con (.int .u8)] (fun k avs H => match avs, H with
  | [.con (.int .u8) a0], [] => some (spec_DrawMinor.f k a0)
  | _, _ => none) (fun r => (.tup [.con .str r.1, .agg [.v (.int .i64 r.2.1), .own 0], .own 1], [.row 2 (.int .i64) r.2.2.1, .row 2 (.int .i64) r.2.2.2]))
def spec_DrawMinor.E : Env := [((52, []), spec_DrawYoungClosure.s)]
def spec_DrawMinor.G (k p : Nat) (avs : List AV) (H : List HE) : Option (List ByteArray × Int × List Int × List Int) := none
set_option maxRecDepth 100000 in
theorem spec_DrawMinor.eq (k : Nat) (a0 : List Int) : fromTop Tryd.prog spec_DrawMinor.E k spec_DrawMinor.a (spec_DrawMinor.G k) 1000 (bodyOf Tryd.prog 55) [.con (.int .u8) a0] [] = spec_DrawMinor.f k a0 := by kernel_rfl
theorem spec_DrawMinor.E_ok : EnvOk Tryd.prog spec_DrawMinor.E := ⟨⟨spec_DrawYoungClosure.sound, callable_of (by kernel_rfl)⟩, trivial⟩
theorem spec_DrawMinor.sound : Sound Tryd.prog 55 spec_DrawMinor.s := by
  refine func_sound (f := spec_DrawMinor.a) (G := spec_DrawMinor.G) (fn := Tryd.f55) (body := bodyOf Tryd.prog 55) 1000 (by kernel_rfl) spec_DrawMinor.E_ok Tryd.func55 (by kernel_rfl) (by kernel_rfl) (by kernel_rfl) (ptsOk_of (by kernel_rfl)) ?_ ?_ ?_ ?_
  · intro r H x h
    unfold spec_DrawMinor.a at h
    simp only at h
    split at h
    · cases h; rfl
    · cases h
  · intro q avs H; rfl
  · intro k q pt avs H x _ h; cases h
  · intro k avs H o h
    try dsimp only at h
    split at h
    · cases h; exact spec_DrawMinor.eq _ _
    · cases h

def impl_size_string.a : FnA (Int) := ⟨5, [.tmp 2], .val, [], [], fun x H => match x, H with
  | .v (.int .i64 r), [] => some r
  | _, _ => none⟩
def impl_size_string.s : Spec := mkS [.con .str] (fun k avs H => match avs, H with
  | [.con .str a0], [] => some (impl_size_string.f a0)
  | _, _ => none) (fun r => (.v (.int .i64 r), []))
def impl_size_string.E : Env := []
def impl_size_string.G (k p : Nat) (avs : List AV) (H : List HE) : Option (Int) := none
set_option maxRecDepth 100000 in
theorem impl_size_string.eq (k : Nat) (a0 : List ByteArray) : fromTop Tryd.prog impl_size_string.E k impl_size_string.a (impl_size_string.G k) 1000 (bodyOf Tryd.prog 70) [.con .str a0] [] = impl_size_string.f a0 := by kernel_rfl
theorem impl_size_string.E_ok : EnvOk Tryd.prog impl_size_string.E := trivial
theorem impl_size_string.sound : Sound Tryd.prog 70 impl_size_string.s := by
  refine func_sound (f := impl_size_string.a) (G := impl_size_string.G) (fn := Tryd.f70) (body := bodyOf Tryd.prog 70) 1000 (by kernel_rfl) impl_size_string.E_ok Tryd.func70 (by kernel_rfl) (by kernel_rfl) (by kernel_rfl) (ptsOk_of (by kernel_rfl)) ?_ ?_ ?_ ?_
  · intro r H x h
    unfold impl_size_string.a at h
    simp only at h
    split at h
    · cases h; rfl
    · cases h
  · intro q avs H; rfl
  · intro k q pt avs H x _ h; cases h
  · intro k avs H o h
    try dsimp only at h
    split at h
    · cases h; exact impl_size_string.eq _ _
    · cases h

def impl_within.a : FnA (Bool) := ⟨15, [.tmp 6], .bool, [], [], fun x H => match x, H with
  | .bs false r, [] => some r
  | _, _ => none⟩
def impl_within.s : Spec := mkS [.val, .val, .val] (fun k avs H => match avs, H with
  | [.v (.int .i64 a0), .v (.int .i64 a1), .v (.int .i64 a2)], [] => some (impl_within.f a0 a1 a2)
  | _, _ => none) (fun r => (.bs false r, []))
def impl_within.E : Env := []
def impl_within.G (k p : Nat) (avs : List AV) (H : List HE) : Option (Bool) := none
set_option maxRecDepth 100000 in
theorem impl_within.eq (k : Nat) (a0 : Int) (a1 : Int) (a2 : Int) : fromTop Tryd.prog impl_within.E k impl_within.a (impl_within.G k) 1000 (bodyOf Tryd.prog 69) [.v (.int .i64 a0), .v (.int .i64 a1), .v (.int .i64 a2)] [] = impl_within.f a0 a1 a2 := by kernel_rfl
theorem impl_within.E_ok : EnvOk Tryd.prog impl_within.E := trivial
theorem impl_within.sound : Sound Tryd.prog 69 impl_within.s := by
  refine func_sound (f := impl_within.a) (G := impl_within.G) (fn := Tryd.f69) (body := bodyOf Tryd.prog 69) 1000 (by kernel_rfl) impl_within.E_ok Tryd.func69 (by kernel_rfl) (by kernel_rfl) (by kernel_rfl) (ptsOk_of (by kernel_rfl)) ?_ ?_ ?_ ?_
  · intro r H x h
    unfold impl_within.a at h
    simp only at h
    split at h
    · cases h; rfl
    · cases h
  · intro q avs H; rfl
  · intro k q pt avs H x _ h; cases h
  · intro k avs H o h
    try dsimp only at h
    split at h
    · cases h; exact impl_within.eq _ _ _ _
    · cases h

def strings_Trim.s : Spec := mkS [.val, .val] (fun _ avs H => match avs, H with
  | [.v (.string a0), .v (.string a1)], [] => some (strings_Trim.f a0 a1)
  | _, _ => none) (fun r => (.v (.string r), []))
theorem strings_Trim.sound : Sound Tryd.prog 116 strings_Trim.s := by
  refine sound_plain (emb := fun r => .v (.string r)) ?_
  intro k avs H o x h hx
  split at h
  case h_2 => cases h
  rename_i a0 a1
  cases h
  refine ⟨rfl, fun M w ρ hp vals hr => ?_⟩
  obtain ⟨v0, q0, rfl, rfl, v1, q1, rfl, rfl, rfl⟩ := hr
  unfold strings_Trim.f at hx
  split at hx
  case isFalse => cases hx
  rename_i h0
  split at hx
  case isFalse => cases hx
  rename_i h1
  split at hx
  case isFalse => cases hx
  rename_i h2
  cases hx
  refine (Go.Proofs.Any.strings_Trim_laid Go.Proofs.Tryd.lays160 (by kernel_rfl) a0 a1 w h0 (by omega) (Go.Proofs.ascii_of_all h2)).mono ?_
  rintro e w' ⟨rfl, hb⟩
  exact ⟨_, rfl, hb, fun _ _ _ _ => rfl⟩

def impl_isType.a : FnA (Bool) := ⟨11, [.tmp 2], .bool, [], [], fun x H => match x, H with
  | .bs false r, [] => some r
  | _, _ => none⟩
def impl_isType.s : Spec := mkS [.val] (fun k avs H => match avs, H with
  | [.v (.string a0)], [] => some (impl_isType.f a0)
  | _, _ => none) (fun r => (.bs false r, []))
def impl_isType.E : Env := [((69, []), impl_within.s), ((116, []), strings_Trim.s)]
def impl_isType.G (k p : Nat) (avs : List AV) (H : List HE) : Option (Bool) := none
set_option maxRecDepth 100000 in
theorem impl_isType.eq (k : Nat) (a0 : ByteArray) : fromTop Tryd.prog impl_isType.E k impl_isType.a (impl_isType.G k) 1000 (bodyOf Tryd.prog 111) [.v (.string a0)] [] = impl_isType.f a0 := by kernel_rfl
theorem impl_isType.E_ok : EnvOk Tryd.prog impl_isType.E := ⟨⟨impl_within.sound, callable_of (by kernel_rfl)⟩, ⟨strings_Trim.sound, callable_of (by kernel_rfl)⟩, trivial⟩
theorem impl_isType.sound : Sound Tryd.prog 111 impl_isType.s := by
  refine func_sound (f := impl_isType.a) (G := impl_isType.G) (fn := Tryd.f111) (body := bodyOf Tryd.prog 111) 1000 (by kernel_rfl) impl_isType.E_ok Tryd.func111 (by kernel_rfl) (by kernel_rfl) (by kernel_rfl) (ptsOk_of (by kernel_rfl)) ?_ ?_ ?_ ?_
  · intro r H x h
    unfold impl_isType.a at h
    simp only at h
    split at h
    · cases h; rfl
    · cases h
  · intro q avs H; rfl
  · intro k q pt avs H x _ h; cases h
  · intro k avs H o h
    try dsimp only at h
    split at h
    · cases h; exact impl_isType.eq _ _
    · cases h

def impl_TypesOk_1.a : FnA (Bool) := ⟨6, [.tmp 2], .bool, [], [], fun x H => match x, H with
  | .bs false r, [] => some r
  | _, _ => none⟩
def impl_TypesOk_1.s : Spec := mkS [.val] (fun k avs H => match avs, H with
  | [.v (.string a0)], [] => some (impl_TypesOk_1.f a0)
  | _, _ => none) (fun r => (.bs false r, []))
def impl_TypesOk_1.E : Env := [((111, []), impl_isType.s)]
def impl_TypesOk_1.G (k p : Nat) (avs : List AV) (H : List HE) : Option (Bool) := none
set_option maxRecDepth 100000 in
theorem impl_TypesOk_1.eq (k : Nat) (a0 : ByteArray) : fromTop Tryd.prog impl_TypesOk_1.E k impl_TypesOk_1.a (impl_TypesOk_1.G k) 1000 (bodyOf Tryd.prog 110) [.v (.string a0)] [] = impl_TypesOk_1.f a0 := by kernel_rfl
theorem impl_TypesOk_1.E_ok : EnvOk Tryd.prog impl_TypesOk_1.E := ⟨⟨impl_isType.sound, callable_of (by kernel_rfl)⟩, trivial⟩
theorem impl_TypesOk_1.sound : Sound Tryd.prog 110 impl_TypesOk_1.s := by
  refine func_sound (f := impl_TypesOk_1.a) (G := impl_TypesOk_1.G) (fn := Tryd.f110) (body := bodyOf Tryd.prog 110) 1000 (by kernel_rfl) impl_TypesOk_1.E_ok Tryd.func110 (by kernel_rfl) (by kernel_rfl) (by kernel_rfl) (ptsOk_of (by kernel_rfl)) ?_ ?_ ?_ ?_
  · intro r H x h
    unfold impl_TypesOk_1.a at h
    simp only at h
    split at h
    · cases h; rfl
    · cases h
  · intro q avs H; rfl
  · intro k q pt avs H x _ h; cases h
  · intro k avs H o h
    try dsimp only at h
    split at h
    · cases h; exact impl_TypesOk_1.eq _ _
    · cases h

def slices_IndexFunc_string_at_impl_TypesOk_1.a : FnA (Int) := ⟨19, [.tmp 4], .val, [], [⟨6, [0, 1, 7, 8], [.con .str, .fn 110 0 [], .val, .val], []⟩], fun x H => match x, H with
  | .v (.int .i64 r), [] => some r
  | _, _ => none⟩
def slices_IndexFunc_string_at_impl_TypesOk_1.s : Spec := mkS [.con .str, .fn 110 0 []] (fun k avs H => match avs, H with
  | [.con .str a0, .fn 110 0 []], [] => some (slices_IndexFunc_string_at_impl_TypesOk_1.f k a0)
  | _, _ => none) (fun r => (.v (.int .i64 r), []))
def slices_IndexFunc_string_at_impl_TypesOk_1.E : Env := [((110, []), impl_TypesOk_1.s)]
def slices_IndexFunc_string_at_impl_TypesOk_1.G6 (k : Nat) (avs : List AV) (H : List HE) : Option (Int) := match avs, H with
  | [.con .str x0, .fn 110 0 [], .v (.int .i64 x7), .v (.int .i64 x8)], [] => slices_IndexFunc_string_at_impl_TypesOk_1.p6 k x0 x7 x8
  | _, _ => none
def slices_IndexFunc_string_at_impl_TypesOk_1.G (k p : Nat) (avs : List AV) (H : List HE) : Option (Int) := (pick1 6 (slices_IndexFunc_string_at_impl_TypesOk_1.G6 k avs H) none p)
set_option maxRecDepth 100000 in
theorem slices_IndexFunc_string_at_impl_TypesOk_1.eq (k : Nat) (a0 : List ByteArray) : fromTop Tryd.prog slices_IndexFunc_string_at_impl_TypesOk_1.E k slices_IndexFunc_string_at_impl_TypesOk_1.a (slices_IndexFunc_string_at_impl_TypesOk_1.G k) 1000 (bodyOf Tryd.prog 115) [.con .str a0, .fn 110 0 []] [] = slices_IndexFunc_string_at_impl_TypesOk_1.f k a0 := by kernel_rfl
set_option maxRecDepth 100000 in
theorem slices_IndexFunc_string_at_impl_TypesOk_1.eq6 (k : Nat) (x0 : List ByteArray) (x7 : Int) (x8 : Int) : fromPt Tryd.prog slices_IndexFunc_string_at_impl_TypesOk_1.E k slices_IndexFunc_string_at_impl_TypesOk_1.a (slices_IndexFunc_string_at_impl_TypesOk_1.G k) 1000 (bodyOf Tryd.prog 115) 6 [.con .str x0, .fn 110 0 [], .v (.int .i64 x7), .v (.int .i64 x8)] [] = slices_IndexFunc_string_at_impl_TypesOk_1.p6 (k + 1) x0 x7 x8 := by kernel_rfl
theorem slices_IndexFunc_string_at_impl_TypesOk_1.G6_0 {avs : List AV} {H : List HE} : slices_IndexFunc_string_at_impl_TypesOk_1.G6 0 avs H = none := by unfold slices_IndexFunc_string_at_impl_TypesOk_1.G6; split <;> rfl
theorem slices_IndexFunc_string_at_impl_TypesOk_1.G6_s (k : Nat) {avs : List AV} {H : List HE} {x : Int} (h : slices_IndexFunc_string_at_impl_TypesOk_1.G6 (k + 1) avs H = some x) : fromPt Tryd.prog slices_IndexFunc_string_at_impl_TypesOk_1.E k slices_IndexFunc_string_at_impl_TypesOk_1.a (slices_IndexFunc_string_at_impl_TypesOk_1.G k) 1000 (bodyOf Tryd.prog 115) 6 avs H = some x := by
  unfold slices_IndexFunc_string_at_impl_TypesOk_1.G6 at h
  split at h
  · rw [← h]; exact slices_IndexFunc_string_at_impl_TypesOk_1.eq6 _ _ _ _
  · cases h
theorem slices_IndexFunc_string_at_impl_TypesOk_1.E_ok : EnvOk Tryd.prog slices_IndexFunc_string_at_impl_TypesOk_1.E := ⟨⟨impl_TypesOk_1.sound, callable_of (by kernel_rfl)⟩, trivial⟩
theorem slices_IndexFunc_string_at_impl_TypesOk_1.sound : Sound Tryd.prog 115 slices_IndexFunc_string_at_impl_TypesOk_1.s := by
  refine func_sound (f := slices_IndexFunc_string_at_impl_TypesOk_1.a) (G := slices_IndexFunc_string_at_impl_TypesOk_1.G) (fn := Tryd.f115) (body := bodyOf Tryd.prog 115) 1000 (by kernel_rfl) slices_IndexFunc_string_at_impl_TypesOk_1.E_ok Tryd.func115 (by kernel_rfl) (by kernel_rfl) (by kernel_rfl) (ptsOk_of (by kernel_rfl)) ?_ ?_ ?_ ?_
  · intro r H x h
    unfold slices_IndexFunc_string_at_impl_TypesOk_1.a at h
    simp only at h
    split at h
    · cases h; rfl
    · cases h
  · exact fun q avs H => pick1_none slices_IndexFunc_string_at_impl_TypesOk_1.G6_0 (rfl)
  · intro k q pt avs H x _ h
    rcases pick1_some h with ⟨rfl, h⟩ | h
    · exact slices_IndexFunc_string_at_impl_TypesOk_1.G6_s _ h
    cases h
  · intro k avs H o h
    try dsimp only at h
    split at h
    · cases h; exact slices_IndexFunc_string_at_impl_TypesOk_1.eq _ _
    · cases h

def slices_ContainsFunc_string_at_impl_TypesOk_1.a : FnA (Bool) := ⟨9, [.tmp 4], .bool, [], [], fun x H => match x, H with
  | .bs false r, [] => some r
  | _, _ => none⟩
def slices_ContainsFunc_string_at_impl_TypesOk_1.s : Spec := mkS [.con .str, .fn 110 0 []] (fun k avs H => match avs, H with
  | [.con .str a0, .fn 110 0 []], [] => some (slices_ContainsFunc_string_at_impl_TypesOk_1.f k a0)
  | _, _ => none) (fun r => (.bs false r, []))
def slices_ContainsFunc_string_at_impl_TypesOk_1.E : Env := [((115, [110]), slices_IndexFunc_string_at_impl_TypesOk_1.s)]
def slices_ContainsFunc_string_at_impl_TypesOk_1.G (k p : Nat) (avs : List AV) (H : List HE) : Option (Bool) := none
set_option maxRecDepth 100000 in
theorem slices_ContainsFunc_string_at_impl_TypesOk_1.eq (k : Nat) (a0 : List ByteArray) : fromTop Tryd.prog slices_ContainsFunc_string_at_impl_TypesOk_1.E k slices_ContainsFunc_string_at_impl_TypesOk_1.a (slices_ContainsFunc_string_at_impl_TypesOk_1.G k) 1000 (bodyOf Tryd.prog 109) [.con .str a0, .fn 110 0 []] [] = slices_ContainsFunc_string_at_impl_TypesOk_1.f k a0 := by kernel_rfl
theorem slices_ContainsFunc_string_at_impl_TypesOk_1.E_ok : EnvOk Tryd.prog slices_ContainsFunc_string_at_impl_TypesOk_1.E := ⟨⟨slices_IndexFunc_string_at_impl_TypesOk_1.sound, callable_of (by kernel_rfl)⟩, trivial⟩
theorem slices_ContainsFunc_string_at_impl_TypesOk_1.sound : Sound Tryd.prog 109 slices_ContainsFunc_string_at_impl_TypesOk_1.s := by
  refine func_sound (f := slices_ContainsFunc_string_at_impl_TypesOk_1.a) (G := slices_ContainsFunc_string_at_impl_TypesOk_1.G) (fn := Tryd.f109) (body := bodyOf Tryd.prog 109) 1000 (by kernel_rfl) slices_ContainsFunc_string_at_impl_TypesOk_1.E_ok Tryd.func109 (by kernel_rfl) (by kernel_rfl) (by kernel_rfl) (ptsOk_of (by kernel_rfl)) ?_ ?_ ?_ ?_
  · intro r H x h
    unfold slices_ContainsFunc_string_at_impl_TypesOk_1.a at h
    simp only at h
    split at h
    · cases h; rfl
    · cases h
  · intro q avs H; rfl
  · intro k q pt avs H x _ h; cases h
  · intro k avs H o h
    try dsimp only at h
    split at h
    · cases h; exact slices_ContainsFunc_string_at_impl_TypesOk_1.eq _ _
    · cases h

def impl_TypesOk.a : FnA (Bool) := ⟨11, [.tmp 2], .bool, [], [], fun x H => match x, H with
  | .bs false r, [] => some r
  | _, _ => none⟩
def impl_TypesOk.s : Spec := mkS [.con .str] (fun k avs H => match avs, H with
  | [.con .str a0], [] => some (impl_TypesOk.f k a0)
  | _, _ => none) (fun r => (.bs false r, []))
def impl_TypesOk.E : Env := [((70, []), impl_size_string.s), ((69, []), impl_within.s), ((109, [110]), slices_ContainsFunc_string_at_impl_TypesOk_1.s)]
def impl_TypesOk.G (k p : Nat) (avs : List AV) (H : List HE) : Option (Bool) := none
set_option maxRecDepth 100000 in
theorem impl_TypesOk.eq (k : Nat) (a0 : List ByteArray) : fromTop Tryd.prog impl_TypesOk.E k impl_TypesOk.a (impl_TypesOk.G k) 1000 (bodyOf Tryd.prog 92) [.con .str a0] [] = impl_TypesOk.f k a0 := by kernel_rfl
theorem impl_TypesOk.E_ok : EnvOk Tryd.prog impl_TypesOk.E := ⟨⟨impl_size_string.sound, callable_of (by kernel_rfl)⟩, ⟨impl_within.sound, callable_of (by kernel_rfl)⟩, ⟨slices_ContainsFunc_string_at_impl_TypesOk_1.sound, callable_of (by kernel_rfl)⟩, trivial⟩
theorem impl_TypesOk.sound : Sound Tryd.prog 92 impl_TypesOk.s := by
  refine func_sound (f := impl_TypesOk.a) (G := impl_TypesOk.G) (fn := Tryd.f92) (body := bodyOf Tryd.prog 92) 1000 (by kernel_rfl) impl_TypesOk.E_ok Tryd.func92 (by kernel_rfl) (by kernel_rfl) (by kernel_rfl) (ptsOk_of (by kernel_rfl)) ?_ ?_ ?_ ?_
  · intro r H x h
    unfold impl_TypesOk.a at h
    simp only at h
    split at h
    · cases h; rfl
    · cases h
  · intro q avs H; rfl
  · intro k q pt avs H x _ h; cases h
  · intro k avs H o h
    try dsimp only at h
    split at h
    · cases h; exact impl_TypesOk.eq _ _
    · cases h

def impl_size_int64.a : FnA (Int) := ⟨5, [.tmp 2], .val, [], [], fun x H => match x, H with
  | .v (.int .i64 r), [] => some r
  | _, _ => none⟩
def impl_size_int64.s : Spec := mkS [.con (.int .i64)] (fun k avs H => match avs, H with
  | [.con (.int .i64) a0], [] => some (impl_size_int64.f a0)
  | _, _ => none) (fun r => (.v (.int .i64 r), []))
def impl_size_int64.E : Env := []
def impl_size_int64.G (k p : Nat) (avs : List AV) (H : List HE) : Option (Int) := none
set_option maxRecDepth 100000 in
theorem impl_size_int64.eq (k : Nat) (a0 : List Int) : fromTop Tryd.prog impl_size_int64.E k impl_size_int64.a (impl_size_int64.G k) 1000 (bodyOf Tryd.prog 71) [.con (.int .i64) a0] [] = impl_size_int64.f a0 := by kernel_rfl
theorem impl_size_int64.E_ok : EnvOk Tryd.prog impl_size_int64.E := trivial
theorem impl_size_int64.sound : Sound Tryd.prog 71 impl_size_int64.s := by
  refine func_sound (f := impl_size_int64.a) (G := impl_size_int64.G) (fn := Tryd.f71) (body := bodyOf Tryd.prog 71) 1000 (by kernel_rfl) impl_size_int64.E_ok Tryd.func71 (by kernel_rfl) (by kernel_rfl) (by kernel_rfl) (ptsOk_of (by kernel_rfl)) ?_ ?_ ?_ ?_
  · intro r H x h
    unfold impl_size_int64.a at h
    simp only at h
    split at h
    · cases h; rfl
    · cases h
  · intro q avs H; rfl
  · intro k q pt avs H x _ h; cases h
  · intro k avs H o h
    try dsimp only at h
    split at h
    · cases h; exact impl_size_int64.eq _ _
    · cases h

def impl_starts.a : FnA (List Int × Bool) := ⟨46, [.tmp 4, .tmp 5], .tup [.row 2 (.int .i64), .bool], [], [⟨8, [0, 3, 6, 7], [.con .str, .box [.val, .con (.int .i64)], .row 2 (.int .i64), .val], []⟩], fun x H => match x, H with
  | .tup [.own 0, .bs false r_1], [.row 2 (.int .i64) r_0] => some (r_0, r_1)
  | _, _ => none⟩
def impl_starts.s : Spec := mkS [.con .str, .agg [.val, .con (.int .i64)]] (fun k avs H => match avs, H with
  | [.con .str a0, .agg [.v (.int .i64 a1_0), .con (.int .i64) a1_1]], [] => some (impl_starts.f k a0 a1_0 a1_1)
  | _, _ => none) (fun r => (.tup [.own 0, .bs false r.2], [.row 2 (.int .i64) r.1]))
def impl_starts.E : Env := [((71, []), impl_size_int64.s), ((70, []), impl_size_string.s), ((69, []), impl_within.s)]
def impl_starts.G8 (k : Nat) (avs : List AV) (H : List HE) : Option (List Int × Bool) := match avs, H with
  | [.con .str x0, .box 0 0, .own 1, .v (.int .i64 x7)], [.box [.v (.int .i64 x3_0), .con (.int .i64) x3_1], .row 2 (.int .i64) x6] => impl_starts.p8 k x0 x3_0 x3_1 x6 x7
  | _, _ => none
def impl_starts.G (k p : Nat) (avs : List AV) (H : List HE) : Option (List Int × Bool) := (pick1 8 (impl_starts.G8 k avs H) none p)
set_option maxRecDepth 100000 in
theorem impl_starts.eq (k : Nat) (a0 : List ByteArray) (a1_0 : Int) (a1_1 : List Int) : fromTop Tryd.prog impl_starts.E k impl_starts.a (impl_starts.G k) 1000 (bodyOf Tryd.prog 93) [.con .str a0, .agg [.v (.int .i64 a1_0), .con (.int .i64) a1_1]] [] = impl_starts.f k a0 a1_0 a1_1 := by kernel_rfl
set_option maxRecDepth 100000 in
theorem impl_starts.eq8 (k : Nat) (x0 : List ByteArray) (x3_0 : Int) (x3_1 : List Int) (x6 : List Int) (x7 : Int) : fromPt Tryd.prog impl_starts.E k impl_starts.a (impl_starts.G k) 1000 (bodyOf Tryd.prog 93) 8 [.con .str x0, .box 0 0, .own 1, .v (.int .i64 x7)] [.box [.v (.int .i64 x3_0), .con (.int .i64) x3_1], .row 2 (.int .i64) x6] = impl_starts.p8 (k + 1) x0 x3_0 x3_1 x6 x7 := by kernel_rfl
theorem impl_starts.G8_0 {avs : List AV} {H : List HE} : impl_starts.G8 0 avs H = none := by unfold impl_starts.G8; split <;> rfl
theorem impl_starts.G8_s (k : Nat) {avs : List AV} {H : List HE} {x : List Int × Bool} (h : impl_starts.G8 (k + 1) avs H = some x) : fromPt Tryd.prog impl_starts.E k impl_starts.a (impl_starts.G k) 1000 (bodyOf Tryd.prog 93) 8 avs H = some x := by
  unfold impl_starts.G8 at h
  split at h
  · rw [← h]; exact impl_starts.eq8 _ _ _ _ _ _
  · cases h
theorem impl_starts.E_ok : EnvOk Tryd.prog impl_starts.E := ⟨⟨impl_size_int64.sound, callable_of (by kernel_rfl)⟩, ⟨impl_size_string.sound, callable_of (by kernel_rfl)⟩, ⟨impl_within.sound, callable_of (by kernel_rfl)⟩, trivial⟩
theorem impl_starts.sound : Sound Tryd.prog 93 impl_starts.s := by
  refine func_sound (f := impl_starts.a) (G := impl_starts.G) (fn := Tryd.f93) (body := bodyOf Tryd.prog 93) 1000 (by kernel_rfl) impl_starts.E_ok Tryd.func93 (by kernel_rfl) (by kernel_rfl) (by kernel_rfl) (ptsOk_of (by kernel_rfl)) ?_ ?_ ?_ ?_
  · intro r H x h
    unfold impl_starts.a at h
    simp only at h
    split at h
    · cases h; rfl
    · cases h
  · exact fun q avs H => pick1_none impl_starts.G8_0 (rfl)
  · intro k q pt avs H x _ h
    rcases pick1_some h with ⟨rfl, h⟩ | h
    · exact impl_starts.G8_s _ h
    cases h
  · intro k avs H o h
    try dsimp only at h
    split at h
    · cases h; exact impl_starts.eq _ _ _ _
    · cases h

def slices_Clone_int64.s : Spec := mkS [.con (.int .i64)] (fun _ avs H => match avs, H with
  | [.con (.int .i64) a0], [] => some (slices_Clone_int64.f a0)
  | _, _ => none) (fun r => (.own 0, [.row 2 (.int .i64) r]))
theorem slices_Clone_int64.sound : Sound Tryd.prog 97 slices_Clone_int64.s := by
  refine sound_row (e := 2) (t := .int .i64) (emb := fun r => r) ?_
  intro k avs H o x h hx
  split at h
  case h_2 => cases h
  rename_i a0
  cases h
  refine ⟨rfl, fun M w ρ hp vals hr => ?_⟩
  obtain ⟨v0, q0, rfl, ⟨A0, c, rfl, hle, hrow⟩, rfl⟩ := hr
  unfold slices_Clone_int64.f at hx
  split at hx
  case isFalse => cases hx
  rename_i h0
  obtain rfl := Option.some.inj hx
  exact clone_int_calls a0 A0 c hle hrow h0 (fun n c w => Go.Proofs.Tryd.slices_Clone_int_nil n c w) (fun a c w => Go.Proofs.Tryd.slices_Clone_int_zero a c w) (fun b off n c zs w => Go.Proofs.Tryd.slices_Clone_int b off n c zs w)

def impl_youngObject.a : FnA (Int × List Int) := ⟨30, [.cell 6 40], .agg [.val, .row 2 (.int .i64)], [], [], fun x H => match x, H with
  | .agg [.v (.int .i64 r_0), .own 0], [.row 2 (.int .i64) r_1] => some (r_0, r_1)
  | _, _ => none⟩
def impl_youngObject.s : Spec := mkS [.con .str, .agg [.val, .con (.int .i64)], .val] (fun k avs H => match avs, H with
  | [.con .str a0, .agg [.v (.int .i64 a1_0), .con (.int .i64) a1_1], .v (.int .i64 a2)], [] => some (impl_youngObject.f a0 a1_0 a1_1 a2)
  | _, _ => none) (fun r => (.agg [.v (.int .i64 r.1), .own 0], [.row 2 (.int .i64) r.2]))
def impl_youngObject.E : Env := [((97, []), slices_Clone_int64.s)]
def impl_youngObject.G (k p : Nat) (avs : List AV) (H : List HE) : Option (Int × List Int) := none
set_option maxRecDepth 100000 in
theorem impl_youngObject.eq (k : Nat) (a0 : List ByteArray) (a1_0 : Int) (a1_1 : List Int) (a2 : Int) : fromTop Tryd.prog impl_youngObject.E k impl_youngObject.a (impl_youngObject.G k) 1000 (bodyOf Tryd.prog 66) [.con .str a0, .agg [.v (.int .i64 a1_0), .con (.int .i64) a1_1], .v (.int .i64 a2)] [] = impl_youngObject.f a0 a1_0 a1_1 a2 := by kernel_rfl
theorem impl_youngObject.E_ok : EnvOk Tryd.prog impl_youngObject.E := ⟨⟨slices_Clone_int64.sound, callable_of (by kernel_rfl)⟩, trivial⟩
theorem impl_youngObject.sound : Sound Tryd.prog 66 impl_youngObject.s := by
  refine func_sound (f := impl_youngObject.a) (G := impl_youngObject.G) (fn := Tryd.f66) (body := bodyOf Tryd.prog 66) 1000 (by kernel_rfl) impl_youngObject.E_ok Tryd.func66 (by kernel_rfl) (by kernel_rfl) (by kernel_rfl) (ptsOk_of (by kernel_rfl)) ?_ ?_ ?_ ?_
  · intro r H x h
    unfold impl_youngObject.a at h
    simp only at h
    split at h
    · cases h; rfl
    · cases h
  · intro q avs H; rfl
  · intro k q pt avs H x _ h; cases h
  · intro k avs H o h
    try dsimp only at h
    split at h
    · cases h; exact impl_youngObject.eq _ _ _ _ _
    · cases h

def impl_RefKind.a : FnA (Int) := ⟨22, [.tmp 2], .val, [], [], fun x H => match x, H with
  | .v (.int .i64 r), [] => some r
  | _, _ => none⟩
def impl_RefKind.s : Spec := mkS [.val] (fun k avs H => match avs, H with
  | [.v (.int .i64 a0)], [] => some (impl_RefKind.f a0)
  | _, _ => none) (fun r => (.v (.int .i64 r), []))
def impl_RefKind.E : Env := [((69, []), impl_within.s)]
def impl_RefKind.G (k p : Nat) (avs : List AV) (H : List HE) : Option (Int) := none
set_option maxRecDepth 100000 in
theorem impl_RefKind.eq (k : Nat) (a0 : Int) : fromTop Tryd.prog impl_RefKind.E k impl_RefKind.a (impl_RefKind.G k) 1000 (bodyOf Tryd.prog 53) [.v (.int .i64 a0)] [] = impl_RefKind.f a0 := by kernel_rfl
theorem impl_RefKind.E_ok : EnvOk Tryd.prog impl_RefKind.E := ⟨⟨impl_within.sound, callable_of (by kernel_rfl)⟩, trivial⟩
theorem impl_RefKind.sound : Sound Tryd.prog 53 impl_RefKind.s := by
  refine func_sound (f := impl_RefKind.a) (G := impl_RefKind.G) (fn := Tryd.f53) (body := bodyOf Tryd.prog 53) 1000 (by kernel_rfl) impl_RefKind.E_ok Tryd.func53 (by kernel_rfl) (by kernel_rfl) (by kernel_rfl) (ptsOk_of (by kernel_rfl)) ?_ ?_ ?_ ?_
  · intro r H x h
    unfold impl_RefKind.a at h
    simp only at h
    split at h
    · cases h; rfl
    · cases h
  · intro q avs H; rfl
  · intro k q pt avs H x _ h; cases h
  · intro k avs H o h
    try dsimp only at h
    split at h
    · cases h; exact impl_RefKind.eq _ _
    · cases h

def impl_isOld.a : FnA (Bool) := ⟨6, [.tmp 2], .bool, [], [], fun x H => match x, H with
  | .bs false r, [] => some r
  | _, _ => none⟩
def impl_isOld.s : Spec := mkS [.val] (fun k avs H => match avs, H with
  | [.v (.int .i64 a0)], [] => some (impl_isOld.f a0)
  | _, _ => none) (fun r => (.bs false r, []))
def impl_isOld.E : Env := [((53, []), impl_RefKind.s)]
def impl_isOld.G (k p : Nat) (avs : List AV) (H : List HE) : Option (Bool) := none
set_option maxRecDepth 100000 in
theorem impl_isOld.eq (k : Nat) (a0 : Int) : fromTop Tryd.prog impl_isOld.E k impl_isOld.a (impl_isOld.G k) 1000 (bodyOf Tryd.prog 98) [.v (.int .i64 a0)] [] = impl_isOld.f a0 := by kernel_rfl
theorem impl_isOld.E_ok : EnvOk Tryd.prog impl_isOld.E := ⟨⟨impl_RefKind.sound, callable_of (by kernel_rfl)⟩, trivial⟩
theorem impl_isOld.sound : Sound Tryd.prog 98 impl_isOld.s := by
  refine func_sound (f := impl_isOld.a) (G := impl_isOld.G) (fn := Tryd.f98) (body := bodyOf Tryd.prog 98) 1000 (by kernel_rfl) impl_isOld.E_ok Tryd.func98 (by kernel_rfl) (by kernel_rfl) (by kernel_rfl) (ptsOk_of (by kernel_rfl)) ?_ ?_ ?_ ?_
  · intro r H x h
    unfold impl_isOld.a at h
    simp only at h
    split at h
    · cases h; rfl
    · cases h
  · intro q avs H; rfl
  · intro k q pt avs H x _ h; cases h
  · intro k avs H o h
    try dsimp only at h
    split at h
    · cases h; exact impl_isOld.eq _ _
    · cases h

def impl_isYoung.a : FnA (Bool) := ⟨6, [.tmp 2], .bool, [], [], fun x H => match x, H with
  | .bs false r, [] => some r
  | _, _ => none⟩
def impl_isYoung.s : Spec := mkS [.val] (fun k avs H => match avs, H with
  | [.v (.int .i64 a0)], [] => some (impl_isYoung.f a0)
  | _, _ => none) (fun r => (.bs false r, []))
def impl_isYoung.E : Env := [((53, []), impl_RefKind.s)]
def impl_isYoung.G (k p : Nat) (avs : List AV) (H : List HE) : Option (Bool) := none
set_option maxRecDepth 100000 in
theorem impl_isYoung.eq (k : Nat) (a0 : Int) : fromTop Tryd.prog impl_isYoung.E k impl_isYoung.a (impl_isYoung.G k) 1000 (bodyOf Tryd.prog 88) [.v (.int .i64 a0)] [] = impl_isYoung.f a0 := by kernel_rfl
theorem impl_isYoung.E_ok : EnvOk Tryd.prog impl_isYoung.E := ⟨⟨impl_RefKind.sound, callable_of (by kernel_rfl)⟩, trivial⟩
theorem impl_isYoung.sound : Sound Tryd.prog 88 impl_isYoung.s := by
  refine func_sound (f := impl_isYoung.a) (G := impl_isYoung.G) (fn := Tryd.f88) (body := bodyOf Tryd.prog 88) 1000 (by kernel_rfl) impl_isYoung.E_ok Tryd.func88 (by kernel_rfl) (by kernel_rfl) (by kernel_rfl) (ptsOk_of (by kernel_rfl)) ?_ ?_ ?_ ?_
  · intro r H x h
    unfold impl_isYoung.a at h
    simp only at h
    split at h
    · cases h; rfl
    · cases h
  · intro q avs H; rfl
  · intro k q pt avs H x _ h; cases h
  · intro k avs H o h
    try dsimp only at h
    split at h
    · cases h; exact impl_isYoung.eq _ _
    · cases h

def cmp_isNaN_int64.a : FnA (Bool) := ⟨6, [.tmp 2], .bool, [], [], fun x H => match x, H with
  | .bs false r, [] => some r
  | _, _ => none⟩
def cmp_isNaN_int64.s : Spec := mkS [.val] (fun k avs H => match avs, H with
  | [.v (.int .i64 a0)], [] => some (cmp_isNaN_int64.f a0)
  | _, _ => none) (fun r => (.bs false r, []))
def cmp_isNaN_int64.E : Env := []
def cmp_isNaN_int64.G (k p : Nat) (avs : List AV) (H : List HE) : Option (Bool) := none
set_option maxRecDepth 100000 in
theorem cmp_isNaN_int64.eq (k : Nat) (a0 : Int) : fromTop Tryd.prog cmp_isNaN_int64.E k cmp_isNaN_int64.a (cmp_isNaN_int64.G k) 1000 (bodyOf Tryd.prog 117) [.v (.int .i64 a0)] [] = cmp_isNaN_int64.f a0 := by kernel_rfl
theorem cmp_isNaN_int64.E_ok : EnvOk Tryd.prog cmp_isNaN_int64.E := trivial
theorem cmp_isNaN_int64.sound : Sound Tryd.prog 117 cmp_isNaN_int64.s := by
  refine func_sound (f := cmp_isNaN_int64.a) (G := cmp_isNaN_int64.G) (fn := Tryd.f117) (body := bodyOf Tryd.prog 117) 1000 (by kernel_rfl) cmp_isNaN_int64.E_ok Tryd.func117 (by kernel_rfl) (by kernel_rfl) (by kernel_rfl) (ptsOk_of (by kernel_rfl)) ?_ ?_ ?_ ?_
  · intro r H x h
    unfold cmp_isNaN_int64.a at h
    simp only at h
    split at h
    · cases h; rfl
    · cases h
  · intro q avs H; rfl
  · intro k q pt avs H x _ h; cases h
  · intro k avs H o h
    try dsimp only at h
    split at h
    · cases h; exact cmp_isNaN_int64.eq _ _
    · cases h

def cmp_Less_int64.a : FnA (Bool) := ⟨17, [.tmp 4], .bool, [], [], fun x H => match x, H with
  | .bs false r, [] => some r
  | _, _ => none⟩
def cmp_Less_int64.s : Spec := mkS [.val, .val] (fun k avs H => match avs, H with
  | [.v (.int .i64 a0), .v (.int .i64 a1)], [] => some (cmp_Less_int64.f a0 a1)
  | _, _ => none) (fun r => (.bs false r, []))
def cmp_Less_int64.E : Env := [((117, []), cmp_isNaN_int64.s)]
def cmp_Less_int64.G (k p : Nat) (avs : List AV) (H : List HE) : Option (Bool) := none
set_option maxRecDepth 100000 in
theorem cmp_Less_int64.eq (k : Nat) (a0 : Int) (a1 : Int) : fromTop Tryd.prog cmp_Less_int64.E k cmp_Less_int64.a (cmp_Less_int64.G k) 1000 (bodyOf Tryd.prog 112) [.v (.int .i64 a0), .v (.int .i64 a1)] [] = cmp_Less_int64.f a0 a1 := by kernel_rfl
theorem cmp_Less_int64.E_ok : EnvOk Tryd.prog cmp_Less_int64.E := ⟨⟨cmp_isNaN_int64.sound, callable_of (by kernel_rfl)⟩, trivial⟩
theorem cmp_Less_int64.sound : Sound Tryd.prog 112 cmp_Less_int64.s := by
  refine func_sound (f := cmp_Less_int64.a) (G := cmp_Less_int64.G) (fn := Tryd.f112) (body := bodyOf Tryd.prog 112) 1000 (by kernel_rfl) cmp_Less_int64.E_ok Tryd.func112 (by kernel_rfl) (by kernel_rfl) (by kernel_rfl) (ptsOk_of (by kernel_rfl)) ?_ ?_ ?_ ?_
  · intro r H x h
    unfold cmp_Less_int64.a at h
    simp only at h
    split at h
    · cases h; rfl
    · cases h
  · intro q avs H; rfl
  · intro k q pt avs H x _ h; cases h
  · intro k avs H o h
    try dsimp only at h
    split at h
    · cases h; exact cmp_Less_int64.eq _ _ _
    · cases h

def slices_isNaN_int64.a : FnA (Bool) := ⟨6, [.tmp 2], .bool, [], [], fun x H => match x, H with
  | .bs false r, [] => some r
  | _, _ => none⟩
def slices_isNaN_int64.s : Spec := mkS [.val] (fun k avs H => match avs, H with
  | [.v (.int .i64 a0)], [] => some (slices_isNaN_int64.f a0)
  | _, _ => none) (fun r => (.bs false r, []))
def slices_isNaN_int64.E : Env := []
def slices_isNaN_int64.G (k p : Nat) (avs : List AV) (H : List HE) : Option (Bool) := none
set_option maxRecDepth 100000 in
theorem slices_isNaN_int64.eq (k : Nat) (a0 : Int) : fromTop Tryd.prog slices_isNaN_int64.E k slices_isNaN_int64.a (slices_isNaN_int64.G k) 1000 (bodyOf Tryd.prog 113) [.v (.int .i64 a0)] [] = slices_isNaN_int64.f a0 := by kernel_rfl
theorem slices_isNaN_int64.E_ok : EnvOk Tryd.prog slices_isNaN_int64.E := trivial
theorem slices_isNaN_int64.sound : Sound Tryd.prog 113 slices_isNaN_int64.s := by
  refine func_sound (f := slices_isNaN_int64.a) (G := slices_isNaN_int64.G) (fn := Tryd.f113) (body := bodyOf Tryd.prog 113) 1000 (by kernel_rfl) slices_isNaN_int64.E_ok Tryd.func113 (by kernel_rfl) (by kernel_rfl) (by kernel_rfl) (ptsOk_of (by kernel_rfl)) ?_ ?_ ?_ ?_
  · intro r H x h
    unfold slices_isNaN_int64.a at h
    simp only at h
    split at h
    · cases h; rfl
    · cases h
  · intro q avs H; rfl
  · intro k q pt avs H x _ h; cases h
  · intro k avs H o h
    try dsimp only at h
    split at h
    · cases h; exact slices_isNaN_int64.eq _ _
    · cases h

def slices_BinarySearch_int64.a : FnA (Int × Bool) := ⟨54, [.tmp 4, .tmp 5], .tup [.val, .bool], [], [⟨8, [0, 1, 6, 7, 8], [.con (.int .i64), .val, .val, .val, .val], []⟩], fun x H => match x, H with
  | .tup [.v (.int .i64 r_0), .bs false r_1], [] => some (r_0, r_1)
  | _, _ => none⟩
def slices_BinarySearch_int64.s : Spec := mkS [.con (.int .i64), .val] (fun k avs H => match avs, H with
  | [.con (.int .i64) a0, .v (.int .i64 a1)], [] => some (slices_BinarySearch_int64.f k a0 a1)
  | _, _ => none) (fun r => (.tup [.v (.int .i64 r.1), .bs false r.2], []))
def slices_BinarySearch_int64.E : Env := [((112, []), cmp_Less_int64.s), ((113, []), slices_isNaN_int64.s)]
def slices_BinarySearch_int64.G8 (k : Nat) (avs : List AV) (H : List HE) : Option (Int × Bool) := match avs, H with
  | [.con (.int .i64) x0, .v (.int .i64 x1), .v (.int .i64 x6), .v (.int .i64 x7), .v (.int .i64 x8)], [] => slices_BinarySearch_int64.p8 k x0 x1 x6 x7 x8
  | _, _ => none
def slices_BinarySearch_int64.G (k p : Nat) (avs : List AV) (H : List HE) : Option (Int × Bool) := (pick1 8 (slices_BinarySearch_int64.G8 k avs H) none p)
set_option maxRecDepth 100000 in
theorem slices_BinarySearch_int64.eq (k : Nat) (a0 : List Int) (a1 : Int) : fromTop Tryd.prog slices_BinarySearch_int64.E k slices_BinarySearch_int64.a (slices_BinarySearch_int64.G k) 1000 (bodyOf Tryd.prog 96) [.con (.int .i64) a0, .v (.int .i64 a1)] [] = slices_BinarySearch_int64.f k a0 a1 := by kernel_rfl
set_option maxRecDepth 100000 in
theorem slices_BinarySearch_int64.eq8 (k : Nat) (x0 : List Int) (x1 : Int) (x6 : Int) (x7 : Int) (x8 : Int) : fromPt Tryd.prog slices_BinarySearch_int64.E k slices_BinarySearch_int64.a (slices_BinarySearch_int64.G k) 1000 (bodyOf Tryd.prog 96) 8 [.con (.int .i64) x0, .v (.int .i64 x1), .v (.int .i64 x6), .v (.int .i64 x7), .v (.int .i64 x8)] [] = slices_BinarySearch_int64.p8 (k + 1) x0 x1 x6 x7 x8 := by kernel_rfl
theorem slices_BinarySearch_int64.G8_0 {avs : List AV} {H : List HE} : slices_BinarySearch_int64.G8 0 avs H = none := by unfold slices_BinarySearch_int64.G8; split <;> rfl
theorem slices_BinarySearch_int64.G8_s (k : Nat) {avs : List AV} {H : List HE} {x : Int × Bool} (h : slices_BinarySearch_int64.G8 (k + 1) avs H = some x) : fromPt Tryd.prog slices_BinarySearch_int64.E k slices_BinarySearch_int64.a (slices_BinarySearch_int64.G k) 1000 (bodyOf Tryd.prog 96) 8 avs H = some x := by
  unfold slices_BinarySearch_int64.G8 at h
  split at h
  · rw [← h]; exact slices_BinarySearch_int64.eq8 _ _ _ _ _ _
  · cases h
theorem slices_BinarySearch_int64.E_ok : EnvOk Tryd.prog slices_BinarySearch_int64.E := ⟨⟨cmp_Less_int64.sound, callable_of (by kernel_rfl)⟩, ⟨slices_isNaN_int64.sound, callable_of (by kernel_rfl)⟩, trivial⟩
theorem slices_BinarySearch_int64.sound : Sound Tryd.prog 96 slices_BinarySearch_int64.s := by
  refine func_sound (f := slices_BinarySearch_int64.a) (G := slices_BinarySearch_int64.G) (fn := Tryd.f96) (body := bodyOf Tryd.prog 96) 1000 (by kernel_rfl) slices_BinarySearch_int64.E_ok Tryd.func96 (by kernel_rfl) (by kernel_rfl) (by kernel_rfl) (ptsOk_of (by kernel_rfl)) ?_ ?_ ?_ ?_
  · intro r H x h
    unfold slices_BinarySearch_int64.a at h
    simp only at h
    split at h
    · cases h; rfl
    · cases h
  · exact fun q avs H => pick1_none slices_BinarySearch_int64.G8_0 (rfl)
  · intro k q pt avs H x _ h
    rcases pick1_some h with ⟨rfl, h⟩ | h
    · exact slices_BinarySearch_int64.G8_s _ h
    cases h
  · intro k avs H o h
    try dsimp only at h
    split at h
    · cases h; exact slices_BinarySearch_int64.eq _ _ _
    · cases h

def impl_isHead.a : FnA (Bool) := ⟨18, [.tmp 4], .bool, [], [], fun x H => match x, H with
  | .bs false r, [] => some r
  | _, _ => none⟩
def impl_isHead.s : Spec := mkS [.val, .con (.int .i64)] (fun k avs H => match avs, H with
  | [.v (.int .i64 a0), .con (.int .i64) a1], [] => some (impl_isHead.f k a0 a1)
  | _, _ => none) (fun r => (.bs false r, []))
def impl_isHead.E : Env := [((88, []), impl_isYoung.s), ((96, []), slices_BinarySearch_int64.s)]
def impl_isHead.G (k p : Nat) (avs : List AV) (H : List HE) : Option (Bool) := none
set_option maxRecDepth 100000 in
theorem impl_isHead.eq (k : Nat) (a0 : Int) (a1 : List Int) : fromTop Tryd.prog impl_isHead.E k impl_isHead.a (impl_isHead.G k) 1000 (bodyOf Tryd.prog 65) [.v (.int .i64 a0), .con (.int .i64) a1] [] = impl_isHead.f k a0 a1 := by kernel_rfl
theorem impl_isHead.E_ok : EnvOk Tryd.prog impl_isHead.E := ⟨⟨impl_isYoung.sound, callable_of (by kernel_rfl)⟩, ⟨slices_BinarySearch_int64.sound, callable_of (by kernel_rfl)⟩, trivial⟩
theorem impl_isHead.sound : Sound Tryd.prog 65 impl_isHead.s := by
  refine func_sound (f := impl_isHead.a) (G := impl_isHead.G) (fn := Tryd.f65) (body := bodyOf Tryd.prog 65) 1000 (by kernel_rfl) impl_isHead.E_ok Tryd.func65 (by kernel_rfl) (by kernel_rfl) (by kernel_rfl) (ptsOk_of (by kernel_rfl)) ?_ ?_ ?_ ?_
  · intro r H x h
    unfold impl_isHead.a at h
    simp only at h
    split at h
    · cases h; rfl
    · cases h
  · intro q avs H; rfl
  · intro k q pt avs H x _ h; cases h
  · intro k avs H o h
    try dsimp only at h
    split at h
    · cases h; exact impl_isHead.eq _ _ _
    · cases h

def impl_isRef.a : FnA (Bool) := ⟨16, [.tmp 4], .bool, [], [], fun x H => match x, H with
  | .bs false r, [] => some r
  | _, _ => none⟩
def impl_isRef.s : Spec := mkS [.val, .con (.int .i64)] (fun k avs H => match avs, H with
  | [.v (.int .i64 a0), .con (.int .i64) a1], [] => some (impl_isRef.f k a0 a1)
  | _, _ => none) (fun r => (.bs false r, []))
def impl_isRef.E : Env := [((98, []), impl_isOld.s), ((65, []), impl_isHead.s)]
def impl_isRef.G (k p : Nat) (avs : List AV) (H : List HE) : Option (Bool) := none
set_option maxRecDepth 100000 in
theorem impl_isRef.eq (k : Nat) (a0 : Int) (a1 : List Int) : fromTop Tryd.prog impl_isRef.E k impl_isRef.a (impl_isRef.G k) 1000 (bodyOf Tryd.prog 74) [.v (.int .i64 a0), .con (.int .i64) a1] [] = impl_isRef.f k a0 a1 := by kernel_rfl
theorem impl_isRef.E_ok : EnvOk Tryd.prog impl_isRef.E := ⟨⟨impl_isOld.sound, callable_of (by kernel_rfl)⟩, ⟨impl_isHead.sound, callable_of (by kernel_rfl)⟩, trivial⟩
theorem impl_isRef.sound : Sound Tryd.prog 74 impl_isRef.s := by
  refine func_sound (f := impl_isRef.a) (G := impl_isRef.G) (fn := Tryd.f74) (body := bodyOf Tryd.prog 74) 1000 (by kernel_rfl) impl_isRef.E_ok Tryd.func74 (by kernel_rfl) (by kernel_rfl) (by kernel_rfl) (ptsOk_of (by kernel_rfl)) ?_ ?_ ?_ ?_
  · intro r H x h
    unfold impl_isRef.a at h
    simp only at h
    split at h
    · cases h; rfl
    · cases h
  · intro q avs H; rfl
  · intro k q pt avs H x _ h; cases h
  · intro k avs H o h
    try dsimp only at h
    split at h
    · cases h; exact impl_isRef.eq _ _ _
    · cases h

def impl_heads_1.a : FnA (Bool) := ⟨7, [.tmp 3], .bool, [], [], fun x H => match x, H with
  | .bs false r, [] => some r
  | _, _ => none⟩
def impl_heads_1.s : Spec := mkS [.val, .elt (.sl (.int .i64))] (fun k avs H => match avs, H with
  | [.v (.int .i64 a0), .elt (.sl (.int .i64)) a1 0], [] => some (impl_heads_1.f k a0 a1)
  | _, _ => none) (fun r => (.bs false r, []))
def impl_heads_1.E : Env := [((74, []), impl_isRef.s)]
def impl_heads_1.G (k p : Nat) (avs : List AV) (H : List HE) : Option (Bool) := none
set_option maxRecDepth 100000 in
theorem impl_heads_1.eq (k : Nat) (a0 : Int) (a1 : List Int) : fromTop Tryd.prog impl_heads_1.E k impl_heads_1.a (impl_heads_1.G k) 1000 (bodyOf Tryd.prog 95) [.v (.int .i64 a0), .elt (.sl (.int .i64)) a1 0] [] = impl_heads_1.f k a0 a1 := by kernel_rfl
theorem impl_heads_1.E_ok : EnvOk Tryd.prog impl_heads_1.E := ⟨⟨impl_isRef.sound, callable_of (by kernel_rfl)⟩, trivial⟩
theorem impl_heads_1.sound : Sound Tryd.prog 95 impl_heads_1.s := by
  refine func_sound (f := impl_heads_1.a) (G := impl_heads_1.G) (fn := Tryd.f95) (body := bodyOf Tryd.prog 95) 1000 (by kernel_rfl) impl_heads_1.E_ok Tryd.func95 (by kernel_rfl) (by kernel_rfl) (by kernel_rfl) (ptsOk_of (by kernel_rfl)) ?_ ?_ ?_ ?_
  · intro r H x h
    unfold impl_heads_1.a at h
    simp only at h
    split at h
    · cases h; rfl
    · cases h
  · intro q avs H; rfl
  · intro k q pt avs H x _ h; cases h
  · intro k avs H o h
    try dsimp only at h
    split at h
    · cases h; exact impl_heads_1.eq _ _ _
    · cases h

def impl_isObject_at_impl_heads_1.a : FnA (Bool) := ⟨51, [.tmp 6], .bool, [], [⟨14, [0, 2, 4, 29, 30, 31], [.con .str, .fn 95 0 [.elt (.sl (.int .i64))], .box [.val, .con (.int .i64)], .con (.int .i64), .val, .val], []⟩], fun x H => match x, H with
  | .bs false r, [] => some r
  | _, _ => none⟩
def impl_isObject_at_impl_heads_1.s : Spec := mkS [.con .str, .agg [.val, .con (.int .i64)], .fn 95 0 [.elt (.sl (.int .i64))]] (fun k avs H => match avs, H with
  | [.con .str a0, .agg [.v (.int .i64 a1_0), .con (.int .i64) a1_1], .fn 95 0 [.elt (.sl (.int .i64)) a2_0 0]], [] => some (impl_isObject_at_impl_heads_1.f k a0 a1_0 a1_1 a2_0)
  | _, _ => none) (fun r => (.bs false r, []))
def impl_isObject_at_impl_heads_1.E : Env := [((70, []), impl_size_string.s), ((69, []), impl_within.s), ((95, []), impl_heads_1.s)]
def impl_isObject_at_impl_heads_1.G14 (k : Nat) (avs : List AV) (H : List HE) : Option (Bool) := match avs, H with
  | [.con .str x0, .fn 95 0 [.elt (.sl (.int .i64)) x2_0 0], .box 0 0, .con (.int .i64) x29, .v (.int .i64 x30), .v (.int .i64 x31)], [.box [.v (.int .i64 x4_0), .con (.int .i64) x4_1]] => impl_isObject_at_impl_heads_1.p14 k x0 x2_0 x4_0 x4_1 x29 x30 x31
  | _, _ => none
def impl_isObject_at_impl_heads_1.G (k p : Nat) (avs : List AV) (H : List HE) : Option (Bool) := (pick1 14 (impl_isObject_at_impl_heads_1.G14 k avs H) none p)
set_option maxRecDepth 100000 in
theorem impl_isObject_at_impl_heads_1.eq (k : Nat) (a0 : List ByteArray) (a1_0 : Int) (a1_1 : List Int) (a2_0 : List Int) : fromTop Tryd.prog impl_isObject_at_impl_heads_1.E k impl_isObject_at_impl_heads_1.a (impl_isObject_at_impl_heads_1.G k) 1000 (bodyOf Tryd.prog 94) [.con .str a0, .agg [.v (.int .i64 a1_0), .con (.int .i64) a1_1], .fn 95 0 [.elt (.sl (.int .i64)) a2_0 0]] [] = impl_isObject_at_impl_heads_1.f k a0 a1_0 a1_1 a2_0 := by kernel_rfl
set_option maxRecDepth 100000 in
theorem impl_isObject_at_impl_heads_1.eq14 (k : Nat) (x0 : List ByteArray) (x2_0 : List Int) (x4_0 : Int) (x4_1 : List Int) (x29 : List Int) (x30 : Int) (x31 : Int) : fromPt Tryd.prog impl_isObject_at_impl_heads_1.E k impl_isObject_at_impl_heads_1.a (impl_isObject_at_impl_heads_1.G k) 1000 (bodyOf Tryd.prog 94) 14 [.con .str x0, .fn 95 0 [.elt (.sl (.int .i64)) x2_0 0], .box 0 0, .con (.int .i64) x29, .v (.int .i64 x30), .v (.int .i64 x31)] [.box [.v (.int .i64 x4_0), .con (.int .i64) x4_1]] = impl_isObject_at_impl_heads_1.p14 (k + 1) x0 x2_0 x4_0 x4_1 x29 x30 x31 := by kernel_rfl
theorem impl_isObject_at_impl_heads_1.G14_0 {avs : List AV} {H : List HE} : impl_isObject_at_impl_heads_1.G14 0 avs H = none := by unfold impl_isObject_at_impl_heads_1.G14; split <;> rfl
theorem impl_isObject_at_impl_heads_1.G14_s (k : Nat) {avs : List AV} {H : List HE} {x : Bool} (h : impl_isObject_at_impl_heads_1.G14 (k + 1) avs H = some x) : fromPt Tryd.prog impl_isObject_at_impl_heads_1.E k impl_isObject_at_impl_heads_1.a (impl_isObject_at_impl_heads_1.G k) 1000 (bodyOf Tryd.prog 94) 14 avs H = some x := by
  unfold impl_isObject_at_impl_heads_1.G14 at h
  split at h
  · rw [← h]; exact impl_isObject_at_impl_heads_1.eq14 _ _ _ _ _ _ _ _
  · cases h
theorem impl_isObject_at_impl_heads_1.E_ok : EnvOk Tryd.prog impl_isObject_at_impl_heads_1.E := ⟨⟨impl_size_string.sound, callable_of (by kernel_rfl)⟩, ⟨impl_within.sound, callable_of (by kernel_rfl)⟩, ⟨impl_heads_1.sound, callable_of (by kernel_rfl)⟩, trivial⟩
theorem impl_isObject_at_impl_heads_1.sound : Sound Tryd.prog 94 impl_isObject_at_impl_heads_1.s := by
  refine func_sound (f := impl_isObject_at_impl_heads_1.a) (G := impl_isObject_at_impl_heads_1.G) (fn := Tryd.f94) (body := bodyOf Tryd.prog 94) 1000 (by kernel_rfl) impl_isObject_at_impl_heads_1.E_ok Tryd.func94 (by kernel_rfl) (by kernel_rfl) (by kernel_rfl) (ptsOk_of (by kernel_rfl)) ?_ ?_ ?_ ?_
  · intro r H x h
    unfold impl_isObject_at_impl_heads_1.a at h
    simp only at h
    split at h
    · cases h; rfl
    · cases h
  · exact fun q avs H => pick1_none impl_isObject_at_impl_heads_1.G14_0 (rfl)
  · intro k q pt avs H x _ h
    rcases pick1_some h with ⟨rfl, h⟩ | h
    · exact impl_isObject_at_impl_heads_1.G14_s _ h
    cases h
  · intro k avs H o h
    try dsimp only at h
    split at h
    · cases h; exact impl_isObject_at_impl_heads_1.eq _ _ _ _ _
    · cases h

def impl_heads.a : FnA (List Int × Bool) := ⟨51, [.tmp 4, .tmp 5], .tup [.row 2 (.int .i64), .bool], [], [⟨24, [0, 3, 6, 35, 36, 37], [.con .str, .box [.val, .con (.int .i64)], .box [.row 2 (.int .i64)], .row 2 (.int .i64), .val, .val], []⟩], fun x H => match x, H with
  | .tup [.own 0, .bs false r_1], [.row 2 (.int .i64) r_0] => some (r_0, r_1)
  | _, _ => none⟩
def impl_heads.s : Spec := mkS [.con .str, .agg [.val, .con (.int .i64)]] (fun k avs H => match avs, H with
  | [.con .str a0, .agg [.v (.int .i64 a1_0), .con (.int .i64) a1_1]], [] => some (impl_heads.f k a0 a1_0 a1_1)
  | _, _ => none) (fun r => (.tup [.own 0, .bs false r.2], [.row 2 (.int .i64) r.1]))
def impl_heads.E : Env := [((92, []), impl_TypesOk.s), ((69, []), impl_within.s), ((71, []), impl_size_int64.s), ((93, []), impl_starts.s), ((66, []), impl_youngObject.s), ((94, [95]), impl_isObject_at_impl_heads_1.s)]
def impl_heads.G24 (k : Nat) (avs : List AV) (H : List HE) : Option (List Int × Bool) := match avs, H with
  | [.con .str x0, .box 0 0, .box 1 0, .own 2, .v (.int .i64 x36), .v (.int .i64 x37)], [.box [.v (.int .i64 x3_0), .con (.int .i64) x3_1], .box [.own 2], .row 2 (.int .i64) x6_0] => impl_heads.p24 k x0 x3_0 x3_1 x6_0 x36 x37
  | _, _ => none
def impl_heads.G (k p : Nat) (avs : List AV) (H : List HE) : Option (List Int × Bool) := (pick1 24 (impl_heads.G24 k avs H) none p)
set_option maxRecDepth 100000 in
theorem impl_heads.eq (k : Nat) (a0 : List ByteArray) (a1_0 : Int) (a1_1 : List Int) : fromTop Tryd.prog impl_heads.E k impl_heads.a (impl_heads.G k) 1000 (bodyOf Tryd.prog 60) [.con .str a0, .agg [.v (.int .i64 a1_0), .con (.int .i64) a1_1]] [] = impl_heads.f k a0 a1_0 a1_1 := by kernel_rfl
set_option maxRecDepth 100000 in
theorem impl_heads.eq24 (k : Nat) (x0 : List ByteArray) (x3_0 : Int) (x3_1 : List Int) (x6_0 : List Int) (x36 : Int) (x37 : Int) : fromPt Tryd.prog impl_heads.E k impl_heads.a (impl_heads.G k) 1000 (bodyOf Tryd.prog 60) 24 [.con .str x0, .box 0 0, .box 1 0, .own 2, .v (.int .i64 x36), .v (.int .i64 x37)] [.box [.v (.int .i64 x3_0), .con (.int .i64) x3_1], .box [.own 2], .row 2 (.int .i64) x6_0] = impl_heads.p24 (k + 1) x0 x3_0 x3_1 x6_0 x36 x37 := by kernel_rfl
theorem impl_heads.G24_0 {avs : List AV} {H : List HE} : impl_heads.G24 0 avs H = none := by unfold impl_heads.G24; split <;> rfl
theorem impl_heads.G24_s (k : Nat) {avs : List AV} {H : List HE} {x : List Int × Bool} (h : impl_heads.G24 (k + 1) avs H = some x) : fromPt Tryd.prog impl_heads.E k impl_heads.a (impl_heads.G k) 1000 (bodyOf Tryd.prog 60) 24 avs H = some x := by
  unfold impl_heads.G24 at h
  split at h
  · rw [← h]; exact impl_heads.eq24 _ _ _ _ _ _ _
  · cases h
theorem impl_heads.E_ok : EnvOk Tryd.prog impl_heads.E := ⟨⟨impl_TypesOk.sound, callable_of (by kernel_rfl)⟩, ⟨impl_within.sound, callable_of (by kernel_rfl)⟩, ⟨impl_size_int64.sound, callable_of (by kernel_rfl)⟩, ⟨impl_starts.sound, callable_of (by kernel_rfl)⟩, ⟨impl_youngObject.sound, callable_of (by kernel_rfl)⟩, ⟨impl_isObject_at_impl_heads_1.sound, callable_of (by kernel_rfl)⟩, trivial⟩
theorem impl_heads.sound : Sound Tryd.prog 60 impl_heads.s := by
  refine func_sound (f := impl_heads.a) (G := impl_heads.G) (fn := Tryd.f60) (body := bodyOf Tryd.prog 60) 1000 (by kernel_rfl) impl_heads.E_ok Tryd.func60 (by kernel_rfl) (by kernel_rfl) (by kernel_rfl) (ptsOk_of (by kernel_rfl)) ?_ ?_ ?_ ?_
  · intro r H x h
    unfold impl_heads.a at h
    simp only at h
    split at h
    · cases h; rfl
    · cases h
  · exact fun q avs H => pick1_none impl_heads.G24_0 (rfl)
  · intro k q pt avs H x _ h
    rcases pick1_some h with ⟨rfl, h⟩ | h
    · exact impl_heads.G24_s _ h
    cases h
  · intro k avs H o h
    try dsimp only at h
    split at h
    · cases h; exact impl_heads.eq _ _ _ _
    · cases h

def impl_YoungClosure_1.a : FnA (Bool) := ⟨8, [.tmp 3], .bool, [], [], fun x H => match x, H with
  | .bs false r, [] => some r
  | _, _ => none⟩
def impl_YoungClosure_1.s : Spec := mkS [.val, .elt (.sl (.int .i64))] (fun k avs H => match avs, H with
  | [.v (.int .i64 a0), .elt (.sl (.int .i64)) a1 0], [] => some (impl_YoungClosure_1.f k a0 a1)
  | _, _ => none) (fun r => (.bs false r, []))
def impl_YoungClosure_1.E : Env := [((74, []), impl_isRef.s)]
def impl_YoungClosure_1.G (k p : Nat) (avs : List AV) (H : List HE) : Option (Bool) := none
set_option maxRecDepth 100000 in
theorem impl_YoungClosure_1.eq (k : Nat) (a0 : Int) (a1 : List Int) : fromTop Tryd.prog impl_YoungClosure_1.E k impl_YoungClosure_1.a (impl_YoungClosure_1.G k) 1000 (bodyOf Tryd.prog 78) [.v (.int .i64 a0), .elt (.sl (.int .i64)) a1 0] [] = impl_YoungClosure_1.f k a0 a1 := by kernel_rfl
theorem impl_YoungClosure_1.E_ok : EnvOk Tryd.prog impl_YoungClosure_1.E := ⟨⟨impl_isRef.sound, callable_of (by kernel_rfl)⟩, trivial⟩
theorem impl_YoungClosure_1.sound : Sound Tryd.prog 78 impl_YoungClosure_1.s := by
  refine func_sound (f := impl_YoungClosure_1.a) (G := impl_YoungClosure_1.G) (fn := Tryd.f78) (body := bodyOf Tryd.prog 78) 1000 (by kernel_rfl) impl_YoungClosure_1.E_ok Tryd.func78 (by kernel_rfl) (by kernel_rfl) (by kernel_rfl) (ptsOk_of (by kernel_rfl)) ?_ ?_ ?_ ?_
  · intro r H x h
    unfold impl_YoungClosure_1.a at h
    simp only at h
    split at h
    · cases h; rfl
    · cases h
  · intro q avs H; rfl
  · intro k q pt avs H x _ h; cases h
  · intro k avs H o h
    try dsimp only at h
    split at h
    · cases h; exact impl_YoungClosure_1.eq _ _ _
    · cases h

def slices_IndexFunc_int64_at_impl_YoungClosure_1.a : FnA (Int) := ⟨19, [.tmp 4], .val, [], [⟨6, [0, 1, 7, 8], [.con (.int .i64), .fn 78 0 [.elt (.sl (.int .i64))], .val, .val], []⟩], fun x H => match x, H with
  | .v (.int .i64 r), [] => some r
  | _, _ => none⟩
def slices_IndexFunc_int64_at_impl_YoungClosure_1.s : Spec := mkS [.con (.int .i64), .fn 78 0 [.elt (.sl (.int .i64))]] (fun k avs H => match avs, H with
  | [.con (.int .i64) a0, .fn 78 0 [.elt (.sl (.int .i64)) a1_0 0]], [] => some (slices_IndexFunc_int64_at_impl_YoungClosure_1.f k a0 a1_0)
  | _, _ => none) (fun r => (.v (.int .i64 r), []))
def slices_IndexFunc_int64_at_impl_YoungClosure_1.E : Env := [((78, []), impl_YoungClosure_1.s)]
def slices_IndexFunc_int64_at_impl_YoungClosure_1.G6 (k : Nat) (avs : List AV) (H : List HE) : Option (Int) := match avs, H with
  | [.con (.int .i64) x0, .fn 78 0 [.elt (.sl (.int .i64)) x1_0 0], .v (.int .i64 x7), .v (.int .i64 x8)], [] => slices_IndexFunc_int64_at_impl_YoungClosure_1.p6 k x0 x1_0 x7 x8
  | _, _ => none
def slices_IndexFunc_int64_at_impl_YoungClosure_1.G (k p : Nat) (avs : List AV) (H : List HE) : Option (Int) := (pick1 6 (slices_IndexFunc_int64_at_impl_YoungClosure_1.G6 k avs H) none p)
set_option maxRecDepth 100000 in
theorem slices_IndexFunc_int64_at_impl_YoungClosure_1.eq (k : Nat) (a0 : List Int) (a1_0 : List Int) : fromTop Tryd.prog slices_IndexFunc_int64_at_impl_YoungClosure_1.E k slices_IndexFunc_int64_at_impl_YoungClosure_1.a (slices_IndexFunc_int64_at_impl_YoungClosure_1.G k) 1000 (bodyOf Tryd.prog 99) [.con (.int .i64) a0, .fn 78 0 [.elt (.sl (.int .i64)) a1_0 0]] [] = slices_IndexFunc_int64_at_impl_YoungClosure_1.f k a0 a1_0 := by kernel_rfl
set_option maxRecDepth 100000 in
theorem slices_IndexFunc_int64_at_impl_YoungClosure_1.eq6 (k : Nat) (x0 : List Int) (x1_0 : List Int) (x7 : Int) (x8 : Int) : fromPt Tryd.prog slices_IndexFunc_int64_at_impl_YoungClosure_1.E k slices_IndexFunc_int64_at_impl_YoungClosure_1.a (slices_IndexFunc_int64_at_impl_YoungClosure_1.G k) 1000 (bodyOf Tryd.prog 99) 6 [.con (.int .i64) x0, .fn 78 0 [.elt (.sl (.int .i64)) x1_0 0], .v (.int .i64 x7), .v (.int .i64 x8)] [] = slices_IndexFunc_int64_at_impl_YoungClosure_1.p6 (k + 1) x0 x1_0 x7 x8 := by kernel_rfl
theorem slices_IndexFunc_int64_at_impl_YoungClosure_1.G6_0 {avs : List AV} {H : List HE} : slices_IndexFunc_int64_at_impl_YoungClosure_1.G6 0 avs H = none := by unfold slices_IndexFunc_int64_at_impl_YoungClosure_1.G6; split <;> rfl
theorem slices_IndexFunc_int64_at_impl_YoungClosure_1.G6_s (k : Nat) {avs : List AV} {H : List HE} {x : Int} (h : slices_IndexFunc_int64_at_impl_YoungClosure_1.G6 (k + 1) avs H = some x) : fromPt Tryd.prog slices_IndexFunc_int64_at_impl_YoungClosure_1.E k slices_IndexFunc_int64_at_impl_YoungClosure_1.a (slices_IndexFunc_int64_at_impl_YoungClosure_1.G k) 1000 (bodyOf Tryd.prog 99) 6 avs H = some x := by
  unfold slices_IndexFunc_int64_at_impl_YoungClosure_1.G6 at h
  split at h
  · rw [← h]; exact slices_IndexFunc_int64_at_impl_YoungClosure_1.eq6 _ _ _ _ _
  · cases h
theorem slices_IndexFunc_int64_at_impl_YoungClosure_1.E_ok : EnvOk Tryd.prog slices_IndexFunc_int64_at_impl_YoungClosure_1.E := ⟨⟨impl_YoungClosure_1.sound, callable_of (by kernel_rfl)⟩, trivial⟩
theorem slices_IndexFunc_int64_at_impl_YoungClosure_1.sound : Sound Tryd.prog 99 slices_IndexFunc_int64_at_impl_YoungClosure_1.s := by
  refine func_sound (f := slices_IndexFunc_int64_at_impl_YoungClosure_1.a) (G := slices_IndexFunc_int64_at_impl_YoungClosure_1.G) (fn := Tryd.f99) (body := bodyOf Tryd.prog 99) 1000 (by kernel_rfl) slices_IndexFunc_int64_at_impl_YoungClosure_1.E_ok Tryd.func99 (by kernel_rfl) (by kernel_rfl) (by kernel_rfl) (ptsOk_of (by kernel_rfl)) ?_ ?_ ?_ ?_
  · intro r H x h
    unfold slices_IndexFunc_int64_at_impl_YoungClosure_1.a at h
    simp only at h
    split at h
    · cases h; rfl
    · cases h
  · exact fun q avs H => pick1_none slices_IndexFunc_int64_at_impl_YoungClosure_1.G6_0 (rfl)
  · intro k q pt avs H x _ h
    rcases pick1_some h with ⟨rfl, h⟩ | h
    · exact slices_IndexFunc_int64_at_impl_YoungClosure_1.G6_s _ h
    cases h
  · intro k avs H o h
    try dsimp only at h
    split at h
    · cases h; exact slices_IndexFunc_int64_at_impl_YoungClosure_1.eq _ _ _
    · cases h

def slices_ContainsFunc_int64_at_impl_YoungClosure_1.a : FnA (Bool) := ⟨9, [.tmp 4], .bool, [], [], fun x H => match x, H with
  | .bs false r, [] => some r
  | _, _ => none⟩
def slices_ContainsFunc_int64_at_impl_YoungClosure_1.s : Spec := mkS [.con (.int .i64), .fn 78 0 [.elt (.sl (.int .i64))]] (fun k avs H => match avs, H with
  | [.con (.int .i64) a0, .fn 78 0 [.elt (.sl (.int .i64)) a1_0 0]], [] => some (slices_ContainsFunc_int64_at_impl_YoungClosure_1.f k a0 a1_0)
  | _, _ => none) (fun r => (.bs false r, []))
def slices_ContainsFunc_int64_at_impl_YoungClosure_1.E : Env := [((99, [78]), slices_IndexFunc_int64_at_impl_YoungClosure_1.s)]
def slices_ContainsFunc_int64_at_impl_YoungClosure_1.G (k p : Nat) (avs : List AV) (H : List HE) : Option (Bool) := none
set_option maxRecDepth 100000 in
theorem slices_ContainsFunc_int64_at_impl_YoungClosure_1.eq (k : Nat) (a0 : List Int) (a1_0 : List Int) : fromTop Tryd.prog slices_ContainsFunc_int64_at_impl_YoungClosure_1.E k slices_ContainsFunc_int64_at_impl_YoungClosure_1.a (slices_ContainsFunc_int64_at_impl_YoungClosure_1.G k) 1000 (bodyOf Tryd.prog 77) [.con (.int .i64) a0, .fn 78 0 [.elt (.sl (.int .i64)) a1_0 0]] [] = slices_ContainsFunc_int64_at_impl_YoungClosure_1.f k a0 a1_0 := by kernel_rfl
theorem slices_ContainsFunc_int64_at_impl_YoungClosure_1.E_ok : EnvOk Tryd.prog slices_ContainsFunc_int64_at_impl_YoungClosure_1.E := ⟨⟨slices_IndexFunc_int64_at_impl_YoungClosure_1.sound, callable_of (by kernel_rfl)⟩, trivial⟩
theorem slices_ContainsFunc_int64_at_impl_YoungClosure_1.sound : Sound Tryd.prog 77 slices_ContainsFunc_int64_at_impl_YoungClosure_1.s := by
  refine func_sound (f := slices_ContainsFunc_int64_at_impl_YoungClosure_1.a) (G := slices_ContainsFunc_int64_at_impl_YoungClosure_1.G) (fn := Tryd.f77) (body := bodyOf Tryd.prog 77) 1000 (by kernel_rfl) slices_ContainsFunc_int64_at_impl_YoungClosure_1.E_ok Tryd.func77 (by kernel_rfl) (by kernel_rfl) (by kernel_rfl) (ptsOk_of (by kernel_rfl)) ?_ ?_ ?_ ?_
  · intro r H x h
    unfold slices_ContainsFunc_int64_at_impl_YoungClosure_1.a at h
    simp only at h
    split at h
    · cases h; rfl
    · cases h
  · intro q avs H; rfl
  · intro k q pt avs H x _ h; cases h
  · intro k avs H o h
    try dsimp only at h
    split at h
    · cases h; exact slices_ContainsFunc_int64_at_impl_YoungClosure_1.eq _ _ _
    · cases h

def impl_youngClosure_1.a : FnA ((Int → Option Bool) × List Int) := ⟨18, [], .tup [], [.box [.mp .bool], .keep, .box [.row 2 (.int .i64)], .drop], [], fun x H => match x, H with
  | .tup [], [.box [.mp 1], .mp .bool h1, .box [.own 4], .gone, .row 2 (.int .i64) h2_0] => some (h1, h2_0)
  | _, _ => none⟩
def impl_youngClosure_1.s : Spec := mkS [.val, .box [.mp .bool], .box [.row 2 (.int .i64)]] (fun k avs H => match avs, H with
  | [.v (.int .i64 a0), .box 0 0, .box 2 0], [.box [.mp 1], .mp .bool a1_0, .box [.own 3], .row 2 (.int .i64) a2_0] => some (impl_youngClosure_1.f a0 a1_0 a2_0)
  | _, _ => none) (fun r => (.tup [], [.box [.mp 1], .mp .bool r.1, .box [.own 4], .gone, .row 2 (.int .i64) r.2]))
def impl_youngClosure_1.E : Env := [((88, []), impl_isYoung.s)]
def impl_youngClosure_1.G (k p : Nat) (avs : List AV) (H : List HE) : Option ((Int → Option Bool) × List Int) := none
set_option maxRecDepth 100000 in
theorem impl_youngClosure_1.eq (k : Nat) (a0 : Int) (a1_0 : (Int → Option Bool)) (a2_0 : List Int) : fromTop Tryd.prog impl_youngClosure_1.E k impl_youngClosure_1.a (impl_youngClosure_1.G k) 1000 (bodyOf Tryd.prog 100) [.v (.int .i64 a0), .box 0 0, .box 2 0] [.box [.mp 1], .mp .bool a1_0, .box [.own 3], .row 2 (.int .i64) a2_0] = impl_youngClosure_1.f a0 a1_0 a2_0 := by kernel_rfl
theorem impl_youngClosure_1.E_ok : EnvOk Tryd.prog impl_youngClosure_1.E := ⟨⟨impl_isYoung.sound, callable_of (by kernel_rfl)⟩, trivial⟩
theorem impl_youngClosure_1.sound : Sound Tryd.prog 100 impl_youngClosure_1.s := by
  refine func_sound (f := impl_youngClosure_1.a) (G := impl_youngClosure_1.G) (fn := Tryd.f100) (body := bodyOf Tryd.prog 100) 1000 (by kernel_rfl) impl_youngClosure_1.E_ok Tryd.func100 (by kernel_rfl) (by kernel_rfl) (by kernel_rfl) (ptsOk_of (by kernel_rfl)) ?_ ?_ ?_ ?_
  · intro r H x h
    unfold impl_youngClosure_1.a at h
    simp only at h
    split at h
    · cases h; rfl
    · cases h
  · intro q avs H; rfl
  · intro k q pt avs H x _ h; cases h
  · intro k avs H o h
    try dsimp only at h
    split at h
    · cases h; exact impl_youngClosure_1.eq _ _ _ _
    · cases h

def impl_youngClosure.a : FnA (List Int) := ⟨64, [.tmp 6], .row 2 (.int .i64), [], [⟨12, [0, 4, 7, 9, 19, 20, 21], [.con .str, .box [.val, .con (.int .i64)], .box [.row 2 (.int .i64)], .fn 100 0 [.box [.mp .bool], .box []], .con (.int .i64), .val, .val], []⟩, ⟨29, [0, 4, 7, 9, 12], [.con .str, .box [.val, .con (.int .i64)], .box [.row 2 (.int .i64)], .fn 100 0 [.box [.mp .bool], .box []], .val], []⟩, ⟨43, [0, 4, 7, 9, 12, 13, 44, 45, 46], [.con .str, .box [.val, .con (.int .i64)], .box [.row 2 (.int .i64)], .fn 100 0 [.box [.mp .bool], .box []], .val, .box [.val, .row 2 (.int .i64)], .row 2 (.int .i64), .val, .val], []⟩], fun x H => match x, H with
  | .own 0, [.row 2 (.int .i64) r] => some r
  | _, _ => none⟩
def impl_youngClosure.s : Spec := mkS [.con .str, .agg [.val, .con (.int .i64)], .con (.int .i64)] (fun k avs H => match avs, H with
  | [.con .str a0, .agg [.v (.int .i64 a1_0), .con (.int .i64) a1_1], .con (.int .i64) a2], [] => some (impl_youngClosure.f k a0 a1_0 a1_1 a2)
  | _, _ => none) (fun r => (.own 0, [.row 2 (.int .i64) r]))
def impl_youngClosure.E : Env := [((100, []), impl_youngClosure_1.s), ((66, []), impl_youngObject.s)]
def impl_youngClosure.G12 (k : Nat) (avs : List AV) (H : List HE) : Option (List Int) := match avs, H with
  | [.con .str x0, .box 0 0, .box 1 0, .fn 100 0 [.box 3 0, .box 1 0], .con (.int .i64) x19, .v (.int .i64 x20), .v (.int .i64 x21)], [.box [.v (.int .i64 x4_0), .con (.int .i64) x4_1], .box [.own 2], .row 2 (.int .i64) x7_0, .box [.mp 4], .mp .bool x9_0_0] => impl_youngClosure.p12 k x0 x4_0 x4_1 x7_0 x9_0_0 x19 x20 x21
  | _, _ => none
def impl_youngClosure.G29 (k : Nat) (avs : List AV) (H : List HE) : Option (List Int) := match avs, H with
  | [.con .str x0, .box 0 0, .box 1 0, .fn 100 0 [.box 3 0, .box 1 0], .v (.int .i64 x12)], [.box [.v (.int .i64 x4_0), .con (.int .i64) x4_1], .box [.own 2], .row 2 (.int .i64) x7_0, .box [.mp 4], .mp .bool x9_0_0] => impl_youngClosure.p29 k x0 x4_0 x4_1 x7_0 x9_0_0 x12
  | _, _ => none
def impl_youngClosure.G43 (k : Nat) (avs : List AV) (H : List HE) : Option (List Int) := match avs, H with
  | [.con .str x0, .box 0 0, .box 1 0, .fn 100 0 [.box 3 0, .box 1 0], .v (.int .i64 x12), .box 5 0, .own 6, .v (.int .i64 x45), .v (.int .i64 x46)], [.box [.v (.int .i64 x4_0), .con (.int .i64) x4_1], .box [.own 2], .row 2 (.int .i64) x7_0, .box [.mp 4], .mp .bool x9_0_0, .box [.v (.int .i64 x13_0), .own 6], .row 2 (.int .i64) x13_1] => impl_youngClosure.p43 k x0 x4_0 x4_1 x7_0 x9_0_0 x12 x13_0 x13_1 x45 x46
  | _, _ => none
def impl_youngClosure.G (k p : Nat) (avs : List AV) (H : List HE) : Option (List Int) := (pick1 12 (impl_youngClosure.G12 k avs H) (pick1 29 (impl_youngClosure.G29 k avs H) (pick1 43 (impl_youngClosure.G43 k avs H) none p) p) p)
set_option maxRecDepth 100000 in
theorem impl_youngClosure.eq (k : Nat) (a0 : List ByteArray) (a1_0 : Int) (a1_1 : List Int) (a2 : List Int) : fromTop Tryd.prog impl_youngClosure.E k impl_youngClosure.a (impl_youngClosure.G k) 1000 (bodyOf Tryd.prog 79) [.con .str a0, .agg [.v (.int .i64 a1_0), .con (.int .i64) a1_1], .con (.int .i64) a2] [] = impl_youngClosure.f k a0 a1_0 a1_1 a2 := by kernel_rfl
set_option maxRecDepth 100000 in
theorem impl_youngClosure.eq12 (k : Nat) (x0 : List ByteArray) (x4_0 : Int) (x4_1 : List Int) (x7_0 : List Int) (x9_0_0 : (Int → Option Bool)) (x19 : List Int) (x20 : Int) (x21 : Int) : fromPt Tryd.prog impl_youngClosure.E k impl_youngClosure.a (impl_youngClosure.G k) 1000 (bodyOf Tryd.prog 79) 12 [.con .str x0, .box 0 0, .box 1 0, .fn 100 0 [.box 3 0, .box 1 0], .con (.int .i64) x19, .v (.int .i64 x20), .v (.int .i64 x21)] [.box [.v (.int .i64 x4_0), .con (.int .i64) x4_1], .box [.own 2], .row 2 (.int .i64) x7_0, .box [.mp 4], .mp .bool x9_0_0] = impl_youngClosure.p12 (k + 1) x0 x4_0 x4_1 x7_0 x9_0_0 x19 x20 x21 := by kernel_rfl
theorem impl_youngClosure.G12_0 {avs : List AV} {H : List HE} : impl_youngClosure.G12 0 avs H = none := by unfold impl_youngClosure.G12; split <;> rfl
theorem impl_youngClosure.G12_s (k : Nat) {avs : List AV} {H : List HE} {x : List Int} (h : impl_youngClosure.G12 (k + 1) avs H = some x) : fromPt Tryd.prog impl_youngClosure.E k impl_youngClosure.a (impl_youngClosure.G k) 1000 (bodyOf Tryd.prog 79) 12 avs H = some x := by
  unfold impl_youngClosure.G12 at h
  split at h
  · rw [← h]; exact impl_youngClosure.eq12 _ _ _ _ _ _ _ _ _
  · cases h
set_option maxRecDepth 100000 in
theorem impl_youngClosure.eq29 (k : Nat) (x0 : List ByteArray) (x4_0 : Int) (x4_1 : List Int) (x7_0 : List Int) (x9_0_0 : (Int → Option Bool)) (x12 : Int) : fromPt Tryd.prog impl_youngClosure.E k impl_youngClosure.a (impl_youngClosure.G k) 1000 (bodyOf Tryd.prog 79) 29 [.con .str x0, .box 0 0, .box 1 0, .fn 100 0 [.box 3 0, .box 1 0], .v (.int .i64 x12)] [.box [.v (.int .i64 x4_0), .con (.int .i64) x4_1], .box [.own 2], .row 2 (.int .i64) x7_0, .box [.mp 4], .mp .bool x9_0_0] = impl_youngClosure.p29 (k + 1) x0 x4_0 x4_1 x7_0 x9_0_0 x12 := by kernel_rfl
theorem impl_youngClosure.G29_0 {avs : List AV} {H : List HE} : impl_youngClosure.G29 0 avs H = none := by unfold impl_youngClosure.G29; split <;> rfl
theorem impl_youngClosure.G29_s (k : Nat) {avs : List AV} {H : List HE} {x : List Int} (h : impl_youngClosure.G29 (k + 1) avs H = some x) : fromPt Tryd.prog impl_youngClosure.E k impl_youngClosure.a (impl_youngClosure.G k) 1000 (bodyOf Tryd.prog 79) 29 avs H = some x := by
  unfold impl_youngClosure.G29 at h
  split at h
  · rw [← h]; exact impl_youngClosure.eq29 _ _ _ _ _ _ _
  · cases h
set_option maxRecDepth 100000 in
theorem impl_youngClosure.eq43 (k : Nat) (x0 : List ByteArray) (x4_0 : Int) (x4_1 : List Int) (x7_0 : List Int) (x9_0_0 : (Int → Option Bool)) (x12 : Int) (x13_0 : Int) (x13_1 : List Int) (x45 : Int) (x46 : Int) : fromPt Tryd.prog impl_youngClosure.E k impl_youngClosure.a (impl_youngClosure.G k) 1000 (bodyOf Tryd.prog 79) 43 [.con .str x0, .box 0 0, .box 1 0, .fn 100 0 [.box 3 0, .box 1 0], .v (.int .i64 x12), .box 5 0, .own 6, .v (.int .i64 x45), .v (.int .i64 x46)] [.box [.v (.int .i64 x4_0), .con (.int .i64) x4_1], .box [.own 2], .row 2 (.int .i64) x7_0, .box [.mp 4], .mp .bool x9_0_0, .box [.v (.int .i64 x13_0), .own 6], .row 2 (.int .i64) x13_1] = impl_youngClosure.p43 (k + 1) x0 x4_0 x4_1 x7_0 x9_0_0 x12 x13_0 x13_1 x45 x46 := by kernel_rfl
theorem impl_youngClosure.G43_0 {avs : List AV} {H : List HE} : impl_youngClosure.G43 0 avs H = none := by unfold impl_youngClosure.G43; split <;> rfl
theorem impl_youngClosure.G43_s (k : Nat) {avs : List AV} {H : List HE} {x : List Int} (h : impl_youngClosure.G43 (k + 1) avs H = some x) : fromPt Tryd.prog impl_youngClosure.E k impl_youngClosure.a (impl_youngClosure.G k) 1000 (bodyOf Tryd.prog 79) 43 avs H = some x := by
  unfold impl_youngClosure.G43 at h
  split at h
  · rw [← h]; exact impl_youngClosure.eq43 _ _ _ _ _ _ _ _ _ _ _
  · cases h
theorem impl_youngClosure.E_ok : EnvOk Tryd.prog impl_youngClosure.E := ⟨⟨impl_youngClosure_1.sound, callable_of (by kernel_rfl)⟩, ⟨impl_youngObject.sound, callable_of (by kernel_rfl)⟩, trivial⟩
theorem impl_youngClosure.sound : Sound Tryd.prog 79 impl_youngClosure.s := by
  refine func_sound (f := impl_youngClosure.a) (G := impl_youngClosure.G) (fn := Tryd.f79) (body := bodyOf Tryd.prog 79) 1000 (by kernel_rfl) impl_youngClosure.E_ok Tryd.func79 (by kernel_rfl) (by kernel_rfl) (by kernel_rfl) (ptsOk_of (by kernel_rfl)) ?_ ?_ ?_ ?_
  · intro r H x h
    unfold impl_youngClosure.a at h
    simp only at h
    split at h
    · cases h; rfl
    · cases h
  · exact fun q avs H => pick1_none impl_youngClosure.G12_0 (pick1_none impl_youngClosure.G29_0 (pick1_none impl_youngClosure.G43_0 (rfl)))
  · intro k q pt avs H x _ h
    rcases pick1_some h with ⟨rfl, h⟩ | h
    · exact impl_youngClosure.G12_s _ h
    rcases pick1_some h with ⟨rfl, h⟩ | h
    · exact impl_youngClosure.G29_s _ h
    rcases pick1_some h with ⟨rfl, h⟩ | h
    · exact impl_youngClosure.G43_s _ h
    cases h
  · intro k avs H o h
    try dsimp only at h
    split at h
    · cases h; exact impl_youngClosure.eq _ _ _ _ _
    · cases h

def impl_YoungClosure.a : FnA (List Int × Bool) := ⟨32, [.tmp 6, .tmp 7], .tup [.row 2 (.int .i64), .bool], [], [], fun x H => match x, H with
  | .tup [.own 0, .bs false r_1], [.row 2 (.int .i64) r_0] => some (r_0, r_1)
  | _, _ => none⟩
def impl_YoungClosure.s : Spec := mkS [.con .str, .agg [.val, .con (.int .i64)], .con (.int .i64)] (fun k avs H => match avs, H with
  | [.con .str a0, .agg [.v (.int .i64 a1_0), .con (.int .i64) a1_1], .con (.int .i64) a2], [] => some (impl_YoungClosure.f k a0 a1_0 a1_1 a2)
  | _, _ => none) (fun r => (.tup [.own 0, .bs false r.2], [.row 2 (.int .i64) r.1]))
def impl_YoungClosure.E : Env := [((60, []), impl_heads.s), ((77, [78]), slices_ContainsFunc_int64_at_impl_YoungClosure_1.s), ((79, []), impl_youngClosure.s)]
def impl_YoungClosure.G (k p : Nat) (avs : List AV) (H : List HE) : Option (List Int × Bool) := none
set_option maxRecDepth 100000 in
theorem impl_YoungClosure.eq (k : Nat) (a0 : List ByteArray) (a1_0 : Int) (a1_1 : List Int) (a2 : List Int) : fromTop Tryd.prog impl_YoungClosure.E k impl_YoungClosure.a (impl_YoungClosure.G k) 1000 (bodyOf Tryd.prog 45) [.con .str a0, .agg [.v (.int .i64 a1_0), .con (.int .i64) a1_1], .con (.int .i64) a2] [] = impl_YoungClosure.f k a0 a1_0 a1_1 a2 := by kernel_rfl
theorem impl_YoungClosure.E_ok : EnvOk Tryd.prog impl_YoungClosure.E := ⟨⟨impl_heads.sound, callable_of (by kernel_rfl)⟩, ⟨slices_ContainsFunc_int64_at_impl_YoungClosure_1.sound, callable_of (by kernel_rfl)⟩, ⟨impl_youngClosure.sound, callable_of (by kernel_rfl)⟩, trivial⟩
theorem impl_YoungClosure.sound : Sound Tryd.prog 45 impl_YoungClosure.s := by
  refine func_sound (f := impl_YoungClosure.a) (G := impl_YoungClosure.G) (fn := Tryd.f45) (body := bodyOf Tryd.prog 45) 1000 (by kernel_rfl) impl_YoungClosure.E_ok Tryd.func45 (by kernel_rfl) (by kernel_rfl) (by kernel_rfl) (ptsOk_of (by kernel_rfl)) ?_ ?_ ?_ ?_
  · intro r H x h
    unfold impl_YoungClosure.a at h
    simp only at h
    split at h
    · cases h; rfl
    · cases h
  · intro q avs H; rfl
  · intro k q pt avs H x _ h; cases h
  · intro k avs H o h
    try dsimp only at h
    split at h
    · cases h; exact impl_YoungClosure.eq _ _ _ _ _
    · cases h

def impl_YoungRef.a : FnA (Int) := ⟨9, [.tmp 2], .val, [], [], fun x H => match x, H with
  | .v (.int .i64 r), [] => some r
  | _, _ => none⟩
def impl_YoungRef.s : Spec := mkS [.val] (fun k avs H => match avs, H with
  | [.v (.int .i64 a0)], [] => some (impl_YoungRef.f a0)
  | _, _ => none) (fun r => (.v (.int .i64 r), []))
def impl_YoungRef.E : Env := [((69, []), impl_within.s)]
def impl_YoungRef.G (k p : Nat) (avs : List AV) (H : List HE) : Option (Int) := none
set_option maxRecDepth 100000 in
theorem impl_YoungRef.eq (k : Nat) (a0 : Int) : fromTop Tryd.prog impl_YoungRef.E k impl_YoungRef.a (impl_YoungRef.G k) 1000 (bodyOf Tryd.prog 73) [.v (.int .i64 a0)] [] = impl_YoungRef.f a0 := by kernel_rfl
theorem impl_YoungRef.E_ok : EnvOk Tryd.prog impl_YoungRef.E := ⟨⟨impl_within.sound, callable_of (by kernel_rfl)⟩, trivial⟩
theorem impl_YoungRef.sound : Sound Tryd.prog 73 impl_YoungRef.s := by
  refine func_sound (f := impl_YoungRef.a) (G := impl_YoungRef.G) (fn := Tryd.f73) (body := bodyOf Tryd.prog 73) 1000 (by kernel_rfl) impl_YoungRef.E_ok Tryd.func73 (by kernel_rfl) (by kernel_rfl) (by kernel_rfl) (ptsOk_of (by kernel_rfl)) ?_ ?_ ?_ ?_
  · intro r H x h
    unfold impl_YoungRef.a at h
    simp only at h
    split at h
    · cases h; rfl
    · cases h
  · intro q avs H; rfl
  · intro k q pt avs H x _ h; cases h
  · intro k avs H o h
    try dsimp only at h
    split at h
    · cases h; exact impl_YoungRef.eq _ _
    · cases h

def impl_Minor_1.a : FnA ((Int → Option Int) × Int) := ⟨10, [.tmp 3], .val, [.box [.mp (.int .i64)], .keep], [], fun x H => match x, H with
  | .v (.int .i64 r), [.box [.mp 1], .mp (.int .i64) h1] => some (h1, r)
  | _, _ => none⟩
def impl_Minor_1.s : Spec := mkS [.val, .box [.mp (.int .i64)]] (fun k avs H => match avs, H with
  | [.v (.int .i64 a0), .box 0 0], [.box [.mp 1], .mp (.int .i64) a1_0] => some (impl_Minor_1.f a0 a1_0)
  | _, _ => none) (fun r => (.v (.int .i64 r.2), [.box [.mp 1], .mp (.int .i64) r.1]))
def impl_Minor_1.E : Env := [((88, []), impl_isYoung.s)]
def impl_Minor_1.G (k p : Nat) (avs : List AV) (H : List HE) : Option ((Int → Option Int) × Int) := none
set_option maxRecDepth 100000 in
theorem impl_Minor_1.eq (k : Nat) (a0 : Int) (a1_0 : (Int → Option Int)) : fromTop Tryd.prog impl_Minor_1.E k impl_Minor_1.a (impl_Minor_1.G k) 1000 (bodyOf Tryd.prog 87) [.v (.int .i64 a0), .box 0 0] [.box [.mp 1], .mp (.int .i64) a1_0] = impl_Minor_1.f a0 a1_0 := by kernel_rfl
theorem impl_Minor_1.E_ok : EnvOk Tryd.prog impl_Minor_1.E := ⟨⟨impl_isYoung.sound, callable_of (by kernel_rfl)⟩, trivial⟩
theorem impl_Minor_1.sound : Sound Tryd.prog 87 impl_Minor_1.s := by
  refine func_sound (f := impl_Minor_1.a) (G := impl_Minor_1.G) (fn := Tryd.f87) (body := bodyOf Tryd.prog 87) 1000 (by kernel_rfl) impl_Minor_1.E_ok Tryd.func87 (by kernel_rfl) (by kernel_rfl) (by kernel_rfl) (ptsOk_of (by kernel_rfl)) ?_ ?_ ?_ ?_
  · intro r H x h
    unfold impl_Minor_1.a at h
    simp only at h
    split at h
    · cases h; rfl
    · cases h
  · intro q avs H; rfl
  · intro k q pt avs H x _ h; cases h
  · intro k avs H o h
    try dsimp only at h
    split at h
    · cases h; exact impl_Minor_1.eq _ _ _
    · cases h

def impl_Minor.a : FnA (Int × List Int × List Int × Bool) := ⟨139, [.cell 6 30, .tmp 7, .tmp 8], .tup [.agg [.val, .row 2 (.int .i64)], .row 2 (.int .i64), .bool], [], [⟨20, [0, 2, 4, 6, 9, 11, 12, 37, 38, 39], [.con .str, .con (.int .i64), .box [.val, .con (.int .i64)], .box [.val, .val], .row 2 (.int .i64), .box [.mp (.int .i64)], .val, .row 2 (.int .i64), .val, .val], []⟩, ⟨43, [0, 2, 4, 6, 15, 16, 66, 67, 68], [.con .str, .con (.int .i64), .box [.val, .con (.int .i64)], .box [.val, .val], .fn 87 0 [.box [.mp (.int .i64)]], .box [.val, .row 2 (.int .i64)], .row 2 (.int .i64), .val, .val], []⟩, ⟨63, [0, 2, 4, 6, 15, 16, 19, 66, 67, 68, 97, 98, 99], [.con .str, .con (.int .i64), .box [.val, .con (.int .i64)], .box [.val, .val], .fn 87 0 [.box [.mp (.int .i64)]], .box [.val, .row 2 (.int .i64)], .box [.val, .row 2 (.int .i64)], .row 2 (.int .i64), .val, .val, .row 2 (.int .i64), .val, .val], []⟩, ⟨89, [6, 15, 16, 23, 124, 125, 126], [.box [.val, .val], .fn 87 0 [.box [.mp (.int .i64)]], .box [.val, .row 2 (.int .i64)], .row 2 (.int .i64), .con (.int .i64), .val, .val], []⟩], fun x H => match x, H with
  | .tup [.agg [.v (.int .i64 r_0_0), .own 0], .own 1, .bs false r_2], [.row 2 (.int .i64) r_0_1, .row 2 (.int .i64) r_1] => some (r_0_0, r_0_1, r_1, r_2)
  | _, _ => none⟩
def impl_Minor.s : Spec := mkS [.con .str, .agg [.val, .con (.int .i64)], .con (.int .i64)] (fun k avs H => match avs, H with
  | [.con .str a0, .agg [.v (.int .i64 a1_0), .con (.int .i64) a1_1], .con (.int .i64) a2], [] => some (impl_Minor.f k a0 a1_0 a1_1 a2)
  | _, _ => none) (fun r => (.tup [.agg [.v (.int .i64 r.1), .own 0], .own 1, .bs false r.2.2.2], [.row 2 (.int .i64) r.2.1, .row 2 (.int .i64) r.2.2.1]))
def impl_Minor.E : Env := [((45, []), impl_YoungClosure.s), ((73, []), impl_YoungRef.s), ((66, []), impl_youngObject.s), ((87, []), impl_Minor_1.s)]
def impl_Minor.G20 (k : Nat) (avs : List AV) (H : List HE) : Option (Int × List Int × List Int × Bool) := match avs, H with
  | [.con .str x0, .con (.int .i64) x2, .box 0 0, .box 1 0, .own 2, .box 3 0, .v (.int .i64 x12), .own 2, .v (.int .i64 x38), .v (.int .i64 x39)], [.box [.v (.int .i64 x4_0), .con (.int .i64) x4_1], .box [.v (.int .i64 x6_0), .v (.slice none 0 0)], .row 2 (.int .i64) x9, .box [.mp 4], .mp (.int .i64) x11_0] => impl_Minor.p20 k x0 x2 x4_0 x4_1 x6_0 x9 x11_0 x12 x38 x39
  | _, _ => none
def impl_Minor.G43 (k : Nat) (avs : List AV) (H : List HE) : Option (Int × List Int × List Int × Bool) := match avs, H with
  | [.con .str x0, .con (.int .i64) x2, .box 0 0, .box 1 0, .fn 87 0 [.box 2 0], .box 4 0, .own 6, .v (.int .i64 x67), .v (.int .i64 x68)], [.box [.v (.int .i64 x4_0), .con (.int .i64) x4_1], .box [.v (.int .i64 x6_0), .v (.slice none 0 0)], .box [.mp 3], .mp (.int .i64) x15_0_0, .box [.v (.int .i64 x16_0), .own 5], .row 2 (.int .i64) x16_1, .row 2 (.int .i64) x66] => impl_Minor.p43 k x0 x2 x4_0 x4_1 x6_0 x15_0_0 x16_0 x16_1 x66 x67 x68
  | _, _ => none
def impl_Minor.G63 (k : Nat) (avs : List AV) (H : List HE) : Option (Int × List Int × List Int × Bool) := match avs, H with
  | [.con .str x0, .con (.int .i64) x2, .box 0 0, .box 1 0, .fn 87 0 [.box 2 0], .box 4 0, .box 6 0, .own 8, .v (.int .i64 x67), .v (.int .i64 x68), .own 7, .v (.int .i64 x98), .v (.int .i64 x99)], [.box [.v (.int .i64 x4_0), .con (.int .i64) x4_1], .box [.v (.int .i64 x6_0), .v (.slice none 0 0)], .box [.mp 3], .mp (.int .i64) x15_0_0, .box [.v (.int .i64 x16_0), .own 5], .row 2 (.int .i64) x16_1, .box [.v (.int .i64 x19_0), .own 7], .row 2 (.int .i64) x19_1, .row 2 (.int .i64) x66] => impl_Minor.p63 k x0 x2 x4_0 x4_1 x6_0 x15_0_0 x16_0 x16_1 x19_0 x19_1 x66 x67 x68 x98 x99
  | _, _ => none
def impl_Minor.G89 (k : Nat) (avs : List AV) (H : List HE) : Option (Int × List Int × List Int × Bool) := match avs, H with
  | [.box 0 0, .fn 87 0 [.box 1 0], .box 3 0, .own 5, .con (.int .i64) x124, .v (.int .i64 x125), .v (.int .i64 x126)], [.box [.v (.int .i64 x6_0), .v (.slice none 0 0)], .box [.mp 2], .mp (.int .i64) x15_0_0, .box [.v (.int .i64 x16_0), .own 4], .row 2 (.int .i64) x16_1, .row 2 (.int .i64) x23] => impl_Minor.p89 k x6_0 x15_0_0 x16_0 x16_1 x23 x124 x125 x126
  | _, _ => none
def impl_Minor.G (k p : Nat) (avs : List AV) (H : List HE) : Option (Int × List Int × List Int × Bool) := (pick1 20 (impl_Minor.G20 k avs H) (pick1 43 (impl_Minor.G43 k avs H) (pick1 63 (impl_Minor.G63 k avs H) (pick1 89 (impl_Minor.G89 k avs H) none p) p) p) p)
set_option maxRecDepth 100000 in
theorem impl_Minor.eq (k : Nat) (a0 : List ByteArray) (a1_0 : Int) (a1_1 : List Int) (a2 : List Int) : fromTop Tryd.prog impl_Minor.E k impl_Minor.a (impl_Minor.G k) 1000 (bodyOf Tryd.prog 51) [.con .str a0, .agg [.v (.int .i64 a1_0), .con (.int .i64) a1_1], .con (.int .i64) a2] [] = impl_Minor.f k a0 a1_0 a1_1 a2 := by kernel_rfl
set_option maxRecDepth 100000 in
theorem impl_Minor.eq20 (k : Nat) (x0 : List ByteArray) (x2 : List Int) (x4_0 : Int) (x4_1 : List Int) (x6_0 : Int) (x9 : List Int) (x11_0 : (Int → Option Int)) (x12 : Int) (x38 : Int) (x39 : Int) : fromPt Tryd.prog impl_Minor.E k impl_Minor.a (impl_Minor.G k) 1000 (bodyOf Tryd.prog 51) 20 [.con .str x0, .con (.int .i64) x2, .box 0 0, .box 1 0, .own 2, .box 3 0, .v (.int .i64 x12), .own 2, .v (.int .i64 x38), .v (.int .i64 x39)] [.box [.v (.int .i64 x4_0), .con (.int .i64) x4_1], .box [.v (.int .i64 x6_0), .v (.slice none 0 0)], .row 2 (.int .i64) x9, .box [.mp 4], .mp (.int .i64) x11_0] = impl_Minor.p20 (k + 1) x0 x2 x4_0 x4_1 x6_0 x9 x11_0 x12 x38 x39 := by kernel_rfl
theorem impl_Minor.G20_0 {avs : List AV} {H : List HE} : impl_Minor.G20 0 avs H = none := by unfold impl_Minor.G20; split <;> rfl
theorem impl_Minor.G20_s (k : Nat) {avs : List AV} {H : List HE} {x : Int × List Int × List Int × Bool} (h : impl_Minor.G20 (k + 1) avs H = some x) : fromPt Tryd.prog impl_Minor.E k impl_Minor.a (impl_Minor.G k) 1000 (bodyOf Tryd.prog 51) 20 avs H = some x := by
  unfold impl_Minor.G20 at h
  split at h
  · rw [← h]; exact impl_Minor.eq20 _ _ _ _ _ _ _ _ _ _ _
  · cases h
set_option maxRecDepth 100000 in
theorem impl_Minor.eq43 (k : Nat) (x0 : List ByteArray) (x2 : List Int) (x4_0 : Int) (x4_1 : List Int) (x6_0 : Int) (x15_0_0 : (Int → Option Int)) (x16_0 : Int) (x16_1 : List Int) (x66 : List Int) (x67 : Int) (x68 : Int) : fromPt Tryd.prog impl_Minor.E k impl_Minor.a (impl_Minor.G k) 1000 (bodyOf Tryd.prog 51) 43 [.con .str x0, .con (.int .i64) x2, .box 0 0, .box 1 0, .fn 87 0 [.box 2 0], .box 4 0, .own 6, .v (.int .i64 x67), .v (.int .i64 x68)] [.box [.v (.int .i64 x4_0), .con (.int .i64) x4_1], .box [.v (.int .i64 x6_0), .v (.slice none 0 0)], .box [.mp 3], .mp (.int .i64) x15_0_0, .box [.v (.int .i64 x16_0), .own 5], .row 2 (.int .i64) x16_1, .row 2 (.int .i64) x66] = impl_Minor.p43 (k + 1) x0 x2 x4_0 x4_1 x6_0 x15_0_0 x16_0 x16_1 x66 x67 x68 := by kernel_rfl
theorem impl_Minor.G43_0 {avs : List AV} {H : List HE} : impl_Minor.G43 0 avs H = none := by unfold impl_Minor.G43; split <;> rfl
theorem impl_Minor.G43_s (k : Nat) {avs : List AV} {H : List HE} {x : Int × List Int × List Int × Bool} (h : impl_Minor.G43 (k + 1) avs H = some x) : fromPt Tryd.prog impl_Minor.E k impl_Minor.a (impl_Minor.G k) 1000 (bodyOf Tryd.prog 51) 43 avs H = some x := by
  unfold impl_Minor.G43 at h
  split at h
  · rw [← h]; exact impl_Minor.eq43 _ _ _ _ _ _ _ _ _ _ _ _
  · cases h
set_option maxRecDepth 100000 in
theorem impl_Minor.eq63 (k : Nat) (x0 : List ByteArray) (x2 : List Int) (x4_0 : Int) (x4_1 : List Int) (x6_0 : Int) (x15_0_0 : (Int → Option Int)) (x16_0 : Int) (x16_1 : List Int) (x19_0 : Int) (x19_1 : List Int) (x66 : List Int) (x67 : Int) (x68 : Int) (x98 : Int) (x99 : Int) : fromPt Tryd.prog impl_Minor.E k impl_Minor.a (impl_Minor.G k) 1000 (bodyOf Tryd.prog 51) 63 [.con .str x0, .con (.int .i64) x2, .box 0 0, .box 1 0, .fn 87 0 [.box 2 0], .box 4 0, .box 6 0, .own 8, .v (.int .i64 x67), .v (.int .i64 x68), .own 7, .v (.int .i64 x98), .v (.int .i64 x99)] [.box [.v (.int .i64 x4_0), .con (.int .i64) x4_1], .box [.v (.int .i64 x6_0), .v (.slice none 0 0)], .box [.mp 3], .mp (.int .i64) x15_0_0, .box [.v (.int .i64 x16_0), .own 5], .row 2 (.int .i64) x16_1, .box [.v (.int .i64 x19_0), .own 7], .row 2 (.int .i64) x19_1, .row 2 (.int .i64) x66] = impl_Minor.p63 (k + 1) x0 x2 x4_0 x4_1 x6_0 x15_0_0 x16_0 x16_1 x19_0 x19_1 x66 x67 x68 x98 x99 := by kernel_rfl
theorem impl_Minor.G63_0 {avs : List AV} {H : List HE} : impl_Minor.G63 0 avs H = none := by unfold impl_Minor.G63; split <;> rfl
theorem impl_Minor.G63_s (k : Nat) {avs : List AV} {H : List HE} {x : Int × List Int × List Int × Bool} (h : impl_Minor.G63 (k + 1) avs H = some x) : fromPt Tryd.prog impl_Minor.E k impl_Minor.a (impl_Minor.G k) 1000 (bodyOf Tryd.prog 51) 63 avs H = some x := by
  unfold impl_Minor.G63 at h
  split at h
  · rw [← h]; exact impl_Minor.eq63 _ _ _ _ _ _ _ _ _ _ _ _ _ _ _ _
  · cases h
set_option maxRecDepth 100000 in
theorem impl_Minor.eq89 (k : Nat) (x6_0 : Int) (x15_0_0 : (Int → Option Int)) (x16_0 : Int) (x16_1 : List Int) (x23 : List Int) (x124 : List Int) (x125 : Int) (x126 : Int) : fromPt Tryd.prog impl_Minor.E k impl_Minor.a (impl_Minor.G k) 1000 (bodyOf Tryd.prog 51) 89 [.box 0 0, .fn 87 0 [.box 1 0], .box 3 0, .own 5, .con (.int .i64) x124, .v (.int .i64 x125), .v (.int .i64 x126)] [.box [.v (.int .i64 x6_0), .v (.slice none 0 0)], .box [.mp 2], .mp (.int .i64) x15_0_0, .box [.v (.int .i64 x16_0), .own 4], .row 2 (.int .i64) x16_1, .row 2 (.int .i64) x23] = impl_Minor.p89 (k + 1) x6_0 x15_0_0 x16_0 x16_1 x23 x124 x125 x126 := by kernel_rfl
theorem impl_Minor.G89_0 {avs : List AV} {H : List HE} : impl_Minor.G89 0 avs H = none := by unfold impl_Minor.G89; split <;> rfl
theorem impl_Minor.G89_s (k : Nat) {avs : List AV} {H : List HE} {x : Int × List Int × List Int × Bool} (h : impl_Minor.G89 (k + 1) avs H = some x) : fromPt Tryd.prog impl_Minor.E k impl_Minor.a (impl_Minor.G k) 1000 (bodyOf Tryd.prog 51) 89 avs H = some x := by
  unfold impl_Minor.G89 at h
  split at h
  · rw [← h]; exact impl_Minor.eq89 _ _ _ _ _ _ _ _ _
  · cases h
theorem impl_Minor.E_ok : EnvOk Tryd.prog impl_Minor.E := ⟨⟨impl_YoungClosure.sound, callable_of (by kernel_rfl)⟩, ⟨impl_YoungRef.sound, callable_of (by kernel_rfl)⟩, ⟨impl_youngObject.sound, callable_of (by kernel_rfl)⟩, ⟨impl_Minor_1.sound, callable_of (by kernel_rfl)⟩, trivial⟩
theorem impl_Minor.sound : Sound Tryd.prog 51 impl_Minor.s := by
  refine func_sound (f := impl_Minor.a) (G := impl_Minor.G) (fn := Tryd.f51) (body := bodyOf Tryd.prog 51) 1000 (by kernel_rfl) impl_Minor.E_ok Tryd.func51 (by kernel_rfl) (by kernel_rfl) (by kernel_rfl) (ptsOk_of (by kernel_rfl)) ?_ ?_ ?_ ?_
  · intro r H x h
    unfold impl_Minor.a at h
    simp only at h
    split at h
    · cases h; rfl
    · cases h
  · exact fun q avs H => pick1_none impl_Minor.G20_0 (pick1_none impl_Minor.G43_0 (pick1_none impl_Minor.G63_0 (pick1_none impl_Minor.G89_0 (rfl))))
  · intro k q pt avs H x _ h
    rcases pick1_some h with ⟨rfl, h⟩ | h
    · exact impl_Minor.G20_s _ h
    rcases pick1_some h with ⟨rfl, h⟩ | h
    · exact impl_Minor.G43_s _ h
    rcases pick1_some h with ⟨rfl, h⟩ | h
    · exact impl_Minor.G63_s _ h
    rcases pick1_some h with ⟨rfl, h⟩ | h
    · exact impl_Minor.G89_s _ h
    cases h
  · intro k avs H o h
    try dsimp only at h
    split at h
    · cases h; exact impl_Minor.eq _ _ _ _ _
    · cases h

def spec_l8Roots.a : FnA (Bool) := ⟨38, [.tmp 6], .bool, [], [⟨16, [2, 7, 9], [.con (.int .i64), .row 2 (.int .i64), .val], []⟩], fun x H => match x, H with
  | .bs false r, [] => some r
  | _, _ => none⟩
def spec_l8Roots.s : Spec := mkS [.con .str, .agg [.val, .con (.int .i64)], .con (.int .i64)] (fun k avs H => match avs, H with
  | [.con .str a0, .agg [.v (.int .i64 a1_0), .con (.int .i64) a1_1], .con (.int .i64) a2], [] => some (spec_l8Roots.f k a0 a1_0 a1_1 a2)
  | _, _ => none) (fun r => (.bs false r, []))
def spec_l8Roots.E : Env := [((18, []), spec_NurseryOk.s), ((58, []), spec_l8Parse.s), ((59, []), spec_l8Ref.s)]
def spec_l8Roots.G16 (k : Nat) (avs : List AV) (H : List HE) : Option (Bool) := match avs, H with
  | [.con (.int .i64) x2, .own 0, .v (.int .i64 x9)], [.row 2 (.int .i64) x7] => spec_l8Roots.p16 k x2 x7 x9
  | _, _ => none
def spec_l8Roots.G (k p : Nat) (avs : List AV) (H : List HE) : Option (Bool) := (pick1 16 (spec_l8Roots.G16 k avs H) none p)
set_option maxRecDepth 100000 in
theorem spec_l8Roots.eq (k : Nat) (a0 : List ByteArray) (a1_0 : Int) (a1_1 : List Int) (a2 : List Int) : fromTop Tryd.prog spec_l8Roots.E k spec_l8Roots.a (spec_l8Roots.G k) 1000 (bodyOf Tryd.prog 75) [.con .str a0, .agg [.v (.int .i64 a1_0), .con (.int .i64) a1_1], .con (.int .i64) a2] [] = spec_l8Roots.f k a0 a1_0 a1_1 a2 := by kernel_rfl
set_option maxRecDepth 100000 in
theorem spec_l8Roots.eq16 (k : Nat) (x2 : List Int) (x7 : List Int) (x9 : Int) : fromPt Tryd.prog spec_l8Roots.E k spec_l8Roots.a (spec_l8Roots.G k) 1000 (bodyOf Tryd.prog 75) 16 [.con (.int .i64) x2, .own 0, .v (.int .i64 x9)] [.row 2 (.int .i64) x7] = spec_l8Roots.p16 (k + 1) x2 x7 x9 := by kernel_rfl
theorem spec_l8Roots.G16_0 {avs : List AV} {H : List HE} : spec_l8Roots.G16 0 avs H = none := by unfold spec_l8Roots.G16; split <;> rfl
theorem spec_l8Roots.G16_s (k : Nat) {avs : List AV} {H : List HE} {x : Bool} (h : spec_l8Roots.G16 (k + 1) avs H = some x) : fromPt Tryd.prog spec_l8Roots.E k spec_l8Roots.a (spec_l8Roots.G k) 1000 (bodyOf Tryd.prog 75) 16 avs H = some x := by
  unfold spec_l8Roots.G16 at h
  split at h
  · rw [← h]; exact spec_l8Roots.eq16 _ _ _ _
  · cases h
theorem spec_l8Roots.E_ok : EnvOk Tryd.prog spec_l8Roots.E := ⟨⟨spec_NurseryOk.sound, callable_of (by kernel_rfl)⟩, ⟨spec_l8Parse.sound, callable_of (by kernel_rfl)⟩, ⟨spec_l8Ref.sound, callable_of (by kernel_rfl)⟩, trivial⟩
theorem spec_l8Roots.sound : Sound Tryd.prog 75 spec_l8Roots.s := by
  refine func_sound (f := spec_l8Roots.a) (G := spec_l8Roots.G) (fn := Tryd.f75) (body := bodyOf Tryd.prog 75) 1000 (by kernel_rfl) spec_l8Roots.E_ok Tryd.func75 (by kernel_rfl) (by kernel_rfl) (by kernel_rfl) (ptsOk_of (by kernel_rfl)) ?_ ?_ ?_ ?_
  · intro r H x h
    unfold spec_l8Roots.a at h
    simp only at h
    split at h
    · cases h; rfl
    · cases h
  · exact fun q avs H => pick1_none spec_l8Roots.G16_0 (rfl)
  · intro k q pt avs H x _ h
    rcases pick1_some h with ⟨rfl, h⟩ | h
    · exact spec_l8Roots.G16_s _ h
    cases h
  · intro k avs H o h
    try dsimp only at h
    split at h
    · cases h; exact spec_l8Roots.eq _ _ _ _ _
    · cases h

def spec_l8Closure.a : FnA (List Int) := ⟨98, [.tmp 6], .row 2 (.int .i64), [], [⟨8, [0, 2, 4, 7, 8], [.con .str, .con (.int .i64), .box [.val, .con (.int .i64)], .row 2 (.int .i64), .val], []⟩, ⟨19, [0, 2, 4, 7, 8, 33], [.con .str, .con (.int .i64), .box [.val, .con (.int .i64)], .row 2 (.int .i64), .val, .bool], []⟩, ⟨27, [0, 4, 7, 9], [.con .str, .box [.val, .con (.int .i64)], .row 2 (.int .i64), .val], []⟩, ⟨41, [0, 4, 7, 9, 10, 11], [.con .str, .box [.val, .con (.int .i64)], .row 2 (.int .i64), .val, .box [.val, .row 2 (.int .i64)], .val], []⟩, ⟨52, [0, 4, 7, 9, 10, 11, 88], [.con .str, .box [.val, .con (.int .i64)], .row 2 (.int .i64), .val, .box [.val, .row 2 (.int .i64)], .val, .bool], []⟩], fun x H => match x, H with
  | .own 0, [.row 2 (.int .i64) r] => some r
  | _, _ => none⟩
def spec_l8Closure.s : Spec := mkS [.con .str, .agg [.val, .con (.int .i64)], .con (.int .i64)] (fun k avs H => match avs, H with
  | [.con .str a0, .agg [.v (.int .i64 a1_0), .con (.int .i64) a1_1], .con (.int .i64) a2], [] => some (spec_l8Closure.f k a0 a1_0 a1_1 a2)
  | _, _ => none) (fun r => (.own 0, [.row 2 (.int .i64) r]))
def spec_l8Closure.E : Env := [((62, []), spec_RefKind.s), ((63, []), spec_l7Place.s), ((64, []), spec_l8Obj.s)]
def spec_l8Closure.G8 (k : Nat) (avs : List AV) (H : List HE) : Option (List Int) := match avs, H with
  | [.con .str x0, .con (.int .i64) x2, .box 0 0, .own 1, .v (.int .i64 x8)], [.box [.v (.int .i64 x4_0), .con (.int .i64) x4_1], .row 2 (.int .i64) x7] => spec_l8Closure.p8 k x0 x2 x4_0 x4_1 x7 x8
  | _, _ => none
def spec_l8Closure.G19 (k : Nat) (avs : List AV) (H : List HE) : Option (List Int) := match avs, H with
  | [.con .str x0, .con (.int .i64) x2, .box 0 0, .own 1, .v (.int .i64 x8), .bs false x33], [.box [.v (.int .i64 x4_0), .con (.int .i64) x4_1], .row 2 (.int .i64) x7] => spec_l8Closure.p19 k x0 x2 x4_0 x4_1 x7 x8 x33
  | _, _ => none
def spec_l8Closure.G27 (k : Nat) (avs : List AV) (H : List HE) : Option (List Int) := match avs, H with
  | [.con .str x0, .box 0 0, .own 1, .v (.int .i64 x9)], [.box [.v (.int .i64 x4_0), .con (.int .i64) x4_1], .row 2 (.int .i64) x7] => spec_l8Closure.p27 k x0 x4_0 x4_1 x7 x9
  | _, _ => none
def spec_l8Closure.G41 (k : Nat) (avs : List AV) (H : List HE) : Option (List Int) := match avs, H with
  | [.con .str x0, .box 0 0, .own 1, .v (.int .i64 x9), .box 2 0, .v (.int .i64 x11)], [.box [.v (.int .i64 x4_0), .con (.int .i64) x4_1], .row 2 (.int .i64) x7, .box [.v (.int .i64 x10_0), .own 3], .row 2 (.int .i64) x10_1] => spec_l8Closure.p41 k x0 x4_0 x4_1 x7 x9 x10_0 x10_1 x11
  | _, _ => none
def spec_l8Closure.G52 (k : Nat) (avs : List AV) (H : List HE) : Option (List Int) := match avs, H with
  | [.con .str x0, .box 0 0, .own 1, .v (.int .i64 x9), .box 2 0, .v (.int .i64 x11), .bs false x88], [.box [.v (.int .i64 x4_0), .con (.int .i64) x4_1], .row 2 (.int .i64) x7, .box [.v (.int .i64 x10_0), .own 3], .row 2 (.int .i64) x10_1] => spec_l8Closure.p52 k x0 x4_0 x4_1 x7 x9 x10_0 x10_1 x11 x88
  | _, _ => none
def spec_l8Closure.G (k p : Nat) (avs : List AV) (H : List HE) : Option (List Int) := (pick1 8 (spec_l8Closure.G8 k avs H) (pick1 19 (spec_l8Closure.G19 k avs H) (pick1 27 (spec_l8Closure.G27 k avs H) (pick1 41 (spec_l8Closure.G41 k avs H) (pick1 52 (spec_l8Closure.G52 k avs H) none p) p) p) p) p)
set_option maxRecDepth 100000 in
theorem spec_l8Closure.eq (k : Nat) (a0 : List ByteArray) (a1_0 : Int) (a1_1 : List Int) (a2 : List Int) : fromTop Tryd.prog spec_l8Closure.E k spec_l8Closure.a (spec_l8Closure.G k) 1000 (bodyOf Tryd.prog 76) [.con .str a0, .agg [.v (.int .i64 a1_0), .con (.int .i64) a1_1], .con (.int .i64) a2] [] = spec_l8Closure.f k a0 a1_0 a1_1 a2 := by kernel_rfl
set_option maxRecDepth 100000 in
theorem spec_l8Closure.eq8 (k : Nat) (x0 : List ByteArray) (x2 : List Int) (x4_0 : Int) (x4_1 : List Int) (x7 : List Int) (x8 : Int) : fromPt Tryd.prog spec_l8Closure.E k spec_l8Closure.a (spec_l8Closure.G k) 1000 (bodyOf Tryd.prog 76) 8 [.con .str x0, .con (.int .i64) x2, .box 0 0, .own 1, .v (.int .i64 x8)] [.box [.v (.int .i64 x4_0), .con (.int .i64) x4_1], .row 2 (.int .i64) x7] = spec_l8Closure.p8 (k + 1) x0 x2 x4_0 x4_1 x7 x8 := by kernel_rfl
theorem spec_l8Closure.G8_0 {avs : List AV} {H : List HE} : spec_l8Closure.G8 0 avs H = none := by unfold spec_l8Closure.G8; split <;> rfl
theorem spec_l8Closure.G8_s (k : Nat) {avs : List AV} {H : List HE} {x : List Int} (h : spec_l8Closure.G8 (k + 1) avs H = some x) : fromPt Tryd.prog spec_l8Closure.E k spec_l8Closure.a (spec_l8Closure.G k) 1000 (bodyOf Tryd.prog 76) 8 avs H = some x := by
  unfold spec_l8Closure.G8 at h
  split at h
  · rw [← h]; exact spec_l8Closure.eq8 _ _ _ _ _ _ _
  · cases h
set_option maxRecDepth 100000 in
theorem spec_l8Closure.eq19 (k : Nat) (x0 : List ByteArray) (x2 : List Int) (x4_0 : Int) (x4_1 : List Int) (x7 : List Int) (x8 : Int) (x33 : Bool) : fromPt Tryd.prog spec_l8Closure.E k spec_l8Closure.a (spec_l8Closure.G k) 1000 (bodyOf Tryd.prog 76) 19 [.con .str x0, .con (.int .i64) x2, .box 0 0, .own 1, .v (.int .i64 x8), .bs false x33] [.box [.v (.int .i64 x4_0), .con (.int .i64) x4_1], .row 2 (.int .i64) x7] = spec_l8Closure.p19 (k + 1) x0 x2 x4_0 x4_1 x7 x8 x33 := by kernel_rfl
theorem spec_l8Closure.G19_0 {avs : List AV} {H : List HE} : spec_l8Closure.G19 0 avs H = none := by unfold spec_l8Closure.G19; split <;> rfl
theorem spec_l8Closure.G19_s (k : Nat) {avs : List AV} {H : List HE} {x : List Int} (h : spec_l8Closure.G19 (k + 1) avs H = some x) : fromPt Tryd.prog spec_l8Closure.E k spec_l8Closure.a (spec_l8Closure.G k) 1000 (bodyOf Tryd.prog 76) 19 avs H = some x := by
  unfold spec_l8Closure.G19 at h
  split at h
  · rw [← h]; exact spec_l8Closure.eq19 _ _ _ _ _ _ _ _
  · cases h
set_option maxRecDepth 100000 in
theorem spec_l8Closure.eq27 (k : Nat) (x0 : List ByteArray) (x4_0 : Int) (x4_1 : List Int) (x7 : List Int) (x9 : Int) : fromPt Tryd.prog spec_l8Closure.E k spec_l8Closure.a (spec_l8Closure.G k) 1000 (bodyOf Tryd.prog 76) 27 [.con .str x0, .box 0 0, .own 1, .v (.int .i64 x9)] [.box [.v (.int .i64 x4_0), .con (.int .i64) x4_1], .row 2 (.int .i64) x7] = spec_l8Closure.p27 (k + 1) x0 x4_0 x4_1 x7 x9 := by kernel_rfl
theorem spec_l8Closure.G27_0 {avs : List AV} {H : List HE} : spec_l8Closure.G27 0 avs H = none := by unfold spec_l8Closure.G27; split <;> rfl
theorem spec_l8Closure.G27_s (k : Nat) {avs : List AV} {H : List HE} {x : List Int} (h : spec_l8Closure.G27 (k + 1) avs H = some x) : fromPt Tryd.prog spec_l8Closure.E k spec_l8Closure.a (spec_l8Closure.G k) 1000 (bodyOf Tryd.prog 76) 27 avs H = some x := by
  unfold spec_l8Closure.G27 at h
  split at h
  · rw [← h]; exact spec_l8Closure.eq27 _ _ _ _ _ _
  · cases h
set_option maxRecDepth 100000 in
theorem spec_l8Closure.eq41 (k : Nat) (x0 : List ByteArray) (x4_0 : Int) (x4_1 : List Int) (x7 : List Int) (x9 : Int) (x10_0 : Int) (x10_1 : List Int) (x11 : Int) : fromPt Tryd.prog spec_l8Closure.E k spec_l8Closure.a (spec_l8Closure.G k) 1000 (bodyOf Tryd.prog 76) 41 [.con .str x0, .box 0 0, .own 1, .v (.int .i64 x9), .box 2 0, .v (.int .i64 x11)] [.box [.v (.int .i64 x4_0), .con (.int .i64) x4_1], .row 2 (.int .i64) x7, .box [.v (.int .i64 x10_0), .own 3], .row 2 (.int .i64) x10_1] = spec_l8Closure.p41 (k + 1) x0 x4_0 x4_1 x7 x9 x10_0 x10_1 x11 := by kernel_rfl
theorem spec_l8Closure.G41_0 {avs : List AV} {H : List HE} : spec_l8Closure.G41 0 avs H = none := by unfold spec_l8Closure.G41; split <;> rfl
theorem spec_l8Closure.G41_s (k : Nat) {avs : List AV} {H : List HE} {x : List Int} (h : spec_l8Closure.G41 (k + 1) avs H = some x) : fromPt Tryd.prog spec_l8Closure.E k spec_l8Closure.a (spec_l8Closure.G k) 1000 (bodyOf Tryd.prog 76) 41 avs H = some x := by
  unfold spec_l8Closure.G41 at h
  split at h
  · rw [← h]; exact spec_l8Closure.eq41 _ _ _ _ _ _ _ _ _
  · cases h
set_option maxRecDepth 100000 in
theorem spec_l8Closure.eq52 (k : Nat) (x0 : List ByteArray) (x4_0 : Int) (x4_1 : List Int) (x7 : List Int) (x9 : Int) (x10_0 : Int) (x10_1 : List Int) (x11 : Int) (x88 : Bool) : fromPt Tryd.prog spec_l8Closure.E k spec_l8Closure.a (spec_l8Closure.G k) 1000 (bodyOf Tryd.prog 76) 52 [.con .str x0, .box 0 0, .own 1, .v (.int .i64 x9), .box 2 0, .v (.int .i64 x11), .bs false x88] [.box [.v (.int .i64 x4_0), .con (.int .i64) x4_1], .row 2 (.int .i64) x7, .box [.v (.int .i64 x10_0), .own 3], .row 2 (.int .i64) x10_1] = spec_l8Closure.p52 (k + 1) x0 x4_0 x4_1 x7 x9 x10_0 x10_1 x11 x88 := by kernel_rfl
theorem spec_l8Closure.G52_0 {avs : List AV} {H : List HE} : spec_l8Closure.G52 0 avs H = none := by unfold spec_l8Closure.G52; split <;> rfl
theorem spec_l8Closure.G52_s (k : Nat) {avs : List AV} {H : List HE} {x : List Int} (h : spec_l8Closure.G52 (k + 1) avs H = some x) : fromPt Tryd.prog spec_l8Closure.E k spec_l8Closure.a (spec_l8Closure.G k) 1000 (bodyOf Tryd.prog 76) 52 avs H = some x := by
  unfold spec_l8Closure.G52 at h
  split at h
  · rw [← h]; exact spec_l8Closure.eq52 _ _ _ _ _ _ _ _ _ _
  · cases h
theorem spec_l8Closure.E_ok : EnvOk Tryd.prog spec_l8Closure.E := ⟨⟨spec_RefKind.sound, callable_of (by kernel_rfl)⟩, ⟨spec_l7Place.sound, callable_of (by kernel_rfl)⟩, ⟨spec_l8Obj.sound, callable_of (by kernel_rfl)⟩, trivial⟩
theorem spec_l8Closure.sound : Sound Tryd.prog 76 spec_l8Closure.s := by
  refine func_sound (f := spec_l8Closure.a) (G := spec_l8Closure.G) (fn := Tryd.f76) (body := bodyOf Tryd.prog 76) 1000 (by kernel_rfl) spec_l8Closure.E_ok Tryd.func76 (by kernel_rfl) (by kernel_rfl) (by kernel_rfl) (ptsOk_of (by kernel_rfl)) ?_ ?_ ?_ ?_
  · intro r H x h
    unfold spec_l8Closure.a at h
    simp only at h
    split at h
    · cases h; rfl
    · cases h
  · exact fun q avs H => pick1_none spec_l8Closure.G8_0 (pick1_none spec_l8Closure.G19_0 (pick1_none spec_l8Closure.G27_0 (pick1_none spec_l8Closure.G41_0 (pick1_none spec_l8Closure.G52_0 (rfl)))))
  · intro k q pt avs H x _ h
    rcases pick1_some h with ⟨rfl, h⟩ | h
    · exact spec_l8Closure.G8_s _ h
    rcases pick1_some h with ⟨rfl, h⟩ | h
    · exact spec_l8Closure.G19_s _ h
    rcases pick1_some h with ⟨rfl, h⟩ | h
    · exact spec_l8Closure.G27_s _ h
    rcases pick1_some h with ⟨rfl, h⟩ | h
    · exact spec_l8Closure.G41_s _ h
    rcases pick1_some h with ⟨rfl, h⟩ | h
    · exact spec_l8Closure.G52_s _ h
    cases h
  · intro k avs H o h
    try dsimp only at h
    split at h
    · cases h; exact spec_l8Closure.eq _ _ _ _ _
    · cases h

def spec_l4To.a : FnA (Int) := ⟨25, [.tmp 6], .val, [], [⟨6, [0, 1, 2, 7], [.val, .con (.int .i64), .con (.int .i64), .val], []⟩], fun x H => match x, H with
  | .v (.int .i64 r), [] => some r
  | _, _ => none⟩
def spec_l4To.s : Spec := mkS [.val, .con (.int .i64), .con (.int .i64)] (fun k avs H => match avs, H with
  | [.v (.int .i64 a0), .con (.int .i64) a1, .con (.int .i64) a2], [] => some (spec_l4To.f k a0 a1 a2)
  | _, _ => none) (fun r => (.v (.int .i64 r), []))
def spec_l4To.E : Env := []
def spec_l4To.G6 (k : Nat) (avs : List AV) (H : List HE) : Option (Int) := match avs, H with
  | [.v (.int .i64 x0), .con (.int .i64) x1, .con (.int .i64) x2, .v (.int .i64 x7)], [] => spec_l4To.p6 k x0 x1 x2 x7
  | _, _ => none
def spec_l4To.G (k p : Nat) (avs : List AV) (H : List HE) : Option (Int) := (pick1 6 (spec_l4To.G6 k avs H) none p)
set_option maxRecDepth 100000 in
theorem spec_l4To.eq (k : Nat) (a0 : Int) (a1 : List Int) (a2 : List Int) : fromTop Tryd.prog spec_l4To.E k spec_l4To.a (spec_l4To.G k) 1000 (bodyOf Tryd.prog 106) [.v (.int .i64 a0), .con (.int .i64) a1, .con (.int .i64) a2] [] = spec_l4To.f k a0 a1 a2 := by kernel_rfl
set_option maxRecDepth 100000 in
theorem spec_l4To.eq6 (k : Nat) (x0 : Int) (x1 : List Int) (x2 : List Int) (x7 : Int) : fromPt Tryd.prog spec_l4To.E k spec_l4To.a (spec_l4To.G k) 1000 (bodyOf Tryd.prog 106) 6 [.v (.int .i64 x0), .con (.int .i64) x1, .con (.int .i64) x2, .v (.int .i64 x7)] [] = spec_l4To.p6 (k + 1) x0 x1 x2 x7 := by kernel_rfl
theorem spec_l4To.G6_0 {avs : List AV} {H : List HE} : spec_l4To.G6 0 avs H = none := by unfold spec_l4To.G6; split <;> rfl
theorem spec_l4To.G6_s (k : Nat) {avs : List AV} {H : List HE} {x : Int} (h : spec_l4To.G6 (k + 1) avs H = some x) : fromPt Tryd.prog spec_l4To.E k spec_l4To.a (spec_l4To.G k) 1000 (bodyOf Tryd.prog 106) 6 avs H = some x := by
  unfold spec_l4To.G6 at h
  split at h
  · rw [← h]; exact spec_l4To.eq6 _ _ _ _ _
  · cases h
theorem spec_l4To.E_ok : EnvOk Tryd.prog spec_l4To.E := trivial
theorem spec_l4To.sound : Sound Tryd.prog 106 spec_l4To.s := by
  refine func_sound (f := spec_l4To.a) (G := spec_l4To.G) (fn := Tryd.f106) (body := bodyOf Tryd.prog 106) 1000 (by kernel_rfl) spec_l4To.E_ok Tryd.func106 (by kernel_rfl) (by kernel_rfl) (by kernel_rfl) (ptsOk_of (by kernel_rfl)) ?_ ?_ ?_ ?_
  · intro r H x h
    unfold spec_l4To.a at h
    simp only at h
    split at h
    · cases h; rfl
    · cases h
  · exact fun q avs H => pick1_none spec_l4To.G6_0 (rfl)
  · intro k q pt avs H x _ h
    rcases pick1_some h with ⟨rfl, h⟩ | h
    · exact spec_l4To.G6_s _ h
    cases h
  · intro k avs H o h
    try dsimp only at h
    split at h
    · cases h; exact spec_l4To.eq _ _ _ _
    · cases h

def spec_l4Forward.a : FnA (Int × List Int) := ⟨46, [.cell 8 40], .agg [.val, .row 2 (.int .i64)], [], [⟨8, [0, 2, 3, 5, 8, 9, 10], [.con .str, .con (.int .i64), .con (.int .i64), .box [.val, .con (.int .i64)], .box [.val, .val], .box [.val, .row 2 (.int .i64)], .val], []⟩], fun x H => match x, H with
  | .agg [.v (.int .i64 r_0), .own 0], [.row 2 (.int .i64) r_1] => some (r_0, r_1)
  | _, _ => none⟩
def spec_l4Forward.s : Spec := mkS [.con .str, .agg [.val, .con (.int .i64)], .con (.int .i64), .con (.int .i64)] (fun k avs H => match avs, H with
  | [.con .str a0, .agg [.v (.int .i64 a1_0), .con (.int .i64) a1_1], .con (.int .i64) a2, .con (.int .i64) a3], [] => some (spec_l4Forward.f k a0 a1_0 a1_1 a2 a3)
  | _, _ => none) (fun r => (.agg [.v (.int .i64 r.1), .own 0], [.row 2 (.int .i64) r.2]))
def spec_l4Forward.E : Env := [((106, []), spec_l4To.s)]
def spec_l4Forward.G8 (k : Nat) (avs : List AV) (H : List HE) : Option (Int × List Int) := match avs, H with
  | [.con .str x0, .con (.int .i64) x2, .con (.int .i64) x3, .box 0 0, .box 1 0, .box 2 0, .v (.int .i64 x10)], [.box [.v (.int .i64 x5_0), .con (.int .i64) x5_1], .box [.v (.int .i64 x8_0), .v (.slice none 0 0)], .box [.v (.int .i64 x9_0), .own 3], .row 2 (.int .i64) x9_1] => spec_l4Forward.p8 k x0 x2 x3 x5_0 x5_1 x8_0 x9_0 x9_1 x10
  | _, _ => none
def spec_l4Forward.G (k p : Nat) (avs : List AV) (H : List HE) : Option (Int × List Int) := (pick1 8 (spec_l4Forward.G8 k avs H) none p)
set_option maxRecDepth 100000 in
theorem spec_l4Forward.eq (k : Nat) (a0 : List ByteArray) (a1_0 : Int) (a1_1 : List Int) (a2 : List Int) (a3 : List Int) : fromTop Tryd.prog spec_l4Forward.E k spec_l4Forward.a (spec_l4Forward.G k) 1000 (bodyOf Tryd.prog 105) [.con .str a0, .agg [.v (.int .i64 a1_0), .con (.int .i64) a1_1], .con (.int .i64) a2, .con (.int .i64) a3] [] = spec_l4Forward.f k a0 a1_0 a1_1 a2 a3 := by kernel_rfl
set_option maxRecDepth 100000 in
theorem spec_l4Forward.eq8 (k : Nat) (x0 : List ByteArray) (x2 : List Int) (x3 : List Int) (x5_0 : Int) (x5_1 : List Int) (x8_0 : Int) (x9_0 : Int) (x9_1 : List Int) (x10 : Int) : fromPt Tryd.prog spec_l4Forward.E k spec_l4Forward.a (spec_l4Forward.G k) 1000 (bodyOf Tryd.prog 105) 8 [.con .str x0, .con (.int .i64) x2, .con (.int .i64) x3, .box 0 0, .box 1 0, .box 2 0, .v (.int .i64 x10)] [.box [.v (.int .i64 x5_0), .con (.int .i64) x5_1], .box [.v (.int .i64 x8_0), .v (.slice none 0 0)], .box [.v (.int .i64 x9_0), .own 3], .row 2 (.int .i64) x9_1] = spec_l4Forward.p8 (k + 1) x0 x2 x3 x5_0 x5_1 x8_0 x9_0 x9_1 x10 := by kernel_rfl
theorem spec_l4Forward.G8_0 {avs : List AV} {H : List HE} : spec_l4Forward.G8 0 avs H = none := by unfold spec_l4Forward.G8; split <;> rfl
theorem spec_l4Forward.G8_s (k : Nat) {avs : List AV} {H : List HE} {x : Int × List Int} (h : spec_l4Forward.G8 (k + 1) avs H = some x) : fromPt Tryd.prog spec_l4Forward.E k spec_l4Forward.a (spec_l4Forward.G k) 1000 (bodyOf Tryd.prog 105) 8 avs H = some x := by
  unfold spec_l4Forward.G8 at h
  split at h
  · rw [← h]; exact spec_l4Forward.eq8 _ _ _ _ _ _ _ _ _ _
  · cases h
theorem spec_l4Forward.E_ok : EnvOk Tryd.prog spec_l4Forward.E := ⟨⟨spec_l4To.sound, callable_of (by kernel_rfl)⟩, trivial⟩
theorem spec_l4Forward.sound : Sound Tryd.prog 105 spec_l4Forward.s := by
  refine func_sound (f := spec_l4Forward.a) (G := spec_l4Forward.G) (fn := Tryd.f105) (body := bodyOf Tryd.prog 105) 1000 (by kernel_rfl) spec_l4Forward.E_ok Tryd.func105 (by kernel_rfl) (by kernel_rfl) (by kernel_rfl) (ptsOk_of (by kernel_rfl)) ?_ ?_ ?_ ?_
  · intro r H x h
    unfold spec_l4Forward.a at h
    simp only at h
    split at h
    · cases h; rfl
    · cases h
  · exact fun q avs H => pick1_none spec_l4Forward.G8_0 (rfl)
  · intro k q pt avs H x _ h
    rcases pick1_some h with ⟨rfl, h⟩ | h
    · exact spec_l4Forward.G8_s _ h
    cases h
  · intro k avs H o h
    try dsimp only at h
    split at h
    · cases h; exact spec_l4Forward.eq _ _ _ _ _ _
    · cases h

def spec_l8Minor.a : FnA (Int × List Int × List Int) := ⟨113, [.cell 6 30, .tmp 7], .tup [.agg [.val, .row 2 (.int .i64)], .row 2 (.int .i64)], [], [⟨12, [0, 2, 4, 6, 8, 9, 10, 11], [.con .str, .con (.int .i64), .box [.val, .con (.int .i64)], .box [.val, .val], .row 2 (.int .i64), .row 2 (.int .i64), .val, .val], []⟩, ⟨31, [0, 2, 4, 6, 8, 9, 12, 13], [.con .str, .con (.int .i64), .box [.val, .con (.int .i64)], .box [.val, .val], .row 2 (.int .i64), .row 2 (.int .i64), .box [.val, .row 2 (.int .i64)], .val], []⟩, ⟨52, [2, 6, 8, 9, 12, 16, 17], [.con (.int .i64), .box [.val, .val], .row 2 (.int .i64), .row 2 (.int .i64), .box [.val, .row 2 (.int .i64)], .row 2 (.int .i64), .val], []⟩], fun x H => match x, H with
  | .tup [.agg [.v (.int .i64 r_0_0), .own 0], .own 1], [.row 2 (.int .i64) r_0_1, .row 2 (.int .i64) r_1] => some (r_0_0, r_0_1, r_1)
  | _, _ => none⟩
def spec_l8Minor.s : Spec := mkS [.con .str, .agg [.val, .con (.int .i64)], .con (.int .i64)] (fun k avs H => match avs, H with
  | [.con .str a0, .agg [.v (.int .i64 a1_0), .con (.int .i64) a1_1], .con (.int .i64) a2], [] => some (spec_l8Minor.f k a0 a1_0 a1_1 a2)
  | _, _ => none) (fun r => (.tup [.agg [.v (.int .i64 r.1), .own 0], .own 1], [.row 2 (.int .i64) r.2.1, .row 2 (.int .i64) r.2.2]))
def spec_l8Minor.E : Env := [((76, []), spec_l8Closure.s), ((64, []), spec_l8Obj.s), ((105, []), spec_l4Forward.s), ((106, []), spec_l4To.s)]
def spec_l8Minor.G12 (k : Nat) (avs : List AV) (H : List HE) : Option (Int × List Int × List Int) := match avs, H with
  | [.con .str x0, .con (.int .i64) x2, .box 0 0, .box 1 0, .own 2, .own 3, .v (.int .i64 x10), .v (.int .i64 x11)], [.box [.v (.int .i64 x4_0), .con (.int .i64) x4_1], .box [.v (.int .i64 x6_0), .v (.slice none 0 0)], .row 2 (.int .i64) x8, .row 2 (.int .i64) x9] => spec_l8Minor.p12 k x0 x2 x4_0 x4_1 x6_0 x8 x9 x10 x11
  | _, _ => none
def spec_l8Minor.G31 (k : Nat) (avs : List AV) (H : List HE) : Option (Int × List Int × List Int) := match avs, H with
  | [.con .str x0, .con (.int .i64) x2, .box 0 0, .box 1 0, .own 2, .own 3, .box 4 0, .v (.int .i64 x13)], [.box [.v (.int .i64 x4_0), .con (.int .i64) x4_1], .box [.v (.int .i64 x6_0), .v (.slice none 0 0)], .row 2 (.int .i64) x8, .row 2 (.int .i64) x9, .box [.v (.int .i64 x12_0), .own 5], .row 2 (.int .i64) x12_1] => spec_l8Minor.p31 k x0 x2 x4_0 x4_1 x6_0 x8 x9 x12_0 x12_1 x13
  | _, _ => none
def spec_l8Minor.G52 (k : Nat) (avs : List AV) (H : List HE) : Option (Int × List Int × List Int) := match avs, H with
  | [.con (.int .i64) x2, .box 0 0, .own 1, .own 2, .box 3 0, .own 5, .v (.int .i64 x17)], [.box [.v (.int .i64 x6_0), .v (.slice none 0 0)], .row 2 (.int .i64) x8, .row 2 (.int .i64) x9, .box [.v (.int .i64 x12_0), .own 4], .row 2 (.int .i64) x12_1, .row 2 (.int .i64) x16] => spec_l8Minor.p52 k x2 x6_0 x8 x9 x12_0 x12_1 x16 x17
  | _, _ => none
def spec_l8Minor.G (k p : Nat) (avs : List AV) (H : List HE) : Option (Int × List Int × List Int) := (pick1 12 (spec_l8Minor.G12 k avs H) (pick1 31 (spec_l8Minor.G31 k avs H) (pick1 52 (spec_l8Minor.G52 k avs H) none p) p) p)
set_option maxRecDepth 100000 in
theorem spec_l8Minor.eq (k : Nat) (a0 : List ByteArray) (a1_0 : Int) (a1_1 : List Int) (a2 : List Int) : fromTop Tryd.prog spec_l8Minor.E k spec_l8Minor.a (spec_l8Minor.G k) 1000 (bodyOf Tryd.prog 86) [.con .str a0, .agg [.v (.int .i64 a1_0), .con (.int .i64) a1_1], .con (.int .i64) a2] [] = spec_l8Minor.f k a0 a1_0 a1_1 a2 := by kernel_rfl
set_option maxRecDepth 100000 in
theorem spec_l8Minor.eq12 (k : Nat) (x0 : List ByteArray) (x2 : List Int) (x4_0 : Int) (x4_1 : List Int) (x6_0 : Int) (x8 : List Int) (x9 : List Int) (x10 : Int) (x11 : Int) : fromPt Tryd.prog spec_l8Minor.E k spec_l8Minor.a (spec_l8Minor.G k) 1000 (bodyOf Tryd.prog 86) 12 [.con .str x0, .con (.int .i64) x2, .box 0 0, .box 1 0, .own 2, .own 3, .v (.int .i64 x10), .v (.int .i64 x11)] [.box [.v (.int .i64 x4_0), .con (.int .i64) x4_1], .box [.v (.int .i64 x6_0), .v (.slice none 0 0)], .row 2 (.int .i64) x8, .row 2 (.int .i64) x9] = spec_l8Minor.p12 (k + 1) x0 x2 x4_0 x4_1 x6_0 x8 x9 x10 x11 := by kernel_rfl
theorem spec_l8Minor.G12_0 {avs : List AV} {H : List HE} : spec_l8Minor.G12 0 avs H = none := by unfold spec_l8Minor.G12; split <;> rfl
theorem spec_l8Minor.G12_s (k : Nat) {avs : List AV} {H : List HE} {x : Int × List Int × List Int} (h : spec_l8Minor.G12 (k + 1) avs H = some x) : fromPt Tryd.prog spec_l8Minor.E k spec_l8Minor.a (spec_l8Minor.G k) 1000 (bodyOf Tryd.prog 86) 12 avs H = some x := by
  unfold spec_l8Minor.G12 at h
  split at h
  · rw [← h]; exact spec_l8Minor.eq12 _ _ _ _ _ _ _ _ _ _
  · cases h
set_option maxRecDepth 100000 in
theorem spec_l8Minor.eq31 (k : Nat) (x0 : List ByteArray) (x2 : List Int) (x4_0 : Int) (x4_1 : List Int) (x6_0 : Int) (x8 : List Int) (x9 : List Int) (x12_0 : Int) (x12_1 : List Int) (x13 : Int) : fromPt Tryd.prog spec_l8Minor.E k spec_l8Minor.a (spec_l8Minor.G k) 1000 (bodyOf Tryd.prog 86) 31 [.con .str x0, .con (.int .i64) x2, .box 0 0, .box 1 0, .own 2, .own 3, .box 4 0, .v (.int .i64 x13)] [.box [.v (.int .i64 x4_0), .con (.int .i64) x4_1], .box [.v (.int .i64 x6_0), .v (.slice none 0 0)], .row 2 (.int .i64) x8, .row 2 (.int .i64) x9, .box [.v (.int .i64 x12_0), .own 5], .row 2 (.int .i64) x12_1] = spec_l8Minor.p31 (k + 1) x0 x2 x4_0 x4_1 x6_0 x8 x9 x12_0 x12_1 x13 := by kernel_rfl
theorem spec_l8Minor.G31_0 {avs : List AV} {H : List HE} : spec_l8Minor.G31 0 avs H = none := by unfold spec_l8Minor.G31; split <;> rfl
theorem spec_l8Minor.G31_s (k : Nat) {avs : List AV} {H : List HE} {x : Int × List Int × List Int} (h : spec_l8Minor.G31 (k + 1) avs H = some x) : fromPt Tryd.prog spec_l8Minor.E k spec_l8Minor.a (spec_l8Minor.G k) 1000 (bodyOf Tryd.prog 86) 31 avs H = some x := by
  unfold spec_l8Minor.G31 at h
  split at h
  · rw [← h]; exact spec_l8Minor.eq31 _ _ _ _ _ _ _ _ _ _ _
  · cases h
set_option maxRecDepth 100000 in
theorem spec_l8Minor.eq52 (k : Nat) (x2 : List Int) (x6_0 : Int) (x8 : List Int) (x9 : List Int) (x12_0 : Int) (x12_1 : List Int) (x16 : List Int) (x17 : Int) : fromPt Tryd.prog spec_l8Minor.E k spec_l8Minor.a (spec_l8Minor.G k) 1000 (bodyOf Tryd.prog 86) 52 [.con (.int .i64) x2, .box 0 0, .own 1, .own 2, .box 3 0, .own 5, .v (.int .i64 x17)] [.box [.v (.int .i64 x6_0), .v (.slice none 0 0)], .row 2 (.int .i64) x8, .row 2 (.int .i64) x9, .box [.v (.int .i64 x12_0), .own 4], .row 2 (.int .i64) x12_1, .row 2 (.int .i64) x16] = spec_l8Minor.p52 (k + 1) x2 x6_0 x8 x9 x12_0 x12_1 x16 x17 := by kernel_rfl
theorem spec_l8Minor.G52_0 {avs : List AV} {H : List HE} : spec_l8Minor.G52 0 avs H = none := by unfold spec_l8Minor.G52; split <;> rfl
theorem spec_l8Minor.G52_s (k : Nat) {avs : List AV} {H : List HE} {x : Int × List Int × List Int} (h : spec_l8Minor.G52 (k + 1) avs H = some x) : fromPt Tryd.prog spec_l8Minor.E k spec_l8Minor.a (spec_l8Minor.G k) 1000 (bodyOf Tryd.prog 86) 52 avs H = some x := by
  unfold spec_l8Minor.G52 at h
  split at h
  · rw [← h]; exact spec_l8Minor.eq52 _ _ _ _ _ _ _ _ _
  · cases h
theorem spec_l8Minor.E_ok : EnvOk Tryd.prog spec_l8Minor.E := ⟨⟨spec_l8Closure.sound, callable_of (by kernel_rfl)⟩, ⟨spec_l8Obj.sound, callable_of (by kernel_rfl)⟩, ⟨spec_l4Forward.sound, callable_of (by kernel_rfl)⟩, ⟨spec_l4To.sound, callable_of (by kernel_rfl)⟩, trivial⟩
theorem spec_l8Minor.sound : Sound Tryd.prog 86 spec_l8Minor.s := by
  refine func_sound (f := spec_l8Minor.a) (G := spec_l8Minor.G) (fn := Tryd.f86) (body := bodyOf Tryd.prog 86) 1000 (by kernel_rfl) spec_l8Minor.E_ok Tryd.func86 (by kernel_rfl) (by kernel_rfl) (by kernel_rfl) (ptsOk_of (by kernel_rfl)) ?_ ?_ ?_ ?_
  · intro r H x h
    unfold spec_l8Minor.a at h
    simp only at h
    split at h
    · cases h; rfl
    · cases h
  · exact fun q avs H => pick1_none spec_l8Minor.G12_0 (pick1_none spec_l8Minor.G31_0 (pick1_none spec_l8Minor.G52_0 (rfl)))
  · intro k q pt avs H x _ h
    rcases pick1_some h with ⟨rfl, h⟩ | h
    · exact spec_l8Minor.G12_s _ h
    rcases pick1_some h with ⟨rfl, h⟩ | h
    · exact spec_l8Minor.G31_s _ h
    rcases pick1_some h with ⟨rfl, h⟩ | h
    · exact spec_l8Minor.G52_s _ h
    cases h
  · intro k avs H o h
    try dsimp only at h
    split at h
    · cases h; exact spec_l8Minor.eq _ _ _ _ _
    · cases h

def spec_Minor.a : FnA (Int × List Int × List Int × Bool) := ⟨26, [.cell 6 30, .tmp 7, .tmp 8], .tup [.agg [.val, .row 2 (.int .i64)], .row 2 (.int .i64), .bool], [], [], fun x H => match x, H with
  | .tup [.agg [.v (.int .i64 r_0_0), .own 0], .own 1, .bs false r_2], [.row 2 (.int .i64) r_0_1, .row 2 (.int .i64) r_1] => some (r_0_0, r_0_1, r_1, r_2)
  | _, _ => none⟩
def spec_Minor.s : Spec := mkS [.con .str, .agg [.val, .con (.int .i64)], .con (.int .i64)] (fun k avs H => match avs, H with
  | [.con .str a0, .agg [.v (.int .i64 a1_0), .con (.int .i64) a1_1], .con (.int .i64) a2], [] => some (spec_Minor.f k a0 a1_0 a1_1 a2)
  | _, _ => none) (fun r => (.tup [.agg [.v (.int .i64 r.1), .own 0], .own 1, .bs false r.2.2.2], [.row 2 (.int .i64) r.2.1, .row 2 (.int .i64) r.2.2.1]))
def spec_Minor.E : Env := [((75, []), spec_l8Roots.s), ((86, []), spec_l8Minor.s)]
def spec_Minor.G (k p : Nat) (avs : List AV) (H : List HE) : Option (Int × List Int × List Int × Bool) := none
set_option maxRecDepth 100000 in
theorem spec_Minor.eq (k : Nat) (a0 : List ByteArray) (a1_0 : Int) (a1_1 : List Int) (a2 : List Int) : fromTop Tryd.prog spec_Minor.E k spec_Minor.a (spec_Minor.G k) 1000 (bodyOf Tryd.prog 50) [.con .str a0, .agg [.v (.int .i64 a1_0), .con (.int .i64) a1_1], .con (.int .i64) a2] [] = spec_Minor.f k a0 a1_0 a1_1 a2 := by kernel_rfl
theorem spec_Minor.E_ok : EnvOk Tryd.prog spec_Minor.E := ⟨⟨spec_l8Roots.sound, callable_of (by kernel_rfl)⟩, ⟨spec_l8Minor.sound, callable_of (by kernel_rfl)⟩, trivial⟩
theorem spec_Minor.sound : Sound Tryd.prog 50 spec_Minor.s := by
  refine func_sound (f := spec_Minor.a) (G := spec_Minor.G) (fn := Tryd.f50) (body := bodyOf Tryd.prog 50) 1000 (by kernel_rfl) spec_Minor.E_ok Tryd.func50 (by kernel_rfl) (by kernel_rfl) (by kernel_rfl) (ptsOk_of (by kernel_rfl)) ?_ ?_ ?_ ?_
  · intro r H x h
    unfold spec_Minor.a at h
    simp only at h
    split at h
    · cases h; rfl
    · cases h
  · intro q avs H; rfl
  · intro k q pt avs H x _ h; cases h
  · intro k avs H o h
    try dsimp only at h
    split at h
    · cases h; exact spec_Minor.eq _ _ _ _ _
    · cases h

def laws_sameInts.a : FnA (Bool) := ⟨26, [.tmp 4], .bool, [], [⟨14, [0, 1, 5], [.con (.int .i64), .con (.int .i64), .val], []⟩], fun x H => match x, H with
  | .bs false r, [] => some r
  | _, _ => none⟩
def laws_sameInts.s : Spec := mkS [.con (.int .i64), .con (.int .i64)] (fun k avs H => match avs, H with
  | [.con (.int .i64) a0, .con (.int .i64) a1], [] => some (laws_sameInts.f k a0 a1)
  | _, _ => none) (fun r => (.bs false r, []))
def laws_sameInts.E : Env := []
def laws_sameInts.G14 (k : Nat) (avs : List AV) (H : List HE) : Option (Bool) := match avs, H with
  | [.con (.int .i64) x0, .con (.int .i64) x1, .v (.int .i64 x5)], [] => laws_sameInts.p14 k x0 x1 x5
  | _, _ => none
def laws_sameInts.G (k p : Nat) (avs : List AV) (H : List HE) : Option (Bool) := (pick1 14 (laws_sameInts.G14 k avs H) none p)
set_option maxRecDepth 100000 in
theorem laws_sameInts.eq (k : Nat) (a0 : List Int) (a1 : List Int) : fromTop Tryd.prog laws_sameInts.E k laws_sameInts.a (laws_sameInts.G k) 1000 (bodyOf Tryd.prog 48) [.con (.int .i64) a0, .con (.int .i64) a1] [] = laws_sameInts.f k a0 a1 := by kernel_rfl
set_option maxRecDepth 100000 in
theorem laws_sameInts.eq14 (k : Nat) (x0 : List Int) (x1 : List Int) (x5 : Int) : fromPt Tryd.prog laws_sameInts.E k laws_sameInts.a (laws_sameInts.G k) 1000 (bodyOf Tryd.prog 48) 14 [.con (.int .i64) x0, .con (.int .i64) x1, .v (.int .i64 x5)] [] = laws_sameInts.p14 (k + 1) x0 x1 x5 := by kernel_rfl
theorem laws_sameInts.G14_0 {avs : List AV} {H : List HE} : laws_sameInts.G14 0 avs H = none := by unfold laws_sameInts.G14; split <;> rfl
theorem laws_sameInts.G14_s (k : Nat) {avs : List AV} {H : List HE} {x : Bool} (h : laws_sameInts.G14 (k + 1) avs H = some x) : fromPt Tryd.prog laws_sameInts.E k laws_sameInts.a (laws_sameInts.G k) 1000 (bodyOf Tryd.prog 48) 14 avs H = some x := by
  unfold laws_sameInts.G14 at h
  split at h
  · rw [← h]; exact laws_sameInts.eq14 _ _ _ _
  · cases h
theorem laws_sameInts.E_ok : EnvOk Tryd.prog laws_sameInts.E := trivial
theorem laws_sameInts.sound : Sound Tryd.prog 48 laws_sameInts.s := by
  refine func_sound (f := laws_sameInts.a) (G := laws_sameInts.G) (fn := Tryd.f48) (body := bodyOf Tryd.prog 48) 1000 (by kernel_rfl) laws_sameInts.E_ok Tryd.func48 (by kernel_rfl) (by kernel_rfl) (by kernel_rfl) (ptsOk_of (by kernel_rfl)) ?_ ?_ ?_ ?_
  · intro r H x h
    unfold laws_sameInts.a at h
    simp only at h
    split at h
    · cases h; rfl
    · cases h
  · exact fun q avs H => pick1_none laws_sameInts.G14_0 (rfl)
  · intro k q pt avs H x _ h
    rcases pick1_some h with ⟨rfl, h⟩ | h
    · exact laws_sameInts.G14_s _ h
    cases h
  · intro k avs H o h
    try dsimp only at h
    split at h
    · cases h; exact laws_sameInts.eq _ _ _
    · cases h

def impl_Ages.a : FnA (List Int) := ⟨38, [.tmp 4], .row 2 (.int .i64), [], [⟨18, [3, 7, 19, 20, 21], [.box [.val, .con (.int .i64)], .row 2 (.int .i64), .row 2 (.int .i64), .val, .val], []⟩], fun x H => match x, H with
  | .own 0, [.row 2 (.int .i64) r] => some r
  | _, _ => none⟩
def impl_Ages.s : Spec := mkS [.con .str, .agg [.val, .con (.int .i64)]] (fun k avs H => match avs, H with
  | [.con .str a0, .agg [.v (.int .i64 a1_0), .con (.int .i64) a1_1]], [] => some (impl_Ages.f k a0 a1_0 a1_1)
  | _, _ => none) (fun r => (.own 0, [.row 2 (.int .i64) r]))
def impl_Ages.E : Env := [((60, []), impl_heads.s)]
def impl_Ages.G18 (k : Nat) (avs : List AV) (H : List HE) : Option (List Int) := match avs, H with
  | [.box 0 0, .own 1, .own 2, .v (.int .i64 x20), .v (.int .i64 x21)], [.box [.v (.int .i64 x3_0), .con (.int .i64) x3_1], .row 2 (.int .i64) x7, .row 2 (.int .i64) x19] => impl_Ages.p18 k x3_0 x3_1 x7 x19 x20 x21
  | _, _ => none
def impl_Ages.G (k p : Nat) (avs : List AV) (H : List HE) : Option (List Int) := (pick1 18 (impl_Ages.G18 k avs H) none p)
set_option maxRecDepth 100000 in
theorem impl_Ages.eq (k : Nat) (a0 : List ByteArray) (a1_0 : Int) (a1_1 : List Int) : fromTop Tryd.prog impl_Ages.E k impl_Ages.a (impl_Ages.G k) 1000 (bodyOf Tryd.prog 32) [.con .str a0, .agg [.v (.int .i64 a1_0), .con (.int .i64) a1_1]] [] = impl_Ages.f k a0 a1_0 a1_1 := by kernel_rfl
set_option maxRecDepth 100000 in
theorem impl_Ages.eq18 (k : Nat) (x3_0 : Int) (x3_1 : List Int) (x7 : List Int) (x19 : List Int) (x20 : Int) (x21 : Int) : fromPt Tryd.prog impl_Ages.E k impl_Ages.a (impl_Ages.G k) 1000 (bodyOf Tryd.prog 32) 18 [.box 0 0, .own 1, .own 2, .v (.int .i64 x20), .v (.int .i64 x21)] [.box [.v (.int .i64 x3_0), .con (.int .i64) x3_1], .row 2 (.int .i64) x7, .row 2 (.int .i64) x19] = impl_Ages.p18 (k + 1) x3_0 x3_1 x7 x19 x20 x21 := by kernel_rfl
theorem impl_Ages.G18_0 {avs : List AV} {H : List HE} : impl_Ages.G18 0 avs H = none := by unfold impl_Ages.G18; split <;> rfl
theorem impl_Ages.G18_s (k : Nat) {avs : List AV} {H : List HE} {x : List Int} (h : impl_Ages.G18 (k + 1) avs H = some x) : fromPt Tryd.prog impl_Ages.E k impl_Ages.a (impl_Ages.G k) 1000 (bodyOf Tryd.prog 32) 18 avs H = some x := by
  unfold impl_Ages.G18 at h
  split at h
  · rw [← h]; exact impl_Ages.eq18 _ _ _ _ _ _ _
  · cases h
theorem impl_Ages.E_ok : EnvOk Tryd.prog impl_Ages.E := ⟨⟨impl_heads.sound, callable_of (by kernel_rfl)⟩, trivial⟩
theorem impl_Ages.sound : Sound Tryd.prog 32 impl_Ages.s := by
  refine func_sound (f := impl_Ages.a) (G := impl_Ages.G) (fn := Tryd.f32) (body := bodyOf Tryd.prog 32) 1000 (by kernel_rfl) impl_Ages.E_ok Tryd.func32 (by kernel_rfl) (by kernel_rfl) (by kernel_rfl) (ptsOk_of (by kernel_rfl)) ?_ ?_ ?_ ?_
  · intro r H x h
    unfold impl_Ages.a at h
    simp only at h
    split at h
    · cases h; rfl
    · cases h
  · exact fun q avs H => pick1_none impl_Ages.G18_0 (rfl)
  · intro k q pt avs H x _ h
    rcases pick1_some h with ⟨rfl, h⟩ | h
    · exact impl_Ages.G18_s _ h
    cases h
  · intro k avs H o h
    try dsimp only at h
    split at h
    · cases h; exact impl_Ages.eq _ _ _ _
    · cases h

def spec_YoungClosure.a : FnA (List Int × Bool) := ⟨17, [.tmp 6, .tmp 7], .tup [.row 2 (.int .i64), .bool], [], [], fun x H => match x, H with
  | .tup [.own 0, .bs false r_1], [.row 2 (.int .i64) r_0] => some (r_0, r_1)
  | _, _ => none⟩
def spec_YoungClosure.s : Spec := mkS [.con .str, .agg [.val, .con (.int .i64)], .con (.int .i64)] (fun k avs H => match avs, H with
  | [.con .str a0, .agg [.v (.int .i64 a1_0), .con (.int .i64) a1_1], .con (.int .i64) a2], [] => some (spec_YoungClosure.f k a0 a1_0 a1_1 a2)
  | _, _ => none) (fun r => (.tup [.own 0, .bs false r.2], [.row 2 (.int .i64) r.1]))
def spec_YoungClosure.E : Env := [((75, []), spec_l8Roots.s), ((76, []), spec_l8Closure.s)]
def spec_YoungClosure.G (k p : Nat) (avs : List AV) (H : List HE) : Option (List Int × Bool) := none
set_option maxRecDepth 100000 in
theorem spec_YoungClosure.eq (k : Nat) (a0 : List ByteArray) (a1_0 : Int) (a1_1 : List Int) (a2 : List Int) : fromTop Tryd.prog spec_YoungClosure.E k spec_YoungClosure.a (spec_YoungClosure.G k) 1000 (bodyOf Tryd.prog 43) [.con .str a0, .agg [.v (.int .i64 a1_0), .con (.int .i64) a1_1], .con (.int .i64) a2] [] = spec_YoungClosure.f k a0 a1_0 a1_1 a2 := by kernel_rfl
theorem spec_YoungClosure.E_ok : EnvOk Tryd.prog spec_YoungClosure.E := ⟨⟨spec_l8Roots.sound, callable_of (by kernel_rfl)⟩, ⟨spec_l8Closure.sound, callable_of (by kernel_rfl)⟩, trivial⟩
theorem spec_YoungClosure.sound : Sound Tryd.prog 43 spec_YoungClosure.s := by
  refine func_sound (f := spec_YoungClosure.a) (G := spec_YoungClosure.G) (fn := Tryd.f43) (body := bodyOf Tryd.prog 43) 1000 (by kernel_rfl) spec_YoungClosure.E_ok Tryd.func43 (by kernel_rfl) (by kernel_rfl) (by kernel_rfl) (ptsOk_of (by kernel_rfl)) ?_ ?_ ?_ ?_
  · intro r H x h
    unfold spec_YoungClosure.a at h
    simp only at h
    split at h
    · cases h; rfl
    · cases h
  · intro q avs H; rfl
  · intro k q pt avs H x _ h; cases h
  · intro k avs H o h
    try dsimp only at h
    split at h
    · cases h; exact spec_YoungClosure.eq _ _ _ _ _
    · cases h

def impl_Starts.a : FnA (List Int) := ⟨14, [.tmp 4], .row 2 (.int .i64), [], [], fun x H => match x, H with
  | .own 0, [.row 2 (.int .i64) r] => some r
  | _, _ => none⟩
def impl_Starts.s : Spec := mkS [.con .str, .agg [.val, .con (.int .i64)]] (fun k avs H => match avs, H with
  | [.con .str a0, .agg [.v (.int .i64 a1_0), .con (.int .i64) a1_1]], [] => some (impl_Starts.f k a0 a1_0 a1_1)
  | _, _ => none) (fun r => (.own 0, [.row 2 (.int .i64) r]))
def impl_Starts.E : Env := [((60, []), impl_heads.s)]
def impl_Starts.G (k p : Nat) (avs : List AV) (H : List HE) : Option (List Int) := none
set_option maxRecDepth 100000 in
theorem impl_Starts.eq (k : Nat) (a0 : List ByteArray) (a1_0 : Int) (a1_1 : List Int) : fromTop Tryd.prog impl_Starts.E k impl_Starts.a (impl_Starts.G k) 1000 (bodyOf Tryd.prog 25) [.con .str a0, .agg [.v (.int .i64 a1_0), .con (.int .i64) a1_1]] [] = impl_Starts.f k a0 a1_0 a1_1 := by kernel_rfl
theorem impl_Starts.E_ok : EnvOk Tryd.prog impl_Starts.E := ⟨⟨impl_heads.sound, callable_of (by kernel_rfl)⟩, trivial⟩
theorem impl_Starts.sound : Sound Tryd.prog 25 impl_Starts.s := by
  refine func_sound (f := impl_Starts.a) (G := impl_Starts.G) (fn := Tryd.f25) (body := bodyOf Tryd.prog 25) 1000 (by kernel_rfl) impl_Starts.E_ok Tryd.func25 (by kernel_rfl) (by kernel_rfl) (by kernel_rfl) (ptsOk_of (by kernel_rfl)) ?_ ?_ ?_ ?_
  · intro r H x h
    unfold impl_Starts.a at h
    simp only at h
    split at h
    · cases h; rfl
    · cases h
  · intro q avs H; rfl
  · intro k q pt avs H x _ h; cases h
  · intro k avs H o h
    try dsimp only at h
    split at h
    · cases h; exact impl_Starts.eq _ _ _ _
    · cases h

def laws_FnMinorTwice.a : FnA (Bool) := ⟨164, [.tmp 2], .bool, [], [⟨19, [3, 4, 5, 6, 7, 8, 11, 49], [.con .str, .box [.val, .row 2 (.int .i64)], .row 2 (.int .i64), .box [.val, .row 2 (.int .i64)], .row 2 (.int .i64), .bool, .bool, .bool], []⟩, ⟨29, [3, 4, 5, 6, 12, 77], [.con .str, .box [.val, .row 2 (.int .i64)], .row 2 (.int .i64), .box [.val, .row 2 (.int .i64)], .box [.val, .row 2 (.int .i64)], .bool], []⟩], fun x H => match x, H with
  | .bs false r, [] => some r
  | _, _ => none⟩
def laws_FnMinorTwice.s : Spec := mkS [.con (.int .u8)] (fun k avs H => match avs, H with
  | [.con (.int .u8) a0], [] => some (laws_FnMinorTwice.f k a0)
  | _, _ => none) (fun r => (.bs false r, []))
def laws_FnMinorTwice.E : Env := [((46, []), laws_big.s), ((55, []), spec_DrawMinor.s), ((51, []), impl_Minor.s), ((50, []), spec_Minor.s), ((32, []), impl_Ages.s), ((43, []), spec_YoungClosure.s), ((25, []), impl_Starts.s), ((48, []), laws_sameInts.s)]
def laws_FnMinorTwice.G19 (k : Nat) (avs : List AV) (H : List HE) : Option (Bool) := match avs, H with
  | [.con .str x3, .box 0 0, .own 2, .box 3 0, .own 5, .bs false x8, .bs false x11, .bs false x49], [.box [.v (.int .i64 x4_0), .own 1], .row 2 (.int .i64) x4_1, .row 2 (.int .i64) x5, .box [.v (.int .i64 x6_0), .own 4], .row 2 (.int .i64) x6_1, .row 2 (.int .i64) x7] => laws_FnMinorTwice.p19 k x3 x4_0 x4_1 x5 x6_0 x6_1 x7 x8 x11 x49
  | _, _ => none
def laws_FnMinorTwice.G29 (k : Nat) (avs : List AV) (H : List HE) : Option (Bool) := match avs, H with
  | [.con .str x3, .box 0 0, .own 2, .box 3 0, .box 5 0, .bs false x77], [.box [.v (.int .i64 x4_0), .own 1], .row 2 (.int .i64) x4_1, .row 2 (.int .i64) x5, .box [.v (.int .i64 x6_0), .own 4], .row 2 (.int .i64) x6_1, .box [.v (.int .i64 x12_0), .own 6], .row 2 (.int .i64) x12_1] => laws_FnMinorTwice.p29 k x3 x4_0 x4_1 x5 x6_0 x6_1 x12_0 x12_1 x77
  | _, _ => none
def laws_FnMinorTwice.G (k p : Nat) (avs : List AV) (H : List HE) : Option (Bool) := (pick1 19 (laws_FnMinorTwice.G19 k avs H) (pick1 29 (laws_FnMinorTwice.G29 k avs H) none p) p)
set_option maxRecDepth 100000 in
theorem laws_FnMinorTwice.eq (k : Nat) (a0 : List Int) : fromTop Tryd.prog laws_FnMinorTwice.E k laws_FnMinorTwice.a (laws_FnMinorTwice.G k) 1000 (bodyOf Tryd.prog 15) [.con (.int .u8) a0] [] = laws_FnMinorTwice.f k a0 := by kernel_rfl
set_option maxRecDepth 100000 in
theorem laws_FnMinorTwice.eq19 (k : Nat) (x3 : List ByteArray) (x4_0 : Int) (x4_1 : List Int) (x5 : List Int) (x6_0 : Int) (x6_1 : List Int) (x7 : List Int) (x8 : Bool) (x11 : Bool) (x49 : Bool) : fromPt Tryd.prog laws_FnMinorTwice.E k laws_FnMinorTwice.a (laws_FnMinorTwice.G k) 1000 (bodyOf Tryd.prog 15) 19 [.con .str x3, .box 0 0, .own 2, .box 3 0, .own 5, .bs false x8, .bs false x11, .bs false x49] [.box [.v (.int .i64 x4_0), .own 1], .row 2 (.int .i64) x4_1, .row 2 (.int .i64) x5, .box [.v (.int .i64 x6_0), .own 4], .row 2 (.int .i64) x6_1, .row 2 (.int .i64) x7] = laws_FnMinorTwice.p19 (k + 1) x3 x4_0 x4_1 x5 x6_0 x6_1 x7 x8 x11 x49 := by kernel_rfl
theorem laws_FnMinorTwice.G19_0 {avs : List AV} {H : List HE} : laws_FnMinorTwice.G19 0 avs H = none := by unfold laws_FnMinorTwice.G19; split <;> rfl
theorem laws_FnMinorTwice.G19_s (k : Nat) {avs : List AV} {H : List HE} {x : Bool} (h : laws_FnMinorTwice.G19 (k + 1) avs H = some x) : fromPt Tryd.prog laws_FnMinorTwice.E k laws_FnMinorTwice.a (laws_FnMinorTwice.G k) 1000 (bodyOf Tryd.prog 15) 19 avs H = some x := by
  unfold laws_FnMinorTwice.G19 at h
  split at h
  · rw [← h]; exact laws_FnMinorTwice.eq19 _ _ _ _ _ _ _ _ _ _ _
  · cases h
set_option maxRecDepth 100000 in
theorem laws_FnMinorTwice.eq29 (k : Nat) (x3 : List ByteArray) (x4_0 : Int) (x4_1 : List Int) (x5 : List Int) (x6_0 : Int) (x6_1 : List Int) (x12_0 : Int) (x12_1 : List Int) (x77 : Bool) : fromPt Tryd.prog laws_FnMinorTwice.E k laws_FnMinorTwice.a (laws_FnMinorTwice.G k) 1000 (bodyOf Tryd.prog 15) 29 [.con .str x3, .box 0 0, .own 2, .box 3 0, .box 5 0, .bs false x77] [.box [.v (.int .i64 x4_0), .own 1], .row 2 (.int .i64) x4_1, .row 2 (.int .i64) x5, .box [.v (.int .i64 x6_0), .own 4], .row 2 (.int .i64) x6_1, .box [.v (.int .i64 x12_0), .own 6], .row 2 (.int .i64) x12_1] = laws_FnMinorTwice.p29 (k + 1) x3 x4_0 x4_1 x5 x6_0 x6_1 x12_0 x12_1 x77 := by kernel_rfl
theorem laws_FnMinorTwice.G29_0 {avs : List AV} {H : List HE} : laws_FnMinorTwice.G29 0 avs H = none := by unfold laws_FnMinorTwice.G29; split <;> rfl
theorem laws_FnMinorTwice.G29_s (k : Nat) {avs : List AV} {H : List HE} {x : Bool} (h : laws_FnMinorTwice.G29 (k + 1) avs H = some x) : fromPt Tryd.prog laws_FnMinorTwice.E k laws_FnMinorTwice.a (laws_FnMinorTwice.G k) 1000 (bodyOf Tryd.prog 15) 29 avs H = some x := by
  unfold laws_FnMinorTwice.G29 at h
  split at h
  · rw [← h]; exact laws_FnMinorTwice.eq29 _ _ _ _ _ _ _ _ _ _
  · cases h
theorem laws_FnMinorTwice.E_ok : EnvOk Tryd.prog laws_FnMinorTwice.E := ⟨⟨laws_big.sound, callable_of (by kernel_rfl)⟩, ⟨spec_DrawMinor.sound, callable_of (by kernel_rfl)⟩, ⟨impl_Minor.sound, callable_of (by kernel_rfl)⟩, ⟨spec_Minor.sound, callable_of (by kernel_rfl)⟩, ⟨impl_Ages.sound, callable_of (by kernel_rfl)⟩, ⟨spec_YoungClosure.sound, callable_of (by kernel_rfl)⟩, ⟨impl_Starts.sound, callable_of (by kernel_rfl)⟩, ⟨laws_sameInts.sound, callable_of (by kernel_rfl)⟩, trivial⟩
theorem laws_FnMinorTwice.sound : Sound Tryd.prog 15 laws_FnMinorTwice.s := by
  refine func_sound (f := laws_FnMinorTwice.a) (G := laws_FnMinorTwice.G) (fn := Tryd.f15) (body := bodyOf Tryd.prog 15) 1000 (by kernel_rfl) laws_FnMinorTwice.E_ok Tryd.func15 (by kernel_rfl) (by kernel_rfl) (by kernel_rfl) (ptsOk_of (by kernel_rfl)) ?_ ?_ ?_ ?_
  · intro r H x h
    unfold laws_FnMinorTwice.a at h
    simp only at h
    split at h
    · cases h; rfl
    · cases h
  · exact fun q avs H => pick1_none laws_FnMinorTwice.G19_0 (pick1_none laws_FnMinorTwice.G29_0 (rfl))
  · intro k q pt avs H x _ h
    rcases pick1_some h with ⟨rfl, h⟩ | h
    · exact laws_FnMinorTwice.G19_s _ h
    rcases pick1_some h with ⟨rfl, h⟩ | h
    · exact laws_FnMinorTwice.G29_s _ h
    cases h
  · intro k avs H o h
    try dsimp only at h
    split at h
    · cases h; exact laws_FnMinorTwice.eq _ _
    · cases h

def impl_NurseryOk.a : FnA (Bool) := ⟨14, [.tmp 4], .bool, [], [], fun x H => match x, H with
  | .bs false r, [] => some r
  | _, _ => none⟩
def impl_NurseryOk.s : Spec := mkS [.con .str, .agg [.val, .con (.int .i64)]] (fun k avs H => match avs, H with
  | [.con .str a0, .agg [.v (.int .i64 a1_0), .con (.int .i64) a1_1]], [] => some (impl_NurseryOk.f k a0 a1_0 a1_1)
  | _, _ => none) (fun r => (.bs false r, []))
def impl_NurseryOk.E : Env := [((60, []), impl_heads.s)]
def impl_NurseryOk.G (k p : Nat) (avs : List AV) (H : List HE) : Option (Bool) := none
set_option maxRecDepth 100000 in
theorem impl_NurseryOk.eq (k : Nat) (a0 : List ByteArray) (a1_0 : Int) (a1_1 : List Int) : fromTop Tryd.prog impl_NurseryOk.E k impl_NurseryOk.a (impl_NurseryOk.G k) 1000 (bodyOf Tryd.prog 21) [.con .str a0, .agg [.v (.int .i64 a1_0), .con (.int .i64) a1_1]] [] = impl_NurseryOk.f k a0 a1_0 a1_1 := by kernel_rfl
theorem impl_NurseryOk.E_ok : EnvOk Tryd.prog impl_NurseryOk.E := ⟨⟨impl_heads.sound, callable_of (by kernel_rfl)⟩, trivial⟩
theorem impl_NurseryOk.sound : Sound Tryd.prog 21 impl_NurseryOk.s := by
  refine func_sound (f := impl_NurseryOk.a) (G := impl_NurseryOk.G) (fn := Tryd.f21) (body := bodyOf Tryd.prog 21) 1000 (by kernel_rfl) impl_NurseryOk.E_ok Tryd.func21 (by kernel_rfl) (by kernel_rfl) (by kernel_rfl) (ptsOk_of (by kernel_rfl)) ?_ ?_ ?_ ?_
  · intro r H x h
    unfold impl_NurseryOk.a at h
    simp only at h
    split at h
    · cases h; rfl
    · cases h
  · intro q avs H; rfl
  · intro k q pt avs H x _ h; cases h
  · intro k avs H o h
    try dsimp only at h
    split at h
    · cases h; exact impl_NurseryOk.eq _ _ _ _
    · cases h

def impl_YoungObject.a : FnA (Int × List Int × Bool) := ⟨30, [.cell 6 40, .tmp 7], .tup [.agg [.val, .row 2 (.int .i64)], .bool], [], [], fun x H => match x, H with
  | .tup [.agg [.v (.int .i64 r_0_0), .own 0], .bs false r_1], [.row 2 (.int .i64) r_0_1] => some (r_0_0, r_0_1, r_1)
  | _, _ => none⟩
def impl_YoungObject.s : Spec := mkS [.con .str, .agg [.val, .con (.int .i64)], .val] (fun k avs H => match avs, H with
  | [.con .str a0, .agg [.v (.int .i64 a1_0), .con (.int .i64) a1_1], .v (.int .i64 a2)], [] => some (impl_YoungObject.f k a0 a1_0 a1_1 a2)
  | _, _ => none) (fun r => (.tup [.agg [.v (.int .i64 r.1), .own 0], .bs false r.2.2], [.row 2 (.int .i64) r.2.1]))
def impl_YoungObject.E : Env := [((60, []), impl_heads.s), ((65, []), impl_isHead.s), ((66, []), impl_youngObject.s)]
def impl_YoungObject.G (k p : Nat) (avs : List AV) (H : List HE) : Option (Int × List Int × Bool) := none
set_option maxRecDepth 100000 in
theorem impl_YoungObject.eq (k : Nat) (a0 : List ByteArray) (a1_0 : Int) (a1_1 : List Int) (a2 : Int) : fromTop Tryd.prog impl_YoungObject.E k impl_YoungObject.a (impl_YoungObject.G k) 1000 (bodyOf Tryd.prog 34) [.con .str a0, .agg [.v (.int .i64 a1_0), .con (.int .i64) a1_1], .v (.int .i64 a2)] [] = impl_YoungObject.f k a0 a1_0 a1_1 a2 := by kernel_rfl
theorem impl_YoungObject.E_ok : EnvOk Tryd.prog impl_YoungObject.E := ⟨⟨impl_heads.sound, callable_of (by kernel_rfl)⟩, ⟨impl_isHead.sound, callable_of (by kernel_rfl)⟩, ⟨impl_youngObject.sound, callable_of (by kernel_rfl)⟩, trivial⟩
theorem impl_YoungObject.sound : Sound Tryd.prog 34 impl_YoungObject.s := by
  refine func_sound (f := impl_YoungObject.a) (G := impl_YoungObject.G) (fn := Tryd.f34) (body := bodyOf Tryd.prog 34) 1000 (by kernel_rfl) impl_YoungObject.E_ok Tryd.func34 (by kernel_rfl) (by kernel_rfl) (by kernel_rfl) (ptsOk_of (by kernel_rfl)) ?_ ?_ ?_ ?_
  · intro r H x h
    unfold impl_YoungObject.a at h
    simp only at h
    split at h
    · cases h; rfl
    · cases h
  · intro q avs H; rfl
  · intro k q pt avs H x _ h; cases h
  · intro k avs H o h
    try dsimp only at h
    split at h
    · cases h; exact impl_YoungObject.eq _ _ _ _ _
    · cases h

def impl_ownNursery.a : FnA (Int × List Int) := ⟨9, [.cell 2 30], .agg [.val, .row 2 (.int .i64)], [], [], fun x H => match x, H with
  | .agg [.v (.int .i64 r_0), .own 0], [.row 2 (.int .i64) r_1] => some (r_0, r_1)
  | _, _ => none⟩
def impl_ownNursery.s : Spec := mkS [.agg [.val, .con (.int .i64)]] (fun k avs H => match avs, H with
  | [.agg [.v (.int .i64 a0_0), .con (.int .i64) a0_1]], [] => some (impl_ownNursery.f a0_0 a0_1)
  | _, _ => none) (fun r => (.agg [.v (.int .i64 r.1), .own 0], [.row 2 (.int .i64) r.2]))
def impl_ownNursery.E : Env := [((97, []), slices_Clone_int64.s)]
def impl_ownNursery.G (k p : Nat) (avs : List AV) (H : List HE) : Option (Int × List Int) := none
set_option maxRecDepth 100000 in
theorem impl_ownNursery.eq (k : Nat) (a0_0 : Int) (a0_1 : List Int) : fromTop Tryd.prog impl_ownNursery.E k impl_ownNursery.a (impl_ownNursery.G k) 1000 (bodyOf Tryd.prog 72) [.agg [.v (.int .i64 a0_0), .con (.int .i64) a0_1]] [] = impl_ownNursery.f a0_0 a0_1 := by kernel_rfl
theorem impl_ownNursery.E_ok : EnvOk Tryd.prog impl_ownNursery.E := ⟨⟨slices_Clone_int64.sound, callable_of (by kernel_rfl)⟩, trivial⟩
theorem impl_ownNursery.sound : Sound Tryd.prog 72 impl_ownNursery.s := by
  refine func_sound (f := impl_ownNursery.a) (G := impl_ownNursery.G) (fn := Tryd.f72) (body := bodyOf Tryd.prog 72) 1000 (by kernel_rfl) impl_ownNursery.E_ok Tryd.func72 (by kernel_rfl) (by kernel_rfl) (by kernel_rfl) (ptsOk_of (by kernel_rfl)) ?_ ?_ ?_ ?_
  · intro r H x h
    unfold impl_ownNursery.a at h
    simp only at h
    split at h
    · cases h; rfl
    · cases h
  · intro q avs H; rfl
  · intro k q pt avs H x _ h; cases h
  · intro k avs H o h
    try dsimp only at h
    split at h
    · cases h; exact impl_ownNursery.eq _ _ _
    · cases h
end
end Go.Proofs.YtgfeafcgpeclcaaDoor.Abs
namespace Go.Proofs.YtgfeafcgpeclcaaDoor.fnMinorTwice
open Go.ChangeShapes Go.WideShapes Go.ChangeAt Go.RowKit
open Go.ChangeMaps (open_string shut_string)
set_option linter.unusedVariables false
theorem own : ownKnob Tryd.prog.godebug = none := by kernel_rfl
theorem laidOut : laidOutB Tryd.prog = true := by kernel_rfl
set_option maxRecDepth 100000 in
theorem lifted (os : Os) (started : os.Started) (H : Type) (enc : TypeId × Value → H) :
    ReturnsInHanded {} Tryd.checked os 15 .any (fun w args => (Rows.fnMinorTwiceSpec.pre enc Tryd.prog Tryd.f15 Rows.fnMinorTwiceRow.domain false w args ∧ laidMetH Tryd.prog Rows.fnMinorTwiceRow.laid w) ∧ sizedMet enc Tryd.prog Tryd.f15 (OpenSpec.ofChange Rows.fnMinorTwiceSpec) false w args) (Rows.fnMinorTwiceSpec.post enc Tryd.prog Tryd.f15 false true false false) := by
  refine returnsInHanded_of_change_and (C := Tryd.checked) (X := fun w _ => laidMetH Tryd.prog Rows.fnMinorTwiceRow.laid w) (fun _ _ _ hh h => h.of_heap hh) own started (by kernel_rfl) Tryd.func15
    (ChangeSpec.witness_shaped (enc := enc) (C := Tryd.checked) (os := os) (X := fun w _ => laidMetH Tryd.prog Rows.fnMinorTwiceRow.laid w) false (World.laidAll Tryd.prog os Rows.fnMinorTwiceRow.laid) #[.slice none 0 0] 8 (World.laidAll_os _ _ _)
      (World.shaped_of_ZipB (by kernel_rfl) (by kernel_rfl)) (by kernel_rfl) (by kernel_rfl) (by kernel_rfl)
      (by rw [MakeChecks.laidMetH_plain _ _ _ (by kernel_rfl)]; exact laidMet_laidAll _ (by kernel_rfl) (by kernel_rfl))) ?_
  intro W base args ds gs before hval0 hW hcnd hsz0 _ _
  have hval : ∀ (j : Nat) t v, Tryd.f15.params[j]? = some t → args[j]? = some v → Value.okWide Tryd.prog W .any base t v := hval0
  have hW' := hW
  obtain ⟨p, q, hA0, hV, rfl, hfz, hnd⟩ := hW
  have hA : DataW.TrodAll enc Tryd.prog W 0 (fun _ => true) true Tryd.f15.params.toList args.toList ds p := hA0
  rw [Tryd.params15] at hA hval
  obtain ⟨v0, vs0, d0, ds0, p0, q0, hargs, rfl, rfl, h0, r0⟩ := trodAll_cons hA
  obtain ⟨rfl, rfl, rfl⟩ := trodAll_nil r0
  obtain rfl : args = #[v0] := by cases args; simp_all
  obtain ⟨rfl, rfl⟩ := trodVars_none hV
  have hc0 := Abs.okWide_cell (by kernel_rfl) (hval 0 55 v0 rfl rfl)
  have k0 := h0
  have lt0 : ∀ x ∈ p0, x.block < W.heap.size := by obtain ⟨m, hm⟩ := k0; exact DataW.trod_lt m _ _ _ hm
  obtain ⟨fuel0, hf0⟩ := h0
  obtain ⟨x0, kr0, ok0⟩ := Abs.opens (M := Abs.Mut (fun _ => False) (Abs.hpOf []) (fun _ => undef)) (Abs.not_mut _) 9 55 (.sl (.int .u8)) (by kernel_rfl) _ _ _ hf0
  clear hA0 hval0 hsz0
  obtain ⟨k, hP⟩ := Abs.Pu.FnMinorTwice x0 ok0
  refine (Abs.law_calls Abs.laws_FnMinorTwice.sound (k := k) (avs := [Abs.argAV false (Abs.Ty.cells (.sl (.int .u8)) x0)]) (c := ⟨Bool, Abs.laws_FnMinorTwice.f k x0, fun r => (.bs false r, [])⟩) (x := true) (Abs.mkS_pat rfl) hP rfl (w := W) (vals := [v0]) ⟨_, _, rfl, Abs.arg_cell (t := (.sl (.int .u8))) hc0 kr0 rfl, rfl⟩).mono fun e W' ⟨he, bel⟩ => ?_
  subst he
  exact ⟨_, rfl, _, _, _, [], _, [], hW', trodAll_mk1 (shut_bool Tryd.underlying4 _), (trodAll_cons_mk (Below.trod laidOut (by kernel_rfl) (of_decide_eq_true (by kernel_rfl)) k0 bel lt0) trodAll_mk0), rfl, bel.frame _, fun h => by cases h⟩
theorem over : Rows.fnMinorTwiceRow.holds Tryd.pinned (OpenSpec.ofChange Rows.fnMinorTwiceSpec) :=
  OpenClaim.holds_of_wide 15 Tryd.f15 rfl rfl rfl rfl rfl rfl rfl ⟨rfl, rfl, rfl, rfl, rfl⟩ rfl rfl rfl rfl rfl (by kernel_rfl) Tryd.func15 (by kernel_rfl)
    (of_decide_eq_true (by kernel_rfl)) (by unfold Func.isWrapper; first | (rw [if_pos (by decide +kernel)]; kernel_rfl) | (rw [if_neg (by decide +kernel)]; exact ⟨rfl, rfl⟩))
    (fun os started H enc _ => lifted os started H enc)
theorem card : Rows.FnMinorTwiceCardSaid :=
  Claim7.holds_tied_plain_at .later [] [.data, .pinned] true (true, "a33c974568409a353ea6fb142232fd8d5f44af3221e840a202000012ed58f488") false over (fun _ h => by cases h) (by kernel_rfl) (fun _ h => by cases h) fnMinorTwice_row_tie rfl ⟨rfl, rfl⟩ (by kernel_rfl) rfl
    (fun f fn hf hfn => by
      obtain rfl : f = 15 := Option.some.inj ((show Tryd.prog.funcNamed "loop.example/g00648/laws.FnMinorTwice" = some 15 by kernel_rfl).symm.trans hf) |>.symm
      obtain rfl : fn = Tryd.f15 := (Option.some.inj (Tryd.func15.symm.trans hfn)).symm
      exact ⟨by kernel_rfl, fun j t ht => by
        rw [Tryd.params15] at ht
        have hm : t ∈ [55] := by
          have hm_ := Array.mem_of_getElem? ht
          simpa using hm_
        have hall : ([55].all fun u => !Tryd.prog.wantsStandIn u) = true := by kernel_rfl
        exact (show Tryd.prog.wantsStandIn t = false by simpa using List.all_eq_true.1 hall t hm)⟩)
    (by kernel_rfl)
#print axioms card
end Go.Proofs.YtgfeafcgpeclcaaDoor.fnMinorTwice
namespace Go.Proofs.YtgfeafcgpeclcaaDoor
/-- The row, under a short name, for the claim. -/
theorem fnMinorTwice_holds : Rows.FnMinorTwiceCardSaid := fnMinorTwice.card
end Go.Proofs.YtgfeafcgpeclcaaDoor
