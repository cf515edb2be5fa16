/- They are sound. -/
import Derived.Lib.SplitLaws
import Derived.Test.YtommgpkeicpokaaGreatDoorShelfSt
import Derived.Lib.ParseIntB
import Derived.Lib.AtoiErrMem
import Derived.Test.YtommgpkeicpokaaGreatDoorShelfSc
import Derived.Lib.ItoaNum
import Derived.Lib.LaidTab
import Derived.Sort.Grow
import Derived.Shelf.Strings.SlTrimAscii
import Derived.Test.YtommgpkeicpokaaGreatDoorAbsBld
import Derived.Test.YtommgpkeicpokaaGreatDoorShelfBu
import Derived.Laws.Externs
import Derived.Laws.IdiomCopy
import Derived.Shelf.RegionOpenPlain
import Derived.Test.YtommgpkeicpokaaGreatDoorF3
import Derived.Test.YtommgpkeicpokaaGreatDoorProg
namespace Go.Proofs.YtommgpkeicpokaaGreatDoor.Abs
open Go Go.RowKit
set_option linter.unusedVariables false
set_option linter.unusedSectionVars false
set_option linter.unusedSimpArgs false
noncomputable section
def laws_szStringS.a : FnA (Int) := ⟨28, [.tmp 4], .val, [], [⟨16, [0, 1, 5], [.con .str, .val, .val], []⟩], fun x H => match x, H with
  | .v (.int .i64 r), [] => some r
  | _, _ => none⟩
def laws_szStringS.s : Spec := mkS [.con .str, .val] (fun k avs H => match avs, H with
  | [.con .str a0, .v (.int .i64 a1)], [] => some (laws_szStringS.f k a0 a1)
  | _, _ => none) (fun r => (.v (.int .i64 r), []))
def laws_szStringS.E : Env := []
def laws_szStringS.G16 (k : Nat) (avs : List AV) (H : List HE) : Option (Int) := match avs, H with
  | [.con .str x0, .v (.int .i64 x1), .v (.int .i64 x5)], [] => laws_szStringS.p16 k x0 x1 x5
  | _, _ => none
def laws_szStringS.G (k p : Nat) (avs : List AV) (H : List HE) : Option (Int) := (pick1 16 (laws_szStringS.G16 k avs H) none p)
set_option maxRecDepth 100000 in
theorem laws_szStringS.eq (k : Nat) (a0 : List ByteArray) (a1 : Int) : fromTop Tryz.prog laws_szStringS.E k laws_szStringS.a (laws_szStringS.G k) 1000 (bodyOf Tryz.prog 7) [.con .str a0, .v (.int .i64 a1)] [] = laws_szStringS.f k a0 a1 := by kernel_rfl
set_option maxRecDepth 100000 in
theorem laws_szStringS.eq16 (k : Nat) (x0 : List ByteArray) (x1 : Int) (x5 : Int) : fromPt Tryz.prog laws_szStringS.E k laws_szStringS.a (laws_szStringS.G k) 1000 (bodyOf Tryz.prog 7) 16 [.con .str x0, .v (.int .i64 x1), .v (.int .i64 x5)] [] = laws_szStringS.p16 (k + 1) x0 x1 x5 := by kernel_rfl
theorem laws_szStringS.G16_0 {avs : List AV} {H : List HE} : laws_szStringS.G16 0 avs H = none := by unfold laws_szStringS.G16; split <;> rfl
theorem laws_szStringS.G16_s (k : Nat) {avs : List AV} {H : List HE} {x : Int} (h : laws_szStringS.G16 (k + 1) avs H = some x) : fromPt Tryz.prog laws_szStringS.E k laws_szStringS.a (laws_szStringS.G k) 1000 (bodyOf Tryz.prog 7) 16 avs H = some x := by
  unfold laws_szStringS.G16 at h
  split at h
  · rw [← h]; exact laws_szStringS.eq16 _ _ _ _
  · cases h
theorem laws_szStringS.E_ok : EnvOk Tryz.prog laws_szStringS.E := trivial
theorem laws_szStringS.sound : Sound Tryz.prog 7 laws_szStringS.s := by
  refine func_sound (f := laws_szStringS.a) (G := laws_szStringS.G) (fn := Tryz.f7) (body := bodyOf Tryz.prog 7) 1000 (by kernel_rfl) laws_szStringS.E_ok Tryz.func7 (by kernel_rfl) (by kernel_rfl) (by kernel_rfl) (ptsOk_of (by kernel_rfl)) ?_ ?_ ?_ ?_
  · intro r H x h
    unfold laws_szStringS.a at h
    simp only at h
    split at h
    · cases h; rfl
    · cases h
  · exact fun q avs H => pick1_none laws_szStringS.G16_0 (rfl)
  · intro k q pt avs H x _ h
    rcases pick1_some h with ⟨rfl, h⟩ | h
    · exact laws_szStringS.G16_s _ h
    cases h
  · intro k avs H o h
    try dsimp only at h
    split at h
    · cases h; exact laws_szStringS.eq _ _ _
    · cases h

def laws_toStringS.a : FnA (List ByteArray) := ⟨22, [.tmp 2], .row 9 .str, [], [⟨8, [0, 3, 4], [.con .str, .row 9 .str, .val], []⟩], fun x H => match x, H with
  | .own 0, [.row 9 .str r] => some r
  | _, _ => none⟩
def laws_toStringS.s : Spec := mkS [.con .str] (fun k avs H => match avs, H with
  | [.con .str a0], [] => some (laws_toStringS.f k a0)
  | _, _ => none) (fun r => (.own 0, [.row 9 .str r]))
def laws_toStringS.E : Env := []
def laws_toStringS.G8 (k : Nat) (avs : List AV) (H : List HE) : Option (List ByteArray) := match avs, H with
  | [.con .str x0, .own 0, .v (.int .i64 x4)], [.row 9 .str x3] => laws_toStringS.p8 k x0 x3 x4
  | _, _ => none
def laws_toStringS.G (k p : Nat) (avs : List AV) (H : List HE) : Option (List ByteArray) := (pick1 8 (laws_toStringS.G8 k avs H) none p)
set_option maxRecDepth 100000 in
theorem laws_toStringS.eq (k : Nat) (a0 : List ByteArray) : fromTop Tryz.prog laws_toStringS.E k laws_toStringS.a (laws_toStringS.G k) 1000 (bodyOf Tryz.prog 9) [.con .str a0] [] = laws_toStringS.f k a0 := by kernel_rfl
set_option maxRecDepth 100000 in
theorem laws_toStringS.eq8 (k : Nat) (x0 : List ByteArray) (x3 : List ByteArray) (x4 : Int) : fromPt Tryz.prog laws_toStringS.E k laws_toStringS.a (laws_toStringS.G k) 1000 (bodyOf Tryz.prog 9) 8 [.con .str x0, .own 0, .v (.int .i64 x4)] [.row 9 .str x3] = laws_toStringS.p8 (k + 1) x0 x3 x4 := by kernel_rfl
theorem laws_toStringS.G8_0 {avs : List AV} {H : List HE} : laws_toStringS.G8 0 avs H = none := by unfold laws_toStringS.G8; split <;> rfl
theorem laws_toStringS.G8_s (k : Nat) {avs : List AV} {H : List HE} {x : List ByteArray} (h : laws_toStringS.G8 (k + 1) avs H = some x) : fromPt Tryz.prog laws_toStringS.E k laws_toStringS.a (laws_toStringS.G k) 1000 (bodyOf Tryz.prog 9) 8 avs H = some x := by
  unfold laws_toStringS.G8 at h
  split at h
  · rw [← h]; exact laws_toStringS.eq8 _ _ _ _
  · cases h
theorem laws_toStringS.E_ok : EnvOk Tryz.prog laws_toStringS.E := trivial
theorem laws_toStringS.sound : Sound Tryz.prog 9 laws_toStringS.s := by
  refine func_sound (f := laws_toStringS.a) (G := laws_toStringS.G) (fn := Tryz.f9) (body := bodyOf Tryz.prog 9) 1000 (by kernel_rfl) laws_toStringS.E_ok Tryz.func9 (by kernel_rfl) (by kernel_rfl) (by kernel_rfl) (ptsOk_of (by kernel_rfl)) ?_ ?_ ?_ ?_
  · intro r H x h
    unfold laws_toStringS.a at h
    simp only at h
    split at h
    · cases h; rfl
    · cases h
  · exact fun q avs H => pick1_none laws_toStringS.G8_0 (rfl)
  · intro k q pt avs H x _ h
    rcases pick1_some h with ⟨rfl, h⟩ | h
    · exact laws_toStringS.G8_s _ h
    cases h
  · intro k avs H o h
    try dsimp only at h
    split at h
    · cases h; exact laws_toStringS.eq _ _
    · cases h

def spec_l1Cut.a : FnA (ByteArray × ByteArray × Bool) := ⟨27, [.tmp 4, .tmp 5, .tmp 6], .tup [.val, .val, .bool], [], [⟨6, [0, 1, 7], [.val, .val, .val], []⟩], fun x H => match x, H with
  | .tup [.v (.string r_0), .v (.string r_1), .bs false r_2], [] => some (r_0, r_1, r_2)
  | _, _ => none⟩
def spec_l1Cut.s : Spec := mkS [.val, .val] (fun k avs H => match avs, H with
  | [.v (.string a0), .v (.int .u8 a1)], [] => some (spec_l1Cut.f k a0 a1)
  | _, _ => none) (fun r => (.tup [.v (.string r.1), .v (.string r.2.1), .bs false r.2.2], []))
def spec_l1Cut.E : Env := []
def spec_l1Cut.G6 (k : Nat) (avs : List AV) (H : List HE) : Option (ByteArray × ByteArray × Bool) := match avs, H with
  | [.v (.string x0), .v (.int .u8 x1), .v (.int .i64 x7)], [] => spec_l1Cut.p6 k x0 x1 x7
  | _, _ => none
def spec_l1Cut.G (k p : Nat) (avs : List AV) (H : List HE) : Option (ByteArray × ByteArray × Bool) := (pick1 6 (spec_l1Cut.G6 k avs H) none p)
set_option maxRecDepth 100000 in
theorem spec_l1Cut.eq (k : Nat) (a0 : ByteArray) (a1 : Int) : fromTop Tryz.prog spec_l1Cut.E k spec_l1Cut.a (spec_l1Cut.G k) 1000 (bodyOf Tryz.prog 79) [.v (.string a0), .v (.int .u8 a1)] [] = spec_l1Cut.f k a0 a1 := by kernel_rfl
set_option maxRecDepth 100000 in
theorem spec_l1Cut.eq6 (k : Nat) (x0 : ByteArray) (x1 : Int) (x7 : Int) : fromPt Tryz.prog spec_l1Cut.E k spec_l1Cut.a (spec_l1Cut.G k) 1000 (bodyOf Tryz.prog 79) 6 [.v (.string x0), .v (.int .u8 x1), .v (.int .i64 x7)] [] = spec_l1Cut.p6 (k + 1) x0 x1 x7 := by kernel_rfl
theorem spec_l1Cut.G6_0 {avs : List AV} {H : List HE} : spec_l1Cut.G6 0 avs H = none := by unfold spec_l1Cut.G6; split <;> rfl
theorem spec_l1Cut.G6_s (k : Nat) {avs : List AV} {H : List HE} {x : ByteArray × ByteArray × Bool} (h : spec_l1Cut.G6 (k + 1) avs H = some x) : fromPt Tryz.prog spec_l1Cut.E k spec_l1Cut.a (spec_l1Cut.G k) 1000 (bodyOf Tryz.prog 79) 6 avs H = some x := by
  unfold spec_l1Cut.G6 at h
  split at h
  · rw [← h]; exact spec_l1Cut.eq6 _ _ _ _
  · cases h
theorem spec_l1Cut.E_ok : EnvOk Tryz.prog spec_l1Cut.E := trivial
theorem spec_l1Cut.sound : Sound Tryz.prog 79 spec_l1Cut.s := by
  refine func_sound (f := spec_l1Cut.a) (G := spec_l1Cut.G) (fn := Tryz.f79) (body := bodyOf Tryz.prog 79) 1000 (by kernel_rfl) spec_l1Cut.E_ok Tryz.func79 (by kernel_rfl) (by kernel_rfl) (by kernel_rfl) (ptsOk_of (by kernel_rfl)) ?_ ?_ ?_ ?_
  · intro r H x h
    unfold spec_l1Cut.a at h
    simp only at h
    split at h
    · cases h; rfl
    · cases h
  · exact fun q avs H => pick1_none spec_l1Cut.G6_0 (rfl)
  · intro k q pt avs H x _ h
    rcases pick1_some h with ⟨rfl, h⟩ | h
    · exact spec_l1Cut.G6_s _ h
    cases h
  · intro k avs H o h
    try dsimp only at h
    split at h
    · cases h; exact spec_l1Cut.eq _ _ _
    · cases h

def spec_l1Lines.a : FnA (List ByteArray × Bool) := ⟨26, [.tmp 2, .tmp 3], .tup [.row 9 .str, .bool], [], [⟨6, [0, 4], [.val, .row 9 .str], []⟩], fun x H => match x, H with
  | .tup [.own 0, .bs false r_1], [.row 9 .str r_0] => some (r_0, r_1)
  | _, _ => none⟩
def spec_l1Lines.s : Spec := mkS [.val] (fun k avs H => match avs, H with
  | [.v (.string a0)], [] => some (spec_l1Lines.f k a0)
  | _, _ => none) (fun r => (.tup [.own 0, .bs false r.2], [.row 9 .str r.1]))
def spec_l1Lines.E : Env := [((79, []), spec_l1Cut.s)]
def spec_l1Lines.G6 (k : Nat) (avs : List AV) (H : List HE) : Option (List ByteArray × Bool) := match avs, H with
  | [.v (.string x0), .own 0], [.row 9 .str x4] => spec_l1Lines.p6 k x0 x4
  | _, _ => none
def spec_l1Lines.G (k p : Nat) (avs : List AV) (H : List HE) : Option (List ByteArray × Bool) := (pick1 6 (spec_l1Lines.G6 k avs H) none p)
set_option maxRecDepth 100000 in
theorem spec_l1Lines.eq (k : Nat) (a0 : ByteArray) : fromTop Tryz.prog spec_l1Lines.E k spec_l1Lines.a (spec_l1Lines.G k) 1000 (bodyOf Tryz.prog 35) [.v (.string a0)] [] = spec_l1Lines.f k a0 := by kernel_rfl
set_option maxRecDepth 100000 in
theorem spec_l1Lines.eq6 (k : Nat) (x0 : ByteArray) (x4 : List ByteArray) : fromPt Tryz.prog spec_l1Lines.E k spec_l1Lines.a (spec_l1Lines.G k) 1000 (bodyOf Tryz.prog 35) 6 [.v (.string x0), .own 0] [.row 9 .str x4] = spec_l1Lines.p6 (k + 1) x0 x4 := by kernel_rfl
theorem spec_l1Lines.G6_0 {avs : List AV} {H : List HE} : spec_l1Lines.G6 0 avs H = none := by unfold spec_l1Lines.G6; split <;> rfl
theorem spec_l1Lines.G6_s (k : Nat) {avs : List AV} {H : List HE} {x : List ByteArray × Bool} (h : spec_l1Lines.G6 (k + 1) avs H = some x) : fromPt Tryz.prog spec_l1Lines.E k spec_l1Lines.a (spec_l1Lines.G k) 1000 (bodyOf Tryz.prog 35) 6 avs H = some x := by
  unfold spec_l1Lines.G6 at h
  split at h
  · rw [← h]; exact spec_l1Lines.eq6 _ _ _
  · cases h
theorem spec_l1Lines.E_ok : EnvOk Tryz.prog spec_l1Lines.E := ⟨⟨spec_l1Cut.sound, callable_of (by kernel_rfl)⟩, trivial⟩
theorem spec_l1Lines.sound : Sound Tryz.prog 35 spec_l1Lines.s := by
  refine func_sound (f := spec_l1Lines.a) (G := spec_l1Lines.G) (fn := Tryz.f35) (body := bodyOf Tryz.prog 35) 1000 (by kernel_rfl) spec_l1Lines.E_ok Tryz.func35 (by kernel_rfl) (by kernel_rfl) (by kernel_rfl) (ptsOk_of (by kernel_rfl)) ?_ ?_ ?_ ?_
  · intro r H x h
    unfold spec_l1Lines.a at h
    simp only at h
    split at h
    · cases h; rfl
    · cases h
  · exact fun q avs H => pick1_none spec_l1Lines.G6_0 (rfl)
  · intro k q pt avs H x _ h
    rcases pick1_some h with ⟨rfl, h⟩ | h
    · exact spec_l1Lines.G6_s _ h
    cases h
  · intro k avs H o h
    try dsimp only at h
    split at h
    · cases h; exact spec_l1Lines.eq _ _
    · cases h

def spec_l1Split.a : FnA (List ByteArray) := ⟨19, [.tmp 2], .row 9 .str, [], [⟨8, [0, 3, 4], [.val, .row 9 .str, .bool], []⟩], fun x H => match x, H with
  | .own 0, [.row 9 .str r] => some r
  | _, _ => none⟩
def spec_l1Split.s : Spec := mkS [.val] (fun k avs H => match avs, H with
  | [.v (.string a0)], [] => some (spec_l1Split.f k a0)
  | _, _ => none) (fun r => (.own 0, [.row 9 .str r]))
def spec_l1Split.E : Env := [((79, []), spec_l1Cut.s)]
def spec_l1Split.G8 (k : Nat) (avs : List AV) (H : List HE) : Option (List ByteArray) := match avs, H with
  | [.v (.string x0), .own 0, .bs false x4], [.row 9 .str x3] => spec_l1Split.p8 k x0 x3 x4
  | _, _ => none
def spec_l1Split.G (k p : Nat) (avs : List AV) (H : List HE) : Option (List ByteArray) := (pick1 8 (spec_l1Split.G8 k avs H) none p)
set_option maxRecDepth 100000 in
theorem spec_l1Split.eq (k : Nat) (a0 : ByteArray) : fromTop Tryz.prog spec_l1Split.E k spec_l1Split.a (spec_l1Split.G k) 1000 (bodyOf Tryz.prog 37) [.v (.string a0)] [] = spec_l1Split.f k a0 := by kernel_rfl
set_option maxRecDepth 100000 in
theorem spec_l1Split.eq8 (k : Nat) (x0 : ByteArray) (x3 : List ByteArray) (x4 : Bool) : fromPt Tryz.prog spec_l1Split.E k spec_l1Split.a (spec_l1Split.G k) 1000 (bodyOf Tryz.prog 37) 8 [.v (.string x0), .own 0, .bs false x4] [.row 9 .str x3] = spec_l1Split.p8 (k + 1) x0 x3 x4 := by kernel_rfl
theorem spec_l1Split.G8_0 {avs : List AV} {H : List HE} : spec_l1Split.G8 0 avs H = none := by unfold spec_l1Split.G8; split <;> rfl
theorem spec_l1Split.G8_s (k : Nat) {avs : List AV} {H : List HE} {x : List ByteArray} (h : spec_l1Split.G8 (k + 1) avs H = some x) : fromPt Tryz.prog spec_l1Split.E k spec_l1Split.a (spec_l1Split.G k) 1000 (bodyOf Tryz.prog 37) 8 avs H = some x := by
  unfold spec_l1Split.G8 at h
  split at h
  · rw [← h]; exact spec_l1Split.eq8 _ _ _ _
  · cases h
theorem spec_l1Split.E_ok : EnvOk Tryz.prog spec_l1Split.E := ⟨⟨spec_l1Cut.sound, callable_of (by kernel_rfl)⟩, trivial⟩
theorem spec_l1Split.sound : Sound Tryz.prog 37 spec_l1Split.s := by
  refine func_sound (f := spec_l1Split.a) (G := spec_l1Split.G) (fn := Tryz.f37) (body := bodyOf Tryz.prog 37) 1000 (by kernel_rfl) spec_l1Split.E_ok Tryz.func37 (by kernel_rfl) (by kernel_rfl) (by kernel_rfl) (ptsOk_of (by kernel_rfl)) ?_ ?_ ?_ ?_
  · intro r H x h
    unfold spec_l1Split.a at h
    simp only at h
    split at h
    · cases h; rfl
    · cases h
  · exact fun q avs H => pick1_none spec_l1Split.G8_0 (rfl)
  · intro k q pt avs H x _ h
    rcases pick1_some h with ⟨rfl, h⟩ | h
    · exact spec_l1Split.G8_s _ h
    cases h
  · intro k avs H o h
    try dsimp only at h
    split at h
    · cases h; exact spec_l1Split.eq _ _
    · cases h

def spec_l1Num_base.a : FnA (Int × Bool) := ⟨78, [.tmp 2, .tmp 3], .tup [.val, .bool], [], [⟨5, [0, 25], [.val, .bool], []⟩, ⟨26, [0, 6, 7], [.val, .val, .val], []⟩], fun x H => match x, H with
  | .tup [.v (.int .i64 r_0), .bs false r_1], [] => some (r_0, r_1)
  | _, _ => none⟩
def spec_l1Num_base.s : Spec := mkS [.val] (fun k avs H => match avs, H with
  | [.v (.string a0)], [] => some (spec_l1Num_base.f k a0)
  | _, _ => none) (fun r => (.tup [.v (.int .i64 r.1), .bs false r.2], []))
def spec_l1Num_base.E : Env := []
def spec_l1Num_base.G5 (k : Nat) (avs : List AV) (H : List HE) : Option (Int × Bool) := match avs, H with
  | [.v (.string x0), .bs false x25], [] => spec_l1Num_base.p5 k x0 x25
  | _, _ => none
def spec_l1Num_base.G26 (k : Nat) (avs : List AV) (H : List HE) : Option (Int × Bool) := match avs, H with
  | [.v (.string x0), .v (.int .i64 x6), .v (.int .i64 x7)], [] => spec_l1Num_base.p26 k x0 x6 x7
  | _, _ => none
def spec_l1Num_base.G (k p : Nat) (avs : List AV) (H : List HE) : Option (Int × Bool) := (pick1 5 (spec_l1Num_base.G5 k avs H) (pick1 26 (spec_l1Num_base.G26 k avs H) none p) p)
set_option maxRecDepth 100000 in
theorem spec_l1Num_base.eq (k : Nat) (a0 : ByteArray) : fromTop Tryz.prog spec_l1Num_base.E k spec_l1Num_base.a (spec_l1Num_base.G k) 1000 (bodyOf Tryz.prog 80) [.v (.string a0)] [] = spec_l1Num_base.f k a0 := by kernel_rfl
set_option maxRecDepth 100000 in
theorem spec_l1Num_base.eq5 (k : Nat) (x0 : ByteArray) (x25 : Bool) : fromPt Tryz.prog spec_l1Num_base.E k spec_l1Num_base.a (spec_l1Num_base.G k) 1000 (bodyOf Tryz.prog 80) 5 [.v (.string x0), .bs false x25] [] = spec_l1Num_base.p5 (k + 1) x0 x25 := by kernel_rfl
theorem spec_l1Num_base.G5_0 {avs : List AV} {H : List HE} : spec_l1Num_base.G5 0 avs H = none := by unfold spec_l1Num_base.G5; split <;> rfl
theorem spec_l1Num_base.G5_s (k : Nat) {avs : List AV} {H : List HE} {x : Int × Bool} (h : spec_l1Num_base.G5 (k + 1) avs H = some x) : fromPt Tryz.prog spec_l1Num_base.E k spec_l1Num_base.a (spec_l1Num_base.G k) 1000 (bodyOf Tryz.prog 80) 5 avs H = some x := by
  unfold spec_l1Num_base.G5 at h
  split at h
  · rw [← h]; exact spec_l1Num_base.eq5 _ _ _
  · cases h
set_option maxRecDepth 100000 in
theorem spec_l1Num_base.eq26 (k : Nat) (x0 : ByteArray) (x6 : Int) (x7 : Int) : fromPt Tryz.prog spec_l1Num_base.E k spec_l1Num_base.a (spec_l1Num_base.G k) 1000 (bodyOf Tryz.prog 80) 26 [.v (.string x0), .v (.int .i64 x6), .v (.int .i64 x7)] [] = spec_l1Num_base.p26 (k + 1) x0 x6 x7 := by kernel_rfl
theorem spec_l1Num_base.G26_0 {avs : List AV} {H : List HE} : spec_l1Num_base.G26 0 avs H = none := by unfold spec_l1Num_base.G26; split <;> rfl
theorem spec_l1Num_base.G26_s (k : Nat) {avs : List AV} {H : List HE} {x : Int × Bool} (h : spec_l1Num_base.G26 (k + 1) avs H = some x) : fromPt Tryz.prog spec_l1Num_base.E k spec_l1Num_base.a (spec_l1Num_base.G k) 1000 (bodyOf Tryz.prog 80) 26 avs H = some x := by
  unfold spec_l1Num_base.G26 at h
  split at h
  · rw [← h]; exact spec_l1Num_base.eq26 _ _ _ _
  · cases h
theorem spec_l1Num_base.E_ok : EnvOk Tryz.prog spec_l1Num_base.E := trivial
theorem spec_l1Num_base.sound : Sound Tryz.prog 80 spec_l1Num_base.s := by
  refine func_sound (f := spec_l1Num_base.a) (G := spec_l1Num_base.G) (fn := Tryz.f80) (body := bodyOf Tryz.prog 80) 1000 (by kernel_rfl) spec_l1Num_base.E_ok Tryz.func80 (by kernel_rfl) (by kernel_rfl) (by kernel_rfl) (ptsOk_of (by kernel_rfl)) ?_ ?_ ?_ ?_
  · intro r H x h
    unfold spec_l1Num_base.a at h
    simp only at h
    split at h
    · cases h; rfl
    · cases h
  · exact fun q avs H => pick1_none spec_l1Num_base.G5_0 (pick1_none spec_l1Num_base.G26_0 (rfl))
  · intro k q pt avs H x _ h
    rcases pick1_some h with ⟨rfl, h⟩ | h
    · exact spec_l1Num_base.G5_s _ h
    rcases pick1_some h with ⟨rfl, h⟩ | h
    · exact spec_l1Num_base.G26_s _ h
    cases h
  · intro k avs H o h
    try dsimp only at h
    split at h
    · cases h; exact spec_l1Num_base.eq _ _
    · cases h

def spec_l1Num.a : FnA (Int × Bool) := ⟨78, [.tmp 2, .tmp 3], .tup [.val, .bool], [], [⟨5, [0, 25], [.val, .bool], []⟩, ⟨26, [0, 6, 7], [.val, .val, .val], []⟩], fun x H => match x, H with
  | .tup [.v (.int .i64 r_0), .bs false r_1], [] => some (r_0, r_1)
  | _, _ => none⟩
def spec_l1Num.s : Spec := mkS [.val] (fun k avs H => match avs, H with
  | [.v (.string a0)], [] => some (spec_l1Num.f k a0)
  | _, _ => none) (fun r => (.tup [.v (.int .i64 r.1), .bs false r.2], []))
def spec_l1Num.E : Env := [((80, []), spec_l1Num_base.s)]
def spec_l1Num.G5 (k : Nat) (avs : List AV) (H : List HE) : Option (Int × Bool) := match avs, H with
  | [.v (.string x0), .bs false x25], [] => spec_l1Num.p5 k x0 x25
  | _, _ => none
def spec_l1Num.G26 (k : Nat) (avs : List AV) (H : List HE) : Option (Int × Bool) := match avs, H with
  | [.v (.string x0), .v (.int .i64 x6), .v (.int .i64 x7)], [] => spec_l1Num.p26 k x0 x6 x7
  | _, _ => none
def spec_l1Num.G (k p : Nat) (avs : List AV) (H : List HE) : Option (Int × Bool) := (pick1 5 (spec_l1Num.G5 k avs H) (pick1 26 (spec_l1Num.G26 k avs H) none p) p)
set_option maxRecDepth 100000 in
theorem spec_l1Num.eq (k : Nat) (a0 : ByteArray) : fromTop Tryz.prog spec_l1Num.E k spec_l1Num.a (spec_l1Num.G k) 1000 (bodyOf Tryz.prog 80) [.v (.string a0)] [] = spec_l1Num.f k a0 := by kernel_rfl
set_option maxRecDepth 100000 in
theorem spec_l1Num.eq5 (k : Nat) (x0 : ByteArray) (x25 : Bool) : fromPt Tryz.prog spec_l1Num.E k spec_l1Num.a (spec_l1Num.G k) 1000 (bodyOf Tryz.prog 80) 5 [.v (.string x0), .bs false x25] [] = spec_l1Num.p5 (k + 1) x0 x25 := by kernel_rfl
theorem spec_l1Num.G5_0 {avs : List AV} {H : List HE} : spec_l1Num.G5 0 avs H = none := by unfold spec_l1Num.G5; split <;> rfl
theorem spec_l1Num.G5_s (k : Nat) {avs : List AV} {H : List HE} {x : Int × Bool} (h : spec_l1Num.G5 (k + 1) avs H = some x) : fromPt Tryz.prog spec_l1Num.E k spec_l1Num.a (spec_l1Num.G k) 1000 (bodyOf Tryz.prog 80) 5 avs H = some x := by
  unfold spec_l1Num.G5 at h
  split at h
  · rw [← h]; exact spec_l1Num.eq5 _ _ _
  · cases h
set_option maxRecDepth 100000 in
theorem spec_l1Num.eq26 (k : Nat) (x0 : ByteArray) (x6 : Int) (x7 : Int) : fromPt Tryz.prog spec_l1Num.E k spec_l1Num.a (spec_l1Num.G k) 1000 (bodyOf Tryz.prog 80) 26 [.v (.string x0), .v (.int .i64 x6), .v (.int .i64 x7)] [] = spec_l1Num.p26 (k + 1) x0 x6 x7 := by kernel_rfl
theorem spec_l1Num.G26_0 {avs : List AV} {H : List HE} : spec_l1Num.G26 0 avs H = none := by unfold spec_l1Num.G26; split <;> rfl
theorem spec_l1Num.G26_s (k : Nat) {avs : List AV} {H : List HE} {x : Int × Bool} (h : spec_l1Num.G26 (k + 1) avs H = some x) : fromPt Tryz.prog spec_l1Num.E k spec_l1Num.a (spec_l1Num.G k) 1000 (bodyOf Tryz.prog 80) 26 avs H = some x := by
  unfold spec_l1Num.G26 at h
  split at h
  · rw [← h]; exact spec_l1Num.eq26 _ _ _ _
  · cases h
theorem spec_l1Num.E_ok : EnvOk Tryz.prog spec_l1Num.E := ⟨⟨spec_l1Num_base.sound, callable_of (by kernel_rfl)⟩, trivial⟩
theorem spec_l1Num.sound : Sound Tryz.prog 80 spec_l1Num.s := by
  refine func_sound (f := spec_l1Num.a) (G := spec_l1Num.G) (fn := Tryz.f80) (body := bodyOf Tryz.prog 80) 1000 (by kernel_rfl) spec_l1Num.E_ok Tryz.func80 (by kernel_rfl) (by kernel_rfl) (by kernel_rfl) (ptsOk_of (by kernel_rfl)) ?_ ?_ ?_ ?_
  · intro r H x h
    unfold spec_l1Num.a at h
    simp only at h
    split at h
    · cases h; rfl
    · cases h
  · exact fun q avs H => pick1_none spec_l1Num.G5_0 (pick1_none spec_l1Num.G26_0 (rfl))
  · intro k q pt avs H x _ h
    rcases pick1_some h with ⟨rfl, h⟩ | h
    · exact spec_l1Num.G5_s _ h
    rcases pick1_some h with ⟨rfl, h⟩ | h
    · exact spec_l1Num.G26_s _ h
    cases h
  · intro k avs H o h
    try dsimp only at h
    split at h
    · cases h; exact spec_l1Num.eq _ _
    · cases h

def spec_l7Nums.a : FnA (List Int) := ⟨27, [.tmp 2], .row 2 (.int .i64), [], [⟨8, [0, 3, 4], [.con .str, .row 2 (.int .i64), .val], []⟩], fun x H => match x, H with
  | .own 0, [.row 2 (.int .i64) r] => some r
  | _, _ => none⟩
def spec_l7Nums.s : Spec := mkS [.con .str] (fun k avs H => match avs, H with
  | [.con .str a0], [] => some (spec_l7Nums.f k a0)
  | _, _ => none) (fun r => (.own 0, [.row 2 (.int .i64) r]))
def spec_l7Nums.E : Env := [((80, []), spec_l1Num.s)]
def spec_l7Nums.G8 (k : Nat) (avs : List AV) (H : List HE) : Option (List Int) := match avs, H with
  | [.con .str x0, .own 0, .v (.int .i64 x4)], [.row 2 (.int .i64) x3] => spec_l7Nums.p8 k x0 x3 x4
  | _, _ => none
def spec_l7Nums.G (k p : Nat) (avs : List AV) (H : List HE) : Option (List Int) := (pick1 8 (spec_l7Nums.G8 k avs H) none p)
set_option maxRecDepth 100000 in
theorem spec_l7Nums.eq (k : Nat) (a0 : List ByteArray) : fromTop Tryz.prog spec_l7Nums.E k spec_l7Nums.a (spec_l7Nums.G k) 1000 (bodyOf Tryz.prog 36) [.con .str a0] [] = spec_l7Nums.f k a0 := by kernel_rfl
set_option maxRecDepth 100000 in
theorem spec_l7Nums.eq8 (k : Nat) (x0 : List ByteArray) (x3 : List Int) (x4 : Int) : fromPt Tryz.prog spec_l7Nums.E k spec_l7Nums.a (spec_l7Nums.G k) 1000 (bodyOf Tryz.prog 36) 8 [.con .str x0, .own 0, .v (.int .i64 x4)] [.row 2 (.int .i64) x3] = spec_l7Nums.p8 (k + 1) x0 x3 x4 := by kernel_rfl
theorem spec_l7Nums.G8_0 {avs : List AV} {H : List HE} : spec_l7Nums.G8 0 avs H = none := by unfold spec_l7Nums.G8; split <;> rfl
theorem spec_l7Nums.G8_s (k : Nat) {avs : List AV} {H : List HE} {x : List Int} (h : spec_l7Nums.G8 (k + 1) avs H = some x) : fromPt Tryz.prog spec_l7Nums.E k spec_l7Nums.a (spec_l7Nums.G k) 1000 (bodyOf Tryz.prog 36) 8 avs H = some x := by
  unfold spec_l7Nums.G8 at h
  split at h
  · rw [← h]; exact spec_l7Nums.eq8 _ _ _ _
  · cases h
theorem spec_l7Nums.E_ok : EnvOk Tryz.prog spec_l7Nums.E := ⟨⟨spec_l1Num.sound, callable_of (by kernel_rfl)⟩, trivial⟩
theorem spec_l7Nums.sound : Sound Tryz.prog 36 spec_l7Nums.s := by
  refine func_sound (f := spec_l7Nums.a) (G := spec_l7Nums.G) (fn := Tryz.f36) (body := bodyOf Tryz.prog 36) 1000 (by kernel_rfl) spec_l7Nums.E_ok Tryz.func36 (by kernel_rfl) (by kernel_rfl) (by kernel_rfl) (ptsOk_of (by kernel_rfl)) ?_ ?_ ?_ ?_
  · intro r H x h
    unfold spec_l7Nums.a at h
    simp only at h
    split at h
    · cases h; rfl
    · cases h
  · exact fun q avs H => pick1_none spec_l7Nums.G8_0 (rfl)
  · intro k q pt avs H x _ h
    rcases pick1_some h with ⟨rfl, h⟩ | h
    · exact spec_l7Nums.G8_s _ h
    cases h
  · intro k avs H o h
    try dsimp only at h
    split at h
    · cases h; exact spec_l7Nums.eq _ _
    · cases h

def spec_l1In.a : FnA (Bool) := ⟨15, [.tmp 6], .bool, [], [], fun x H => match x, H with
  | .bs false r, [] => some r
  | _, _ => none⟩
def spec_l1In.s : Spec := mkS [.val, .val, .val] (fun k avs H => match avs, H with
  | [.v (.int .i64 a0), .v (.int .i64 a1), .v (.int .i64 a2)], [] => some (spec_l1In.f a0 a1 a2)
  | _, _ => none) (fun r => (.bs false r, []))
def spec_l1In.E : Env := []
def spec_l1In.G (k p : Nat) (avs : List AV) (H : List HE) : Option (Bool) := none
set_option maxRecDepth 100000 in
theorem spec_l1In.eq (k : Nat) (a0 : Int) (a1 : Int) (a2 : Int) : fromTop Tryz.prog spec_l1In.E k spec_l1In.a (spec_l1In.G k) 1000 (bodyOf Tryz.prog 60) [.v (.int .i64 a0), .v (.int .i64 a1), .v (.int .i64 a2)] [] = spec_l1In.f a0 a1 a2 := by kernel_rfl
theorem spec_l1In.E_ok : EnvOk Tryz.prog spec_l1In.E := trivial
theorem spec_l1In.sound : Sound Tryz.prog 60 spec_l1In.s := by
  refine func_sound (f := spec_l1In.a) (G := spec_l1In.G) (fn := Tryz.f60) (body := bodyOf Tryz.prog 60) 1000 (by kernel_rfl) spec_l1In.E_ok Tryz.func60 (by kernel_rfl) (by kernel_rfl) (by kernel_rfl) (ptsOk_of (by kernel_rfl)) ?_ ?_ ?_ ?_
  · intro r H x h
    unfold spec_l1In.a at h
    simp only at h
    split at h
    · cases h; rfl
    · cases h
  · intro q avs H; rfl
  · intro k q pt avs H x _ h; cases h
  · intro k avs H o h
    try dsimp only at h
    split at h
    · cases h; exact spec_l1In.eq _ _ _ _
    · cases h

def spec_l3Type.a : FnA (Bool) := ⟨23, [.tmp 2], .bool, [], [⟨6, [0, 3], [.val, .val], []⟩], fun x H => match x, H with
  | .bs false r, [] => some r
  | _, _ => none⟩
def spec_l3Type.s : Spec := mkS [.val] (fun k avs H => match avs, H with
  | [.v (.string a0)], [] => some (spec_l3Type.f k a0)
  | _, _ => none) (fun r => (.bs false r, []))
def spec_l3Type.E : Env := [((60, []), spec_l1In.s)]
def spec_l3Type.G6 (k : Nat) (avs : List AV) (H : List HE) : Option (Bool) := match avs, H with
  | [.v (.string x0), .v (.int .i64 x3)], [] => spec_l3Type.p6 k x0 x3
  | _, _ => none
def spec_l3Type.G (k p : Nat) (avs : List AV) (H : List HE) : Option (Bool) := (pick1 6 (spec_l3Type.G6 k avs H) none p)
set_option maxRecDepth 100000 in
theorem spec_l3Type.eq (k : Nat) (a0 : ByteArray) : fromTop Tryz.prog spec_l3Type.E k spec_l3Type.a (spec_l3Type.G k) 1000 (bodyOf Tryz.prog 123) [.v (.string a0)] [] = spec_l3Type.f k a0 := by kernel_rfl
set_option maxRecDepth 100000 in
theorem spec_l3Type.eq6 (k : Nat) (x0 : ByteArray) (x3 : Int) : fromPt Tryz.prog spec_l3Type.E k spec_l3Type.a (spec_l3Type.G k) 1000 (bodyOf Tryz.prog 123) 6 [.v (.string x0), .v (.int .i64 x3)] [] = spec_l3Type.p6 (k + 1) x0 x3 := by kernel_rfl
theorem spec_l3Type.G6_0 {avs : List AV} {H : List HE} : spec_l3Type.G6 0 avs H = none := by unfold spec_l3Type.G6; split <;> rfl
theorem spec_l3Type.G6_s (k : Nat) {avs : List AV} {H : List HE} {x : Bool} (h : spec_l3Type.G6 (k + 1) avs H = some x) : fromPt Tryz.prog spec_l3Type.E k spec_l3Type.a (spec_l3Type.G k) 1000 (bodyOf Tryz.prog 123) 6 avs H = some x := by
  unfold spec_l3Type.G6 at h
  split at h
  · rw [← h]; exact spec_l3Type.eq6 _ _ _
  · cases h
theorem spec_l3Type.E_ok : EnvOk Tryz.prog spec_l3Type.E := ⟨⟨spec_l1In.sound, callable_of (by kernel_rfl)⟩, trivial⟩
theorem spec_l3Type.sound : Sound Tryz.prog 123 spec_l3Type.s := by
  refine func_sound (f := spec_l3Type.a) (G := spec_l3Type.G) (fn := Tryz.f123) (body := bodyOf Tryz.prog 123) 1000 (by kernel_rfl) spec_l3Type.E_ok Tryz.func123 (by kernel_rfl) (by kernel_rfl) (by kernel_rfl) (ptsOk_of (by kernel_rfl)) ?_ ?_ ?_ ?_
  · intro r H x h
    unfold spec_l3Type.a at h
    simp only at h
    split at h
    · cases h; rfl
    · cases h
  · exact fun q avs H => pick1_none spec_l3Type.G6_0 (rfl)
  · intro k q pt avs H x _ h
    rcases pick1_some h with ⟨rfl, h⟩ | h
    · exact spec_l3Type.G6_s _ h
    cases h
  · intro k avs H o h
    try dsimp only at h
    split at h
    · cases h; exact spec_l3Type.eq _ _
    · cases h

def spec_TypesOk.a : FnA (Bool) := ⟨20, [.tmp 2], .bool, [], [⟨14, [0, 3], [.con .str, .val], []⟩], fun x H => match x, H with
  | .bs false r, [] => some r
  | _, _ => none⟩
def spec_TypesOk.s : Spec := mkS [.con .str] (fun k avs H => match avs, H with
  | [.con .str a0], [] => some (spec_TypesOk.f k a0)
  | _, _ => none) (fun r => (.bs false r, []))
def spec_TypesOk.E : Env := [((60, []), spec_l1In.s), ((123, []), spec_l3Type.s)]
def spec_TypesOk.G14 (k : Nat) (avs : List AV) (H : List HE) : Option (Bool) := match avs, H with
  | [.con .str x0, .v (.int .i64 x3)], [] => spec_TypesOk.p14 k x0 x3
  | _, _ => none
def spec_TypesOk.G (k p : Nat) (avs : List AV) (H : List HE) : Option (Bool) := (pick1 14 (spec_TypesOk.G14 k avs H) none p)
set_option maxRecDepth 100000 in
theorem spec_TypesOk.eq (k : Nat) (a0 : List ByteArray) : fromTop Tryz.prog spec_TypesOk.E k spec_TypesOk.a (spec_TypesOk.G k) 1000 (bodyOf Tryz.prog 98) [.con .str a0] [] = spec_TypesOk.f k a0 := by kernel_rfl
set_option maxRecDepth 100000 in
theorem spec_TypesOk.eq14 (k : Nat) (x0 : List ByteArray) (x3 : Int) : fromPt Tryz.prog spec_TypesOk.E k spec_TypesOk.a (spec_TypesOk.G k) 1000 (bodyOf Tryz.prog 98) 14 [.con .str x0, .v (.int .i64 x3)] [] = spec_TypesOk.p14 (k + 1) x0 x3 := by kernel_rfl
theorem spec_TypesOk.G14_0 {avs : List AV} {H : List HE} : spec_TypesOk.G14 0 avs H = none := by unfold spec_TypesOk.G14; split <;> rfl
theorem spec_TypesOk.G14_s (k : Nat) {avs : List AV} {H : List HE} {x : Bool} (h : spec_TypesOk.G14 (k + 1) avs H = some x) : fromPt Tryz.prog spec_TypesOk.E k spec_TypesOk.a (spec_TypesOk.G k) 1000 (bodyOf Tryz.prog 98) 14 avs H = some x := by
  unfold spec_TypesOk.G14 at h
  split at h
  · rw [← h]; exact spec_TypesOk.eq14 _ _ _
  · cases h
theorem spec_TypesOk.E_ok : EnvOk Tryz.prog spec_TypesOk.E := ⟨⟨spec_l1In.sound, callable_of (by kernel_rfl)⟩, ⟨spec_l3Type.sound, callable_of (by kernel_rfl)⟩, trivial⟩
theorem spec_TypesOk.sound : Sound Tryz.prog 98 spec_TypesOk.s := by
  refine func_sound (f := spec_TypesOk.a) (G := spec_TypesOk.G) (fn := Tryz.f98) (body := bodyOf Tryz.prog 98) 1000 (by kernel_rfl) spec_TypesOk.E_ok Tryz.func98 (by kernel_rfl) (by kernel_rfl) (by kernel_rfl) (ptsOk_of (by kernel_rfl)) ?_ ?_ ?_ ?_
  · intro r H x h
    unfold spec_TypesOk.a at h
    simp only at h
    split at h
    · cases h; rfl
    · cases h
  · exact fun q avs H => pick1_none spec_TypesOk.G14_0 (rfl)
  · intro k q pt avs H x _ h
    rcases pick1_some h with ⟨rfl, h⟩ | h
    · exact spec_TypesOk.G14_s _ h
    cases h
  · intro k avs H o h
    try dsimp only at h
    split at h
    · cases h; exact spec_TypesOk.eq _ _
    · cases h

def spec_GraphOk.a : FnA (Bool) := ⟨99, [.tmp 4], .bool, [], [⟨16, [0, 3, 5, 6], [.con .str, .box [.con (.int .i64), .con (.pair (.int .i64) (.sl (.int .i64)))], .val, .val], []⟩, ⟨37, [0, 3, 5, 7], [.con .str, .box [.con (.int .i64), .con (.pair (.int .i64) (.sl (.int .i64)))], .val, .val], []⟩, ⟨59, [0, 3, 5, 7, 8, 9], [.con .str, .box [.con (.int .i64), .con (.pair (.int .i64) (.sl (.int .i64)))], .val, .val, .box [.val, .con (.int .i64)], .val], []⟩], fun x H => match x, H with
  | .bs false r, [] => some r
  | _, _ => none⟩
def spec_GraphOk.s : Spec := mkS [.con .str, .agg [.con (.int .i64), .con (.pair (.int .i64) (.sl (.int .i64)))]] (fun k avs H => match avs, H with
  | [.con .str a0, .agg [.con (.int .i64) a1_0, .con (.pair (.int .i64) (.sl (.int .i64))) a1_1]], [] => some (spec_GraphOk.f k a0 a1_0 a1_1)
  | _, _ => none) (fun r => (.bs false r, []))
def spec_GraphOk.E : Env := [((98, []), spec_TypesOk.s), ((60, []), spec_l1In.s)]
def spec_GraphOk.G16 (k : Nat) (avs : List AV) (H : List HE) : Option (Bool) := match avs, H with
  | [.con .str x0, .box 0 0, .v (.int .i64 x5), .v (.int .i64 x6)], [.box [.con (.int .i64) x3_0, .con (.pair (.int .i64) (.sl (.int .i64))) x3_1]] => spec_GraphOk.p16 k x0 x3_0 x3_1 x5 x6
  | _, _ => none
def spec_GraphOk.G37 (k : Nat) (avs : List AV) (H : List HE) : Option (Bool) := match avs, H with
  | [.con .str x0, .box 0 0, .v (.int .i64 x5), .v (.int .i64 x7)], [.box [.con (.int .i64) x3_0, .con (.pair (.int .i64) (.sl (.int .i64))) x3_1]] => spec_GraphOk.p37 k x0 x3_0 x3_1 x5 x7
  | _, _ => none
def spec_GraphOk.G59 (k : Nat) (avs : List AV) (H : List HE) : Option (Bool) := match avs, H with
  | [.con .str x0, .box 0 0, .v (.int .i64 x5), .v (.int .i64 x7), .box 1 0, .v (.int .i64 x9)], [.box [.con (.int .i64) x3_0, .con (.pair (.int .i64) (.sl (.int .i64))) x3_1], .box [.v (.int .i64 x8_0), .con (.int .i64) x8_1]] => spec_GraphOk.p59 k x0 x3_0 x3_1 x5 x7 x8_0 x8_1 x9
  | _, _ => none
def spec_GraphOk.G (k p : Nat) (avs : List AV) (H : List HE) : Option (Bool) := (pick1 16 (spec_GraphOk.G16 k avs H) (pick1 37 (spec_GraphOk.G37 k avs H) (pick1 59 (spec_GraphOk.G59 k avs H) none p) p) p)
set_option maxRecDepth 100000 in
theorem spec_GraphOk.eq (k : Nat) (a0 : List ByteArray) (a1_0 : List Int) (a1_1 : List (Int × List Int)) : fromTop Tryz.prog spec_GraphOk.E k spec_GraphOk.a (spec_GraphOk.G k) 1000 (bodyOf Tryz.prog 59) [.con .str a0, .agg [.con (.int .i64) a1_0, .con (.pair (.int .i64) (.sl (.int .i64))) a1_1]] [] = spec_GraphOk.f k a0 a1_0 a1_1 := by kernel_rfl
set_option maxRecDepth 100000 in
theorem spec_GraphOk.eq16 (k : Nat) (x0 : List ByteArray) (x3_0 : List Int) (x3_1 : List (Int × List Int)) (x5 : Int) (x6 : Int) : fromPt Tryz.prog spec_GraphOk.E k spec_GraphOk.a (spec_GraphOk.G k) 1000 (bodyOf Tryz.prog 59) 16 [.con .str x0, .box 0 0, .v (.int .i64 x5), .v (.int .i64 x6)] [.box [.con (.int .i64) x3_0, .con (.pair (.int .i64) (.sl (.int .i64))) x3_1]] = spec_GraphOk.p16 (k + 1) x0 x3_0 x3_1 x5 x6 := by kernel_rfl
theorem spec_GraphOk.G16_0 {avs : List AV} {H : List HE} : spec_GraphOk.G16 0 avs H = none := by unfold spec_GraphOk.G16; split <;> rfl
theorem spec_GraphOk.G16_s (k : Nat) {avs : List AV} {H : List HE} {x : Bool} (h : spec_GraphOk.G16 (k + 1) avs H = some x) : fromPt Tryz.prog spec_GraphOk.E k spec_GraphOk.a (spec_GraphOk.G k) 1000 (bodyOf Tryz.prog 59) 16 avs H = some x := by
  unfold spec_GraphOk.G16 at h
  split at h
  · rw [← h]; exact spec_GraphOk.eq16 _ _ _ _ _ _
  · cases h
set_option maxRecDepth 100000 in
theorem spec_GraphOk.eq37 (k : Nat) (x0 : List ByteArray) (x3_0 : List Int) (x3_1 : List (Int × List Int)) (x5 : Int) (x7 : Int) : fromPt Tryz.prog spec_GraphOk.E k spec_GraphOk.a (spec_GraphOk.G k) 1000 (bodyOf Tryz.prog 59) 37 [.con .str x0, .box 0 0, .v (.int .i64 x5), .v (.int .i64 x7)] [.box [.con (.int .i64) x3_0, .con (.pair (.int .i64) (.sl (.int .i64))) x3_1]] = spec_GraphOk.p37 (k + 1) x0 x3_0 x3_1 x5 x7 := by kernel_rfl
theorem spec_GraphOk.G37_0 {avs : List AV} {H : List HE} : spec_GraphOk.G37 0 avs H = none := by unfold spec_GraphOk.G37; split <;> rfl
theorem spec_GraphOk.G37_s (k : Nat) {avs : List AV} {H : List HE} {x : Bool} (h : spec_GraphOk.G37 (k + 1) avs H = some x) : fromPt Tryz.prog spec_GraphOk.E k spec_GraphOk.a (spec_GraphOk.G k) 1000 (bodyOf Tryz.prog 59) 37 avs H = some x := by
  unfold spec_GraphOk.G37 at h
  split at h
  · rw [← h]; exact spec_GraphOk.eq37 _ _ _ _ _ _
  · cases h
set_option maxRecDepth 100000 in
theorem spec_GraphOk.eq59 (k : Nat) (x0 : List ByteArray) (x3_0 : List Int) (x3_1 : List (Int × List Int)) (x5 : Int) (x7 : Int) (x8_0 : Int) (x8_1 : List Int) (x9 : Int) : fromPt Tryz.prog spec_GraphOk.E k spec_GraphOk.a (spec_GraphOk.G k) 1000 (bodyOf Tryz.prog 59) 59 [.con .str x0, .box 0 0, .v (.int .i64 x5), .v (.int .i64 x7), .box 1 0, .v (.int .i64 x9)] [.box [.con (.int .i64) x3_0, .con (.pair (.int .i64) (.sl (.int .i64))) x3_1], .box [.v (.int .i64 x8_0), .con (.int .i64) x8_1]] = spec_GraphOk.p59 (k + 1) x0 x3_0 x3_1 x5 x7 x8_0 x8_1 x9 := by kernel_rfl
theorem spec_GraphOk.G59_0 {avs : List AV} {H : List HE} : spec_GraphOk.G59 0 avs H = none := by unfold spec_GraphOk.G59; split <;> rfl
theorem spec_GraphOk.G59_s (k : Nat) {avs : List AV} {H : List HE} {x : Bool} (h : spec_GraphOk.G59 (k + 1) avs H = some x) : fromPt Tryz.prog spec_GraphOk.E k spec_GraphOk.a (spec_GraphOk.G k) 1000 (bodyOf Tryz.prog 59) 59 avs H = some x := by
  unfold spec_GraphOk.G59 at h
  split at h
  · rw [← h]; exact spec_GraphOk.eq59 _ _ _ _ _ _ _ _ _
  · cases h
theorem spec_GraphOk.E_ok : EnvOk Tryz.prog spec_GraphOk.E := ⟨⟨spec_TypesOk.sound, callable_of (by kernel_rfl)⟩, ⟨spec_l1In.sound, callable_of (by kernel_rfl)⟩, trivial⟩
theorem spec_GraphOk.sound : Sound Tryz.prog 59 spec_GraphOk.s := by
  refine func_sound (f := spec_GraphOk.a) (G := spec_GraphOk.G) (fn := Tryz.f59) (body := bodyOf Tryz.prog 59) 1000 (by kernel_rfl) spec_GraphOk.E_ok Tryz.func59 (by kernel_rfl) (by kernel_rfl) (by kernel_rfl) (ptsOk_of (by kernel_rfl)) ?_ ?_ ?_ ?_
  · intro r H x h
    unfold spec_GraphOk.a at h
    simp only at h
    split at h
    · cases h; rfl
    · cases h
  · exact fun q avs H => pick1_none spec_GraphOk.G16_0 (pick1_none spec_GraphOk.G37_0 (pick1_none spec_GraphOk.G59_0 (rfl)))
  · intro k q pt avs H x _ h
    rcases pick1_some h with ⟨rfl, h⟩ | h
    · exact spec_GraphOk.G16_s _ h
    rcases pick1_some h with ⟨rfl, h⟩ | h
    · exact spec_GraphOk.G37_s _ h
    rcases pick1_some h with ⟨rfl, h⟩ | h
    · exact spec_GraphOk.G59_s _ h
    cases h
  · intro k avs H o h
    try dsimp only at h
    split at h
    · cases h; exact spec_GraphOk.eq _ _ _ _
    · cases h

def spec_l1Dec_base.a : FnA (ByteArray) := ⟨29, [.tmp 2], .val, [], [⟨14, [0, 3], [.val, .val], []⟩], fun x H => match x, H with
  | .v (.string r), [] => some r
  | _, _ => none⟩
def spec_l1Dec_base.s : Spec := mkS [.val] (fun k avs H => match avs, H with
  | [.v (.int .i64 a0)], [] => some (spec_l1Dec_base.f k a0)
  | _, _ => none) (fun r => (.v (.string r), []))
def spec_l1Dec_base.E : Env := []
def spec_l1Dec_base.G14 (k : Nat) (avs : List AV) (H : List HE) : Option (ByteArray) := match avs, H with
  | [.v (.int .i64 x0), .v (.string x3)], [] => spec_l1Dec_base.p14 k x0 x3
  | _, _ => none
def spec_l1Dec_base.G (k p : Nat) (avs : List AV) (H : List HE) : Option (ByteArray) := (pick1 14 (spec_l1Dec_base.G14 k avs H) none p)
set_option maxRecDepth 100000 in
theorem spec_l1Dec_base.eq (k : Nat) (a0 : Int) : fromTop Tryz.prog spec_l1Dec_base.E k spec_l1Dec_base.a (spec_l1Dec_base.G k) 1000 (bodyOf Tryz.prog 99) [.v (.int .i64 a0)] [] = spec_l1Dec_base.f k a0 := by kernel_rfl
set_option maxRecDepth 100000 in
theorem spec_l1Dec_base.eq14 (k : Nat) (x0 : Int) (x3 : ByteArray) : fromPt Tryz.prog spec_l1Dec_base.E k spec_l1Dec_base.a (spec_l1Dec_base.G k) 1000 (bodyOf Tryz.prog 99) 14 [.v (.int .i64 x0), .v (.string x3)] [] = spec_l1Dec_base.p14 (k + 1) x0 x3 := by kernel_rfl
theorem spec_l1Dec_base.G14_0 {avs : List AV} {H : List HE} : spec_l1Dec_base.G14 0 avs H = none := by unfold spec_l1Dec_base.G14; split <;> rfl
theorem spec_l1Dec_base.G14_s (k : Nat) {avs : List AV} {H : List HE} {x : ByteArray} (h : spec_l1Dec_base.G14 (k + 1) avs H = some x) : fromPt Tryz.prog spec_l1Dec_base.E k spec_l1Dec_base.a (spec_l1Dec_base.G k) 1000 (bodyOf Tryz.prog 99) 14 avs H = some x := by
  unfold spec_l1Dec_base.G14 at h
  split at h
  · rw [← h]; exact spec_l1Dec_base.eq14 _ _ _
  · cases h
theorem spec_l1Dec_base.E_ok : EnvOk Tryz.prog spec_l1Dec_base.E := trivial
theorem spec_l1Dec_base.sound : Sound Tryz.prog 99 spec_l1Dec_base.s := by
  refine func_sound (f := spec_l1Dec_base.a) (G := spec_l1Dec_base.G) (fn := Tryz.f99) (body := bodyOf Tryz.prog 99) 1000 (by kernel_rfl) spec_l1Dec_base.E_ok Tryz.func99 (by kernel_rfl) (by kernel_rfl) (by kernel_rfl) (ptsOk_of (by kernel_rfl)) ?_ ?_ ?_ ?_
  · intro r H x h
    unfold spec_l1Dec_base.a at h
    simp only at h
    split at h
    · cases h; rfl
    · cases h
  · exact fun q avs H => pick1_none spec_l1Dec_base.G14_0 (rfl)
  · intro k q pt avs H x _ h
    rcases pick1_some h with ⟨rfl, h⟩ | h
    · exact spec_l1Dec_base.G14_s _ h
    cases h
  · intro k avs H o h
    try dsimp only at h
    split at h
    · cases h; exact spec_l1Dec_base.eq _ _
    · cases h

def spec_l1Dec.a : FnA (ByteArray) := ⟨29, [.tmp 2], .val, [], [⟨14, [0, 3], [.val, .val], []⟩], fun x H => match x, H with
  | .v (.string r), [] => some r
  | _, _ => none⟩
def spec_l1Dec.s : Spec := mkS [.val] (fun k avs H => match avs, H with
  | [.v (.int .i64 a0)], [] => some (spec_l1Dec.f k a0)
  | _, _ => none) (fun r => (.v (.string r), []))
def spec_l1Dec.E : Env := [((99, []), spec_l1Dec_base.s)]
def spec_l1Dec.G14 (k : Nat) (avs : List AV) (H : List HE) : Option (ByteArray) := match avs, H with
  | [.v (.int .i64 x0), .v (.string x3)], [] => spec_l1Dec.p14 k x0 x3
  | _, _ => none
def spec_l1Dec.G (k p : Nat) (avs : List AV) (H : List HE) : Option (ByteArray) := (pick1 14 (spec_l1Dec.G14 k avs H) none p)
set_option maxRecDepth 100000 in
theorem spec_l1Dec.eq (k : Nat) (a0 : Int) : fromTop Tryz.prog spec_l1Dec.E k spec_l1Dec.a (spec_l1Dec.G k) 1000 (bodyOf Tryz.prog 99) [.v (.int .i64 a0)] [] = spec_l1Dec.f k a0 := by kernel_rfl
set_option maxRecDepth 100000 in
theorem spec_l1Dec.eq14 (k : Nat) (x0 : Int) (x3 : ByteArray) : fromPt Tryz.prog spec_l1Dec.E k spec_l1Dec.a (spec_l1Dec.G k) 1000 (bodyOf Tryz.prog 99) 14 [.v (.int .i64 x0), .v (.string x3)] [] = spec_l1Dec.p14 (k + 1) x0 x3 := by kernel_rfl
theorem spec_l1Dec.G14_0 {avs : List AV} {H : List HE} : spec_l1Dec.G14 0 avs H = none := by unfold spec_l1Dec.G14; split <;> rfl
theorem spec_l1Dec.G14_s (k : Nat) {avs : List AV} {H : List HE} {x : ByteArray} (h : spec_l1Dec.G14 (k + 1) avs H = some x) : fromPt Tryz.prog spec_l1Dec.E k spec_l1Dec.a (spec_l1Dec.G k) 1000 (bodyOf Tryz.prog 99) 14 avs H = some x := by
  unfold spec_l1Dec.G14 at h
  split at h
  · rw [← h]; exact spec_l1Dec.eq14 _ _ _
  · cases h
theorem spec_l1Dec.E_ok : EnvOk Tryz.prog spec_l1Dec.E := ⟨⟨spec_l1Dec_base.sound, callable_of (by kernel_rfl)⟩, trivial⟩
theorem spec_l1Dec.sound : Sound Tryz.prog 99 spec_l1Dec.s := by
  refine func_sound (f := spec_l1Dec.a) (G := spec_l1Dec.G) (fn := Tryz.f99) (body := bodyOf Tryz.prog 99) 1000 (by kernel_rfl) spec_l1Dec.E_ok Tryz.func99 (by kernel_rfl) (by kernel_rfl) (by kernel_rfl) (ptsOk_of (by kernel_rfl)) ?_ ?_ ?_ ?_
  · intro r H x h
    unfold spec_l1Dec.a at h
    simp only at h
    split at h
    · cases h; rfl
    · cases h
  · exact fun q avs H => pick1_none spec_l1Dec.G14_0 (rfl)
  · intro k q pt avs H x _ h
    rcases pick1_some h with ⟨rfl, h⟩ | h
    · exact spec_l1Dec.G14_s _ h
    cases h
  · intro k avs H o h
    try dsimp only at h
    split at h
    · cases h; exact spec_l1Dec.eq _ _
    · cases h

def spec_l7Text.a : FnA (ByteArray) := ⟨74, [.tmp 2], .val, [], [⟨8, [1, 3, 4], [.box [.con (.int .i64), .con (.pair (.int .i64) (.sl (.int .i64)))], .val, .val], []⟩, ⟨25, [1, 5, 6], [.box [.con (.int .i64), .con (.pair (.int .i64) (.sl (.int .i64)))], .row 0 .bool, .val], []⟩, ⟨40, [1, 5, 6, 7, 8], [.box [.con (.int .i64), .con (.pair (.int .i64) (.sl (.int .i64)))], .row 0 .bool, .val, .val, .val], []⟩], fun x H => match x, H with
  | .v (.string r), [] => some r
  | _, _ => none⟩
def spec_l7Text.s : Spec := mkS [.agg [.con (.int .i64), .con (.pair (.int .i64) (.sl (.int .i64)))]] (fun k avs H => match avs, H with
  | [.agg [.con (.int .i64) a0_0, .con (.pair (.int .i64) (.sl (.int .i64))) a0_1]], [] => some (spec_l7Text.f k a0_0 a0_1)
  | _, _ => none) (fun r => (.v (.string r), []))
def spec_l7Text.E : Env := [((99, []), spec_l1Dec.s)]
def spec_l7Text.G8 (k : Nat) (avs : List AV) (H : List HE) : Option (ByteArray) := match avs, H with
  | [.box 0 0, .v (.string x3), .v (.int .i64 x4)], [.box [.con (.int .i64) x1_0, .con (.pair (.int .i64) (.sl (.int .i64))) x1_1]] => spec_l7Text.p8 k x1_0 x1_1 x3 x4
  | _, _ => none
def spec_l7Text.G25 (k : Nat) (avs : List AV) (H : List HE) : Option (ByteArray) := match avs, H with
  | [.box 0 0, .own 1, .v (.int .i64 x6)], [.box [.con (.int .i64) x1_0, .con (.pair (.int .i64) (.sl (.int .i64))) x1_1], .bts x5] => spec_l7Text.p25 k x1_0 x1_1 x5 x6
  | _, _ => none
def spec_l7Text.G40 (k : Nat) (avs : List AV) (H : List HE) : Option (ByteArray) := match avs, H with
  | [.box 0 0, .own 1, .v (.int .i64 x6), .v (.string x7), .v (.int .i64 x8)], [.box [.con (.int .i64) x1_0, .con (.pair (.int .i64) (.sl (.int .i64))) x1_1], .bts x5] => spec_l7Text.p40 k x1_0 x1_1 x5 x6 x7 x8
  | _, _ => none
def spec_l7Text.G (k p : Nat) (avs : List AV) (H : List HE) : Option (ByteArray) := (pick1 8 (spec_l7Text.G8 k avs H) (pick1 25 (spec_l7Text.G25 k avs H) (pick1 40 (spec_l7Text.G40 k avs H) none p) p) p)
set_option maxRecDepth 100000 in
theorem spec_l7Text.eq (k : Nat) (a0_0 : List Int) (a0_1 : List (Int × List Int)) : fromTop Tryz.prog spec_l7Text.E k spec_l7Text.a (spec_l7Text.G k) 1000 (bodyOf Tryz.prog 61) [.agg [.con (.int .i64) a0_0, .con (.pair (.int .i64) (.sl (.int .i64))) a0_1]] [] = spec_l7Text.f k a0_0 a0_1 := by kernel_rfl
set_option maxRecDepth 100000 in
theorem spec_l7Text.eq8 (k : Nat) (x1_0 : List Int) (x1_1 : List (Int × List Int)) (x3 : ByteArray) (x4 : Int) : fromPt Tryz.prog spec_l7Text.E k spec_l7Text.a (spec_l7Text.G k) 1000 (bodyOf Tryz.prog 61) 8 [.box 0 0, .v (.string x3), .v (.int .i64 x4)] [.box [.con (.int .i64) x1_0, .con (.pair (.int .i64) (.sl (.int .i64))) x1_1]] = spec_l7Text.p8 (k + 1) x1_0 x1_1 x3 x4 := by kernel_rfl
theorem spec_l7Text.G8_0 {avs : List AV} {H : List HE} : spec_l7Text.G8 0 avs H = none := by unfold spec_l7Text.G8; split <;> rfl
theorem spec_l7Text.G8_s (k : Nat) {avs : List AV} {H : List HE} {x : ByteArray} (h : spec_l7Text.G8 (k + 1) avs H = some x) : fromPt Tryz.prog spec_l7Text.E k spec_l7Text.a (spec_l7Text.G k) 1000 (bodyOf Tryz.prog 61) 8 avs H = some x := by
  unfold spec_l7Text.G8 at h
  split at h
  · rw [← h]; exact spec_l7Text.eq8 _ _ _ _ _
  · cases h
set_option maxRecDepth 100000 in
theorem spec_l7Text.eq25 (k : Nat) (x1_0 : List Int) (x1_1 : List (Int × List Int)) (x5 : List Int) (x6 : Int) : fromPt Tryz.prog spec_l7Text.E k spec_l7Text.a (spec_l7Text.G k) 1000 (bodyOf Tryz.prog 61) 25 [.box 0 0, .own 1, .v (.int .i64 x6)] [.box [.con (.int .i64) x1_0, .con (.pair (.int .i64) (.sl (.int .i64))) x1_1], .bts x5] = spec_l7Text.p25 (k + 1) x1_0 x1_1 x5 x6 := by kernel_rfl
theorem spec_l7Text.G25_0 {avs : List AV} {H : List HE} : spec_l7Text.G25 0 avs H = none := by unfold spec_l7Text.G25; split <;> rfl
theorem spec_l7Text.G25_s (k : Nat) {avs : List AV} {H : List HE} {x : ByteArray} (h : spec_l7Text.G25 (k + 1) avs H = some x) : fromPt Tryz.prog spec_l7Text.E k spec_l7Text.a (spec_l7Text.G k) 1000 (bodyOf Tryz.prog 61) 25 avs H = some x := by
  unfold spec_l7Text.G25 at h
  split at h
  · rw [← h]; exact spec_l7Text.eq25 _ _ _ _ _
  · cases h
set_option maxRecDepth 100000 in
theorem spec_l7Text.eq40 (k : Nat) (x1_0 : List Int) (x1_1 : List (Int × List Int)) (x5 : List Int) (x6 : Int) (x7 : ByteArray) (x8 : Int) : fromPt Tryz.prog spec_l7Text.E k spec_l7Text.a (spec_l7Text.G k) 1000 (bodyOf Tryz.prog 61) 40 [.box 0 0, .own 1, .v (.int .i64 x6), .v (.string x7), .v (.int .i64 x8)] [.box [.con (.int .i64) x1_0, .con (.pair (.int .i64) (.sl (.int .i64))) x1_1], .bts x5] = spec_l7Text.p40 (k + 1) x1_0 x1_1 x5 x6 x7 x8 := by kernel_rfl
theorem spec_l7Text.G40_0 {avs : List AV} {H : List HE} : spec_l7Text.G40 0 avs H = none := by unfold spec_l7Text.G40; split <;> rfl
theorem spec_l7Text.G40_s (k : Nat) {avs : List AV} {H : List HE} {x : ByteArray} (h : spec_l7Text.G40 (k + 1) avs H = some x) : fromPt Tryz.prog spec_l7Text.E k spec_l7Text.a (spec_l7Text.G k) 1000 (bodyOf Tryz.prog 61) 40 avs H = some x := by
  unfold spec_l7Text.G40 at h
  split at h
  · rw [← h]; exact spec_l7Text.eq40 _ _ _ _ _ _ _
  · cases h
theorem spec_l7Text.E_ok : EnvOk Tryz.prog spec_l7Text.E := ⟨⟨spec_l1Dec.sound, callable_of (by kernel_rfl)⟩, trivial⟩
theorem spec_l7Text.sound : Sound Tryz.prog 61 spec_l7Text.s := by
  refine func_sound (f := spec_l7Text.a) (G := spec_l7Text.G) (fn := Tryz.f61) (body := bodyOf Tryz.prog 61) 1000 (by kernel_rfl) spec_l7Text.E_ok Tryz.func61 (by kernel_rfl) (by kernel_rfl) (by kernel_rfl) (ptsOk_of (by kernel_rfl)) ?_ ?_ ?_ ?_
  · intro r H x h
    unfold spec_l7Text.a at h
    simp only at h
    split at h
    · cases h; rfl
    · cases h
  · exact fun q avs H => pick1_none spec_l7Text.G8_0 (pick1_none spec_l7Text.G25_0 (pick1_none spec_l7Text.G40_0 (rfl)))
  · intro k q pt avs H x _ h
    rcases pick1_some h with ⟨rfl, h⟩ | h
    · exact spec_l7Text.G8_s _ h
    rcases pick1_some h with ⟨rfl, h⟩ | h
    · exact spec_l7Text.G25_s _ h
    rcases pick1_some h with ⟨rfl, h⟩ | h
    · exact spec_l7Text.G40_s _ h
    cases h
  · intro k avs H o h
    try dsimp only at h
    split at h
    · cases h; exact spec_l7Text.eq _ _ _
    · cases h

def spec_GraphText.a : FnA (ByteArray) := ⟨42, [.tmp 4], .val, [], [⟨14, [3, 5], [.box [.con (.int .i64), .con (.pair (.int .i64) (.sl (.int .i64)))], .val], []⟩, ⟨26, [3, 5, 6], [.box [.con (.int .i64), .con (.pair (.int .i64) (.sl (.int .i64)))], .val, .val], []⟩], fun x H => match x, H with
  | .v (.string r), [] => some r
  | _, _ => none⟩
def spec_GraphText.s : Spec := mkS [.con .str, .agg [.con (.int .i64), .con (.pair (.int .i64) (.sl (.int .i64)))]] (fun k avs H => match avs, H with
  | [.con .str a0, .agg [.con (.int .i64) a1_0, .con (.pair (.int .i64) (.sl (.int .i64))) a1_1]], [] => some (spec_GraphText.f k a0 a1_0 a1_1)
  | _, _ => none) (fun r => (.v (.string r), []))
def spec_GraphText.E : Env := [((59, []), spec_GraphOk.s), ((61, []), spec_l7Text.s), ((60, []), spec_l1In.s)]
def spec_GraphText.G14 (k : Nat) (avs : List AV) (H : List HE) : Option (ByteArray) := match avs, H with
  | [.box 0 0, .v (.int .i64 x5)], [.box [.con (.int .i64) x3_0, .con (.pair (.int .i64) (.sl (.int .i64))) x3_1]] => spec_GraphText.p14 k x3_0 x3_1 x5
  | _, _ => none
def spec_GraphText.G26 (k : Nat) (avs : List AV) (H : List HE) : Option (ByteArray) := match avs, H with
  | [.box 0 0, .v (.int .i64 x5), .v (.int .i64 x6)], [.box [.con (.int .i64) x3_0, .con (.pair (.int .i64) (.sl (.int .i64))) x3_1]] => spec_GraphText.p26 k x3_0 x3_1 x5 x6
  | _, _ => none
def spec_GraphText.G (k p : Nat) (avs : List AV) (H : List HE) : Option (ByteArray) := (pick1 14 (spec_GraphText.G14 k avs H) (pick1 26 (spec_GraphText.G26 k avs H) none p) p)
set_option maxRecDepth 100000 in
theorem spec_GraphText.eq (k : Nat) (a0 : List ByteArray) (a1_0 : List Int) (a1_1 : List (Int × List Int)) : fromTop Tryz.prog spec_GraphText.E k spec_GraphText.a (spec_GraphText.G k) 1000 (bodyOf Tryz.prog 20) [.con .str a0, .agg [.con (.int .i64) a1_0, .con (.pair (.int .i64) (.sl (.int .i64))) a1_1]] [] = spec_GraphText.f k a0 a1_0 a1_1 := by kernel_rfl
set_option maxRecDepth 100000 in
theorem spec_GraphText.eq14 (k : Nat) (x3_0 : List Int) (x3_1 : List (Int × List Int)) (x5 : Int) : fromPt Tryz.prog spec_GraphText.E k spec_GraphText.a (spec_GraphText.G k) 1000 (bodyOf Tryz.prog 20) 14 [.box 0 0, .v (.int .i64 x5)] [.box [.con (.int .i64) x3_0, .con (.pair (.int .i64) (.sl (.int .i64))) x3_1]] = spec_GraphText.p14 (k + 1) x3_0 x3_1 x5 := by kernel_rfl
theorem spec_GraphText.G14_0 {avs : List AV} {H : List HE} : spec_GraphText.G14 0 avs H = none := by unfold spec_GraphText.G14; split <;> rfl
theorem spec_GraphText.G14_s (k : Nat) {avs : List AV} {H : List HE} {x : ByteArray} (h : spec_GraphText.G14 (k + 1) avs H = some x) : fromPt Tryz.prog spec_GraphText.E k spec_GraphText.a (spec_GraphText.G k) 1000 (bodyOf Tryz.prog 20) 14 avs H = some x := by
  unfold spec_GraphText.G14 at h
  split at h
  · rw [← h]; exact spec_GraphText.eq14 _ _ _ _
  · cases h
set_option maxRecDepth 100000 in
theorem spec_GraphText.eq26 (k : Nat) (x3_0 : List Int) (x3_1 : List (Int × List Int)) (x5 : Int) (x6 : Int) : fromPt Tryz.prog spec_GraphText.E k spec_GraphText.a (spec_GraphText.G k) 1000 (bodyOf Tryz.prog 20) 26 [.box 0 0, .v (.int .i64 x5), .v (.int .i64 x6)] [.box [.con (.int .i64) x3_0, .con (.pair (.int .i64) (.sl (.int .i64))) x3_1]] = spec_GraphText.p26 (k + 1) x3_0 x3_1 x5 x6 := by kernel_rfl
theorem spec_GraphText.G26_0 {avs : List AV} {H : List HE} : spec_GraphText.G26 0 avs H = none := by unfold spec_GraphText.G26; split <;> rfl
theorem spec_GraphText.G26_s (k : Nat) {avs : List AV} {H : List HE} {x : ByteArray} (h : spec_GraphText.G26 (k + 1) avs H = some x) : fromPt Tryz.prog spec_GraphText.E k spec_GraphText.a (spec_GraphText.G k) 1000 (bodyOf Tryz.prog 20) 26 avs H = some x := by
  unfold spec_GraphText.G26 at h
  split at h
  · rw [← h]; exact spec_GraphText.eq26 _ _ _ _ _
  · cases h
theorem spec_GraphText.E_ok : EnvOk Tryz.prog spec_GraphText.E := ⟨⟨spec_GraphOk.sound, callable_of (by kernel_rfl)⟩, ⟨spec_l7Text.sound, callable_of (by kernel_rfl)⟩, ⟨spec_l1In.sound, callable_of (by kernel_rfl)⟩, trivial⟩
theorem spec_GraphText.sound : Sound Tryz.prog 20 spec_GraphText.s := by
  refine func_sound (f := spec_GraphText.a) (G := spec_GraphText.G) (fn := Tryz.f20) (body := bodyOf Tryz.prog 20) 1000 (by kernel_rfl) spec_GraphText.E_ok Tryz.func20 (by kernel_rfl) (by kernel_rfl) (by kernel_rfl) (ptsOk_of (by kernel_rfl)) ?_ ?_ ?_ ?_
  · intro r H x h
    unfold spec_GraphText.a at h
    simp only at h
    split at h
    · cases h; rfl
    · cases h
  · exact fun q avs H => pick1_none spec_GraphText.G14_0 (pick1_none spec_GraphText.G26_0 (rfl))
  · intro k q pt avs H x _ h
    rcases pick1_some h with ⟨rfl, h⟩ | h
    · exact spec_GraphText.G14_s _ h
    rcases pick1_some h with ⟨rfl, h⟩ | h
    · exact spec_GraphText.G26_s _ h
    cases h
  · intro k avs H o h
    try dsimp only at h
    split at h
    · cases h; exact spec_GraphText.eq _ _ _ _
    · cases h

def spec_ReadGraph.a : FnA (List Int × List (Int × List Int) × Bool) := ⟨67, [.cell 4 27, .tmp 5], .tup [.agg [.row 2 (.int .i64), .tre 1 66 2 (.pair (.int .i64) (.sl (.int .i64)))], .bool], [], [⟨18, [0, 1, 4, 6, 8, 9], [.con .str, .val, .box [.val, .val], .row 9 .str, .box [.row 2 (.int .i64), .tre 1 66 2 (.pair (.int .i64) (.sl (.int .i64)))], .val], []⟩, ⟨22, [0, 1, 4, 6, 8, 9, 28], [.con .str, .val, .box [.val, .val], .row 9 .str, .box [.row 2 (.int .i64), .tre 1 66 2 (.pair (.int .i64) (.sl (.int .i64)))], .val, .bool], []⟩], fun x H => match x, H with
  | .tup [.agg [.own 0, .own 1], .bs false r_1], [.row 2 (.int .i64) r_0_0, .tre 1 none 66 2 (.pair (.int .i64) (.sl (.int .i64))) r_0_1 none] => some (r_0_0, r_0_1, r_1)
  | _, _ => none⟩
def spec_ReadGraph.s : Spec := mkS [.con .str, .val] (fun k avs H => match avs, H with
  | [.con .str a0, .v (.string a1)], [] => some (spec_ReadGraph.f k a0 a1)
  | _, _ => none) (fun r => (.tup [.agg [.own 0, .own 1], .bs false r.2.2], [.row 2 (.int .i64) r.1, .tre 1 none 66 2 (.pair (.int .i64) (.sl (.int .i64))) r.2.1 none]))
def spec_ReadGraph.E : Env := [((35, []), spec_l1Lines.s), ((37, []), spec_l1Split.s), ((36, []), spec_l7Nums.s), ((20, []), spec_GraphText.s)]
def spec_ReadGraph.G18 (k : Nat) (avs : List AV) (H : List HE) : Option (List Int × List (Int × List Int) × Bool) := match avs, H with
  | [.con .str x0, .v (.string x1), .box 0 0, .own 1, .box 2 0, .v (.int .i64 x9)], [.box [.v (.slice none 0 0), .v (.slice none 0 0)], .row 9 .str x6, .box [.own 3, .own 4], .row 2 (.int .i64) x8_0, .tre 1 none 66 2 (.pair (.int .i64) (.sl (.int .i64))) x8_1 none] => spec_ReadGraph.p18 k x0 x1 x6 x8_0 x8_1 x9
  | _, _ => none
def spec_ReadGraph.G22 (k : Nat) (avs : List AV) (H : List HE) : Option (List Int × List (Int × List Int) × Bool) := match avs, H with
  | [.con .str x0, .v (.string x1), .box 0 0, .own 1, .box 2 0, .v (.int .i64 x9), .bs false x28], [.box [.v (.slice none 0 0), .v (.slice none 0 0)], .row 9 .str x6, .box [.own 3, .own 4], .row 2 (.int .i64) x8_0, .tre 1 none 66 2 (.pair (.int .i64) (.sl (.int .i64))) x8_1 none] => spec_ReadGraph.p22 k x0 x1 x6 x8_0 x8_1 x9 x28
  | _, _ => none
def spec_ReadGraph.G (k p : Nat) (avs : List AV) (H : List HE) : Option (List Int × List (Int × List Int) × Bool) := (pick1 18 (spec_ReadGraph.G18 k avs H) (pick1 22 (spec_ReadGraph.G22 k avs H) none p) p)
set_option maxRecDepth 100000 in
theorem spec_ReadGraph.eq (k : Nat) (a0 : List ByteArray) (a1 : ByteArray) : fromTop Tryz.prog spec_ReadGraph.E k spec_ReadGraph.a (spec_ReadGraph.G k) 1000 (bodyOf Tryz.prog 8) [.con .str a0, .v (.string a1)] [] = spec_ReadGraph.f k a0 a1 := by kernel_rfl
set_option maxRecDepth 100000 in
theorem spec_ReadGraph.eq18 (k : Nat) (x0 : List ByteArray) (x1 : ByteArray) (x6 : List ByteArray) (x8_0 : List Int) (x8_1 : List (Int × List Int)) (x9 : Int) : fromPt Tryz.prog spec_ReadGraph.E k spec_ReadGraph.a (spec_ReadGraph.G k) 1000 (bodyOf Tryz.prog 8) 18 [.con .str x0, .v (.string x1), .box 0 0, .own 1, .box 2 0, .v (.int .i64 x9)] [.box [.v (.slice none 0 0), .v (.slice none 0 0)], .row 9 .str x6, .box [.own 3, .own 4], .row 2 (.int .i64) x8_0, .tre 1 none 66 2 (.pair (.int .i64) (.sl (.int .i64))) x8_1 none] = spec_ReadGraph.p18 (k + 1) x0 x1 x6 x8_0 x8_1 x9 := by kernel_rfl
theorem spec_ReadGraph.G18_0 {avs : List AV} {H : List HE} : spec_ReadGraph.G18 0 avs H = none := by unfold spec_ReadGraph.G18; split <;> rfl
theorem spec_ReadGraph.G18_s (k : Nat) {avs : List AV} {H : List HE} {x : List Int × List (Int × List Int) × Bool} (h : spec_ReadGraph.G18 (k + 1) avs H = some x) : fromPt Tryz.prog spec_ReadGraph.E k spec_ReadGraph.a (spec_ReadGraph.G k) 1000 (bodyOf Tryz.prog 8) 18 avs H = some x := by
  unfold spec_ReadGraph.G18 at h
  split at h
  · rw [← h]; exact spec_ReadGraph.eq18 _ _ _ _ _ _ _
  · cases h
set_option maxRecDepth 100000 in
theorem spec_ReadGraph.eq22 (k : Nat) (x0 : List ByteArray) (x1 : ByteArray) (x6 : List ByteArray) (x8_0 : List Int) (x8_1 : List (Int × List Int)) (x9 : Int) (x28 : Bool) : fromPt Tryz.prog spec_ReadGraph.E k spec_ReadGraph.a (spec_ReadGraph.G k) 1000 (bodyOf Tryz.prog 8) 22 [.con .str x0, .v (.string x1), .box 0 0, .own 1, .box 2 0, .v (.int .i64 x9), .bs false x28] [.box [.v (.slice none 0 0), .v (.slice none 0 0)], .row 9 .str x6, .box [.own 3, .own 4], .row 2 (.int .i64) x8_0, .tre 1 none 66 2 (.pair (.int .i64) (.sl (.int .i64))) x8_1 none] = spec_ReadGraph.p22 (k + 1) x0 x1 x6 x8_0 x8_1 x9 x28 := by kernel_rfl
theorem spec_ReadGraph.G22_0 {avs : List AV} {H : List HE} : spec_ReadGraph.G22 0 avs H = none := by unfold spec_ReadGraph.G22; split <;> rfl
theorem spec_ReadGraph.G22_s (k : Nat) {avs : List AV} {H : List HE} {x : List Int × List (Int × List Int) × Bool} (h : spec_ReadGraph.G22 (k + 1) avs H = some x) : fromPt Tryz.prog spec_ReadGraph.E k spec_ReadGraph.a (spec_ReadGraph.G k) 1000 (bodyOf Tryz.prog 8) 22 avs H = some x := by
  unfold spec_ReadGraph.G22 at h
  split at h
  · rw [← h]; exact spec_ReadGraph.eq22 _ _ _ _ _ _ _ _
  · cases h
theorem spec_ReadGraph.E_ok : EnvOk Tryz.prog spec_ReadGraph.E := ⟨⟨spec_l1Lines.sound, callable_of (by kernel_rfl)⟩, ⟨spec_l1Split.sound, callable_of (by kernel_rfl)⟩, ⟨spec_l7Nums.sound, callable_of (by kernel_rfl)⟩, ⟨spec_GraphText.sound, callable_of (by kernel_rfl)⟩, trivial⟩
theorem spec_ReadGraph.sound : Sound Tryz.prog 8 spec_ReadGraph.s := by
  refine func_sound (f := spec_ReadGraph.a) (G := spec_ReadGraph.G) (fn := Tryz.f8) (body := bodyOf Tryz.prog 8) 1000 (by kernel_rfl) spec_ReadGraph.E_ok Tryz.func8 (by kernel_rfl) (by kernel_rfl) (by kernel_rfl) (ptsOk_of (by kernel_rfl)) ?_ ?_ ?_ ?_
  · intro r H x h
    unfold spec_ReadGraph.a at h
    simp only at h
    split at h
    · cases h; rfl
    · cases h
  · exact fun q avs H => pick1_none spec_ReadGraph.G18_0 (pick1_none spec_ReadGraph.G22_0 (rfl))
  · intro k q pt avs H x _ h
    rcases pick1_some h with ⟨rfl, h⟩ | h
    · exact spec_ReadGraph.G18_s _ h
    rcases pick1_some h with ⟨rfl, h⟩ | h
    · exact spec_ReadGraph.G22_s _ h
    cases h
  · intro k avs H o h
    try dsimp only at h
    split at h
    · cases h; exact spec_ReadGraph.eq _ _ _
    · cases h

def strings_Split.s : Spec := mkS [.val, .val] (fun _ avs H => match avs, H with
  | [.v (.string a0), .v (.string a1)], [] => some (strings_Split.f a0 a1)
  | _, _ => none) (fun r => (.own 0, [.row 9 .str r]))
theorem strings_Split.sound : Sound Tryz.prog 38 strings_Split.s := by
  refine sound_rowtab (e := 9) (t := .str) (emb := fun r => r) ?_
  intro k avs H o x h hx
  split at h
  case h_2 => cases h
  rename_i a0 a1
  cases h
  refine ⟨rfl, fun M L w ρ hp vals htb hr => ?_⟩
  obtain ⟨v0, q0, rfl, rfl, v1, q1, rfl, rfl, rfl⟩ := hr
  unfold strings_Split.f at hx
  split at hx
  case isFalse => cases hx
  rename_i h0
  split at hx
  case isFalse => cases hx
  rename_i h1
  cases hx
  obtain ⟨⟨C, T, fz, hb, m, hm⟩, _⟩ := htb (0, someInt) (.tail _ (.head _))
  have hcell : w.cell? ⟨0, 0, none⟩ = some (.int .i64 m) := by simp only [World.cell?, hb]; simpa using hm
  have hlen := Lib.splitB_all a1 h1 0 _ a0 rfl
  have hle := Lib.countB_le a1 h1 a0.size a0 (Nat.le_refl _)
  refine (Go.Proofs.Tryz.strings_Split a0 a1 m w h0 hcell h1).mono ?_
  rintro e w' ⟨rfl, rfl⟩
  refine ⟨_, (Lib.splitB a1 0 (Lib.countB a0 a1) a0).map Value.string, rfl, ⟨rfl, rfl, rfl, by simp, fun b hb => Below.heap_alloc w _ b hb⟩, ?_, strs_els _⟩
  show World.ownsRow _ w.heap.size 9 1 _ (Lib.splitB a1 0 (Lib.countB a0 a1) a0).length _
  rw [hlen]
  refine ⟨by rw [List.length_map, hlen, Nat.mul_one], .inr ⟨w.heap.size, _, _, rfl, Nat.le_refl _, heap_alloc_new w _, Nat.le_refl _, by unfold maxLen; omega, by rw [List.size_toArray, List.length_map, hlen, Nat.mul_one], ?_⟩⟩
  rw [List.take_of_length_le (by simp [hlen])]

def strconv_ParseInt.s : Spec := mkS [.val, .val, .val] (fun _ avs H => match avs, H with
  | [.v (.string a0), .v (.int .i64 a1), .v (.int .i64 a2)], [] => some (strconv_ParseInt.f a0 a1 a2)
  | _, _ => none) (fun r => (.tup [.v (.int .i64 r.1), .ifc r.2], []))
theorem strconv_ParseInt.sound : Sound Tryz.prog 112 strconv_ParseInt.s := by
  refine sound_tab (emb := fun r : Int × Bool => .tup [.v (.int .i64 r.1), .ifc r.2]) ?_
  intro k avs H o x h hx
  split at h
  case h_2 => cases h
  rename_i a0 a1 a2
  cases h
  refine ⟨rfl, fun M L w ρ hp vals htb hr => ?_⟩
  obtain ⟨v0, q0, rfl, rfl, v1, q1, rfl, rfl, v2, q2, rfl, rfl, rfl⟩ := hr
  unfold strconv_ParseInt.f at hx
  split at hx
  case isFalse => cases hx
  rename_i h0
  split at hx
  case isFalse => cases hx
  rename_i h1
  split at hx
  case isFalse => cases hx
  rename_i h2
  cases hx
  subst h0 h1
  obtain ⟨⟨C1, T1, fz1, hb1, ev1, hm1, he1⟩, _⟩ := htb (4, someErr) (.tail _ (.tail _ (.head _)))
  obtain ⟨⟨C2, T2, fz2, hb2, ev2, hm2, he2⟩, _⟩ := htb (5, someErr) (.tail _ (.tail _ (.tail _ (.head _))))
  have hc1 : w.cell? ⟨4, 0, none⟩ = some ev1 := by simp only [World.cell?, hb1]; simpa using hm1
  have hc2 : w.cell? ⟨5, 0, none⟩ = some ev2 := by simp only [World.cell?, hb2]; simpa using hm2
  unfold strconv_ParseInt.g
  cases hp : Lib.parseIntB 64 a0.data.toList with
  | ok v =>
    refine (Go.Proofs.Tryz.strconv_ParseInt_10_at64_ok a0 (by omega) v hp w).mono ?_
    rintro e w' ⟨rfl, hw⟩
    refine ⟨_, rfl, ?_, fun _ _ _ _ => ⟨[_, _], rfl, _, _, rfl, rfl, _, _, rfl, .inl ⟨rfl, rfl⟩, rfl⟩⟩
    rcases hw with rfl | ⟨t, rfl⟩
    · exact ⟨rfl, rfl, rfl, Nat.le_refl _, fun _ _ => rfl⟩
    · exact Lib.bytesWorld_below _ _ _
  | «syntax» =>
    refine (Go.Proofs.Tryz.strconv_ParseInt_10_at64_syntax a0 h2 hp ev1 w hc1 he1).mono ?_
    rintro e w' ⟨N, rfl, _, _, hb⟩
    exact ⟨_, rfl, hb, fun _ _ _ _ => ⟨[_, _], rfl, _, _, rfl, rfl, _, _, rfl, .inr ⟨rfl, _, _, rfl⟩, rfl⟩⟩
  | range =>
    refine (Go.Proofs.Tryz.strconv_ParseInt_10_at64_range a0 h2 hp ev2 w hc2 he2).mono ?_
    rintro e w' ⟨N, rfl, _, _, hb⟩
    exact ⟨_, rfl, hb, fun _ _ _ _ => ⟨[_, _], rfl, _, _, rfl, rfl, _, _, rfl, .inr ⟨rfl, _, _, rfl⟩, rfl⟩⟩

def strconv_FormatInt.s : Spec := mkS [.val, .val] (fun _ avs H => match avs, H with
  | [.v (.int .i64 a0), .v (.int .i64 a1)], [] => some (strconv_FormatInt.f a0 a1)
  | _, _ => none) (fun r => (.v (.string r), []))
theorem strconv_FormatInt.sound : Sound Tryz.prog 94 strconv_FormatInt.s := by
  refine sound_tab (emb := fun r => .v (.string r)) ?_
  intro k avs H o x h hx
  split at h
  case h_2 => cases h
  rename_i a0 a1
  cases h
  refine ⟨rfl, fun M L w ρ hp vals htb hr => ?_⟩
  obtain ⟨v0, q0, rfl, rfl, v1, q1, rfl, rfl, rfl⟩ := hr
  unfold strconv_FormatInt.f at hx
  split at hx
  case isFalse => cases hx
  rename_i h0
  split at hx
  case isFalse => cases hx
  rename_i h1
  split at hx
  case isFalse => cases hx
  rename_i h2
  cases hx
  subst h0
  have htab : Lib.TabIs Tryz.prog w "internal/strconv.uint64pow10" .u64 Lib.pow10Tab := by
    obtain ⟨⟨C, T, fz, hb, hC⟩, _⟩ := htb (1, isTab (Lib.pow10Tab.map fun z => Value.int .u64 z)) (.head _)
    obtain rfl : C = _ := hC
    unfold Lib.TabIs World.var?
    rw [show Tryz.prog.globalNamed "internal/strconv.uint64pow10" = some 1 by kernel_rfl]
    simp only [Option.bind_some]
    rw [hb]
  refine (Go.Proofs.Tryz.strconv_FormatInt_10 a0 h1 h2 w htab).mono ?_
  rintro e w' ⟨rfl, k, os, rfl⟩
  exact ⟨_, rfl, ⟨rfl, rfl, rfl, by show w.heap.size ≤ (w.heap ++ os).size; rw [Array.size_append]; omega, fun b hb => by show (w.heap ++ os)[b]? = _; rw [Array.getElem?_append_left hb]⟩, fun _ _ _ _ => rfl⟩

def impl_decimal.a : FnA (ByteArray) := ⟨5, [.tmp 2], .val, [], [], fun x H => match x, H with
  | .v (.string r), [] => some r
  | _, _ => none⟩
def impl_decimal.s : Spec := mkS [.val] (fun k avs H => match avs, H with
  | [.v (.int .i64 a0)], [] => some (impl_decimal.f a0)
  | _, _ => none) (fun r => (.v (.string r), []))
def impl_decimal.E : Env := [((94, []), strconv_FormatInt.s)]
def impl_decimal.G (k p : Nat) (avs : List AV) (H : List HE) : Option (ByteArray) := none
set_option maxRecDepth 100000 in
theorem impl_decimal.eq (k : Nat) (a0 : Int) : fromTop Tryz.prog impl_decimal.E k impl_decimal.a (impl_decimal.G k) 1000 (bodyOf Tryz.prog 51) [.v (.int .i64 a0)] [] = impl_decimal.f a0 := by kernel_rfl
theorem impl_decimal.E_ok : EnvOk Tryz.prog impl_decimal.E := ⟨⟨strconv_FormatInt.sound, callable_of (by kernel_rfl)⟩, trivial⟩
theorem impl_decimal.sound : Sound Tryz.prog 51 impl_decimal.s := by
  refine func_sound (f := impl_decimal.a) (G := impl_decimal.G) (fn := Tryz.f51) (body := bodyOf Tryz.prog 51) 1000 (by kernel_rfl) impl_decimal.E_ok Tryz.func51 (by kernel_rfl) (by kernel_rfl) (by kernel_rfl) (ptsOk_of (by kernel_rfl)) ?_ ?_ ?_ ?_
  · intro r H x h
    unfold impl_decimal.a at h
    simp only at h
    split at h
    · cases h; rfl
    · cases h
  · intro q avs H; rfl
  · intro k q pt avs H x _ h; cases h
  · intro k avs H o h
    try dsimp only at h
    split at h
    · cases h; exact impl_decimal.eq _ _
    · cases h

def strings_TrimPrefix.s : Spec := mkS [.val, .val] (fun _ avs H => match avs, H with
  | [.v (.string a0), .v (.string a1)], [] => some (strings_TrimPrefix.f a0 a1)
  | _, _ => none) (fun r => (.v (.string r), []))
theorem strings_TrimPrefix.sound : Sound Tryz.prog 113 strings_TrimPrefix.s := by
  refine sound_plain (emb := fun r => .v (.string r)) ?_
  intro k avs H o x h hx
  split at h
  case h_2 => cases h
  rename_i a0 a1
  cases h
  refine ⟨rfl, fun M w ρ hp vals hr => ?_⟩
  obtain ⟨v0, q0, rfl, rfl, v1, q1, rfl, rfl, rfl⟩ := hr
  cases hx
  refine (Go.Proofs.Tryz.strings_TrimPrefix a0 a1 w).mono ?_
  rintro e w' ⟨rfl, rfl⟩
  exact ⟨_, rfl, ⟨rfl, rfl, rfl, Nat.le_refl _, fun _ _ => rfl⟩, fun _ _ _ _ => rfl⟩

def impl_number.a : FnA (Int × Bool) := ⟨26, [.tmp 2, .tmp 3], .tup [.val, .bool], [], [], fun x H => match x, H with
  | .tup [.v (.int .i64 r_0), .bs false r_1], [] => some (r_0, r_1)
  | _, _ => none⟩
def impl_number.s : Spec := mkS [.val] (fun k avs H => match avs, H with
  | [.v (.string a0)], [] => some (impl_number.f a0)
  | _, _ => none) (fun r => (.tup [.v (.int .i64 r.1), .bs false r.2], []))
def impl_number.E : Env := [((112, []), strconv_ParseInt.s), ((51, []), impl_decimal.s), ((113, []), strings_TrimPrefix.s)]
def impl_number.G (k p : Nat) (avs : List AV) (H : List HE) : Option (Int × Bool) := none
set_option maxRecDepth 100000 in
theorem impl_number.eq (k : Nat) (a0 : ByteArray) : fromTop Tryz.prog impl_number.E k impl_number.a (impl_number.G k) 1000 (bodyOf Tryz.prog 82) [.v (.string a0)] [] = impl_number.f a0 := by kernel_rfl
theorem impl_number.E_ok : EnvOk Tryz.prog impl_number.E := ⟨⟨strconv_ParseInt.sound, callable_of (by kernel_rfl)⟩, ⟨impl_decimal.sound, callable_of (by kernel_rfl)⟩, ⟨strings_TrimPrefix.sound, callable_of (by kernel_rfl)⟩, trivial⟩
theorem impl_number.sound : Sound Tryz.prog 82 impl_number.s := by
  refine func_sound (f := impl_number.a) (G := impl_number.G) (fn := Tryz.f82) (body := bodyOf Tryz.prog 82) 1000 (by kernel_rfl) impl_number.E_ok Tryz.func82 (by kernel_rfl) (by kernel_rfl) (by kernel_rfl) (ptsOk_of (by kernel_rfl)) ?_ ?_ ?_ ?_
  · intro r H x h
    unfold impl_number.a at h
    simp only at h
    split at h
    · cases h; rfl
    · cases h
  · intro q avs H; rfl
  · intro k q pt avs H x _ h; cases h
  · intro k avs H o h
    try dsimp only at h
    split at h
    · cases h; exact impl_number.eq _ _
    · cases h

def impl_numbers.a : FnA (List Int × Bool) := ⟨29, [.tmp 2, .tmp 3], .tup [.row 2 (.int .i64), .bool], [], [⟨8, [4, 10, 11, 12], [.row 2 (.int .i64), .con .str, .val, .val], []⟩], fun x H => match x, H with
  | .tup [.own 0, .bs false r_1], [.row 2 (.int .i64) r_0] => some (r_0, r_1)
  | _, _ => none⟩
def impl_numbers.s : Spec := mkS [.con .str] (fun k avs H => match avs, H with
  | [.con .str a0], [] => some (impl_numbers.f k a0)
  | _, _ => none) (fun r => (.tup [.own 0, .bs false r.2], [.row 2 (.int .i64) r.1]))
def impl_numbers.E : Env := [((82, []), impl_number.s)]
def impl_numbers.G8 (k : Nat) (avs : List AV) (H : List HE) : Option (List Int × Bool) := match avs, H with
  | [.own 0, .con .str x10, .v (.int .i64 x11), .v (.int .i64 x12)], [.row 2 (.int .i64) x4] => impl_numbers.p8 k x4 x10 x11 x12
  | _, _ => none
def impl_numbers.G (k p : Nat) (avs : List AV) (H : List HE) : Option (List Int × Bool) := (pick1 8 (impl_numbers.G8 k avs H) none p)
set_option maxRecDepth 100000 in
theorem impl_numbers.eq (k : Nat) (a0 : List ByteArray) : fromTop Tryz.prog impl_numbers.E k impl_numbers.a (impl_numbers.G k) 1000 (bodyOf Tryz.prog 39) [.con .str a0] [] = impl_numbers.f k a0 := by kernel_rfl
set_option maxRecDepth 100000 in
theorem impl_numbers.eq8 (k : Nat) (x4 : List Int) (x10 : List ByteArray) (x11 : Int) (x12 : Int) : fromPt Tryz.prog impl_numbers.E k impl_numbers.a (impl_numbers.G k) 1000 (bodyOf Tryz.prog 39) 8 [.own 0, .con .str x10, .v (.int .i64 x11), .v (.int .i64 x12)] [.row 2 (.int .i64) x4] = impl_numbers.p8 (k + 1) x4 x10 x11 x12 := by kernel_rfl
theorem impl_numbers.G8_0 {avs : List AV} {H : List HE} : impl_numbers.G8 0 avs H = none := by unfold impl_numbers.G8; split <;> rfl
theorem impl_numbers.G8_s (k : Nat) {avs : List AV} {H : List HE} {x : List Int × Bool} (h : impl_numbers.G8 (k + 1) avs H = some x) : fromPt Tryz.prog impl_numbers.E k impl_numbers.a (impl_numbers.G k) 1000 (bodyOf Tryz.prog 39) 8 avs H = some x := by
  unfold impl_numbers.G8 at h
  split at h
  · rw [← h]; exact impl_numbers.eq8 _ _ _ _ _
  · cases h
theorem impl_numbers.E_ok : EnvOk Tryz.prog impl_numbers.E := ⟨⟨impl_number.sound, callable_of (by kernel_rfl)⟩, trivial⟩
theorem impl_numbers.sound : Sound Tryz.prog 39 impl_numbers.s := by
  refine func_sound (f := impl_numbers.a) (G := impl_numbers.G) (fn := Tryz.f39) (body := bodyOf Tryz.prog 39) 1000 (by kernel_rfl) impl_numbers.E_ok Tryz.func39 (by kernel_rfl) (by kernel_rfl) (by kernel_rfl) (ptsOk_of (by kernel_rfl)) ?_ ?_ ?_ ?_
  · intro r H x h
    unfold impl_numbers.a at h
    simp only at h
    split at h
    · cases h; rfl
    · cases h
  · exact fun q avs H => pick1_none impl_numbers.G8_0 (rfl)
  · intro k q pt avs H x _ h
    rcases pick1_some h with ⟨rfl, h⟩ | h
    · exact impl_numbers.G8_s _ h
    cases h
  · intro k avs H o h
    try dsimp only at h
    split at h
    · cases h; exact impl_numbers.eq _ _
    · cases h

def impl_size_string.a : FnA (Int) := ⟨5, [.tmp 2], .val, [], [], fun x H => match x, H with
  | .v (.int .i64 r), [] => some r
  | _, _ => none⟩
def impl_size_string.s : Spec := mkS [.con .str] (fun k avs H => match avs, H with
  | [.con .str a0], [] => some (impl_size_string.f a0)
  | _, _ => none) (fun r => (.v (.int .i64 r), []))
def impl_size_string.E : Env := []
def impl_size_string.G (k p : Nat) (avs : List AV) (H : List HE) : Option (Int) := none
set_option maxRecDepth 100000 in
theorem impl_size_string.eq (k : Nat) (a0 : List ByteArray) : fromTop Tryz.prog impl_size_string.E k impl_size_string.a (impl_size_string.G k) 1000 (bodyOf Tryz.prog 115) [.con .str a0] [] = impl_size_string.f a0 := by kernel_rfl
theorem impl_size_string.E_ok : EnvOk Tryz.prog impl_size_string.E := trivial
theorem impl_size_string.sound : Sound Tryz.prog 115 impl_size_string.s := by
  refine func_sound (f := impl_size_string.a) (G := impl_size_string.G) (fn := Tryz.f115) (body := bodyOf Tryz.prog 115) 1000 (by kernel_rfl) impl_size_string.E_ok Tryz.func115 (by kernel_rfl) (by kernel_rfl) (by kernel_rfl) (ptsOk_of (by kernel_rfl)) ?_ ?_ ?_ ?_
  · intro r H x h
    unfold impl_size_string.a at h
    simp only at h
    split at h
    · cases h; rfl
    · cases h
  · intro q avs H; rfl
  · intro k q pt avs H x _ h; cases h
  · intro k avs H o h
    try dsimp only at h
    split at h
    · cases h; exact impl_size_string.eq _ _
    · cases h

def impl_within.a : FnA (Bool) := ⟨15, [.tmp 6], .bool, [], [], fun x H => match x, H with
  | .bs false r, [] => some r
  | _, _ => none⟩
def impl_within.s : Spec := mkS [.val, .val, .val] (fun k avs H => match avs, H with
  | [.v (.int .i64 a0), .v (.int .i64 a1), .v (.int .i64 a2)], [] => some (impl_within.f a0 a1 a2)
  | _, _ => none) (fun r => (.bs false r, []))
def impl_within.E : Env := []
def impl_within.G (k p : Nat) (avs : List AV) (H : List HE) : Option (Bool) := none
set_option maxRecDepth 100000 in
theorem impl_within.eq (k : Nat) (a0 : Int) (a1 : Int) (a2 : Int) : fromTop Tryz.prog impl_within.E k impl_within.a (impl_within.G k) 1000 (bodyOf Tryz.prog 50) [.v (.int .i64 a0), .v (.int .i64 a1), .v (.int .i64 a2)] [] = impl_within.f a0 a1 a2 := by kernel_rfl
theorem impl_within.E_ok : EnvOk Tryz.prog impl_within.E := trivial
theorem impl_within.sound : Sound Tryz.prog 50 impl_within.s := by
  refine func_sound (f := impl_within.a) (G := impl_within.G) (fn := Tryz.f50) (body := bodyOf Tryz.prog 50) 1000 (by kernel_rfl) impl_within.E_ok Tryz.func50 (by kernel_rfl) (by kernel_rfl) (by kernel_rfl) (ptsOk_of (by kernel_rfl)) ?_ ?_ ?_ ?_
  · intro r H x h
    unfold impl_within.a at h
    simp only at h
    split at h
    · cases h; rfl
    · cases h
  · intro q avs H; rfl
  · intro k q pt avs H x _ h; cases h
  · intro k avs H o h
    try dsimp only at h
    split at h
    · cases h; exact impl_within.eq _ _ _ _
    · cases h

def strings_Trim.s : Spec := mkS [.val, .val] (fun _ avs H => match avs, H with
  | [.v (.string a0), .v (.string a1)], [] => some (strings_Trim.f a0 a1)
  | _, _ => none) (fun r => (.v (.string r), []))
theorem strings_Trim.sound : Sound Tryz.prog 151 strings_Trim.s := by
  refine sound_plain (emb := fun r => .v (.string r)) ?_
  intro k avs H o x h hx
  split at h
  case h_2 => cases h
  rename_i a0 a1
  cases h
  refine ⟨rfl, fun M w ρ hp vals hr => ?_⟩
  obtain ⟨v0, q0, rfl, rfl, v1, q1, rfl, rfl, rfl⟩ := hr
  unfold strings_Trim.f at hx
  split at hx
  case isFalse => cases hx
  rename_i h0
  split at hx
  case isFalse => cases hx
  rename_i h1
  split at hx
  case isFalse => cases hx
  rename_i h2
  cases hx
  refine (Go.Proofs.Any.strings_Trim_laid Go.Proofs.Tryz.lays160 (by kernel_rfl) a0 a1 w h0 (by omega) (Go.Proofs.ascii_of_all h2)).mono ?_
  rintro e w' ⟨rfl, hb⟩
  exact ⟨_, rfl, hb, fun _ _ _ _ => rfl⟩

def impl_isType.a : FnA (Bool) := ⟨11, [.tmp 2], .bool, [], [], fun x H => match x, H with
  | .bs false r, [] => some r
  | _, _ => none⟩
def impl_isType.s : Spec := mkS [.val] (fun k avs H => match avs, H with
  | [.v (.string a0)], [] => some (impl_isType.f a0)
  | _, _ => none) (fun r => (.bs false r, []))
def impl_isType.E : Env := [((50, []), impl_within.s), ((151, []), strings_Trim.s)]
def impl_isType.G (k p : Nat) (avs : List AV) (H : List HE) : Option (Bool) := none
set_option maxRecDepth 100000 in
theorem impl_isType.eq (k : Nat) (a0 : ByteArray) : fromTop Tryz.prog impl_isType.E k impl_isType.a (impl_isType.G k) 1000 (bodyOf Tryz.prog 118) [.v (.string a0)] [] = impl_isType.f a0 := by kernel_rfl
theorem impl_isType.E_ok : EnvOk Tryz.prog impl_isType.E := ⟨⟨impl_within.sound, callable_of (by kernel_rfl)⟩, ⟨strings_Trim.sound, callable_of (by kernel_rfl)⟩, trivial⟩
theorem impl_isType.sound : Sound Tryz.prog 118 impl_isType.s := by
  refine func_sound (f := impl_isType.a) (G := impl_isType.G) (fn := Tryz.f118) (body := bodyOf Tryz.prog 118) 1000 (by kernel_rfl) impl_isType.E_ok Tryz.func118 (by kernel_rfl) (by kernel_rfl) (by kernel_rfl) (ptsOk_of (by kernel_rfl)) ?_ ?_ ?_ ?_
  · intro r H x h
    unfold impl_isType.a at h
    simp only at h
    split at h
    · cases h; rfl
    · cases h
  · intro q avs H; rfl
  · intro k q pt avs H x _ h; cases h
  · intro k avs H o h
    try dsimp only at h
    split at h
    · cases h; exact impl_isType.eq _ _
    · cases h

def impl_TypesOk_1.a : FnA (Bool) := ⟨6, [.tmp 2], .bool, [], [], fun x H => match x, H with
  | .bs false r, [] => some r
  | _, _ => none⟩
def impl_TypesOk_1.s : Spec := mkS [.val] (fun k avs H => match avs, H with
  | [.v (.string a0)], [] => some (impl_TypesOk_1.f a0)
  | _, _ => none) (fun r => (.bs false r, []))
def impl_TypesOk_1.E : Env := [((118, []), impl_isType.s)]
def impl_TypesOk_1.G (k p : Nat) (avs : List AV) (H : List HE) : Option (Bool) := none
set_option maxRecDepth 100000 in
theorem impl_TypesOk_1.eq (k : Nat) (a0 : ByteArray) : fromTop Tryz.prog impl_TypesOk_1.E k impl_TypesOk_1.a (impl_TypesOk_1.G k) 1000 (bodyOf Tryz.prog 117) [.v (.string a0)] [] = impl_TypesOk_1.f a0 := by kernel_rfl
theorem impl_TypesOk_1.E_ok : EnvOk Tryz.prog impl_TypesOk_1.E := ⟨⟨impl_isType.sound, callable_of (by kernel_rfl)⟩, trivial⟩
theorem impl_TypesOk_1.sound : Sound Tryz.prog 117 impl_TypesOk_1.s := by
  refine func_sound (f := impl_TypesOk_1.a) (G := impl_TypesOk_1.G) (fn := Tryz.f117) (body := bodyOf Tryz.prog 117) 1000 (by kernel_rfl) impl_TypesOk_1.E_ok Tryz.func117 (by kernel_rfl) (by kernel_rfl) (by kernel_rfl) (ptsOk_of (by kernel_rfl)) ?_ ?_ ?_ ?_
  · intro r H x h
    unfold impl_TypesOk_1.a at h
    simp only at h
    split at h
    · cases h; rfl
    · cases h
  · intro q avs H; rfl
  · intro k q pt avs H x _ h; cases h
  · intro k avs H o h
    try dsimp only at h
    split at h
    · cases h; exact impl_TypesOk_1.eq _ _
    · cases h

def slices_IndexFunc_string_at_impl_TypesOk_1.a : FnA (Int) := ⟨19, [.tmp 4], .val, [], [⟨6, [0, 1, 7, 8], [.con .str, .fn 117 0 [], .val, .val], []⟩], fun x H => match x, H with
  | .v (.int .i64 r), [] => some r
  | _, _ => none⟩
def slices_IndexFunc_string_at_impl_TypesOk_1.s : Spec := mkS [.con .str, .fn 117 0 []] (fun k avs H => match avs, H with
  | [.con .str a0, .fn 117 0 []], [] => some (slices_IndexFunc_string_at_impl_TypesOk_1.f k a0)
  | _, _ => none) (fun r => (.v (.int .i64 r), []))
def slices_IndexFunc_string_at_impl_TypesOk_1.E : Env := [((117, []), impl_TypesOk_1.s)]
def slices_IndexFunc_string_at_impl_TypesOk_1.G6 (k : Nat) (avs : List AV) (H : List HE) : Option (Int) := match avs, H with
  | [.con .str x0, .fn 117 0 [], .v (.int .i64 x7), .v (.int .i64 x8)], [] => slices_IndexFunc_string_at_impl_TypesOk_1.p6 k x0 x7 x8
  | _, _ => none
def slices_IndexFunc_string_at_impl_TypesOk_1.G (k p : Nat) (avs : List AV) (H : List HE) : Option (Int) := (pick1 6 (slices_IndexFunc_string_at_impl_TypesOk_1.G6 k avs H) none p)
set_option maxRecDepth 100000 in
theorem slices_IndexFunc_string_at_impl_TypesOk_1.eq (k : Nat) (a0 : List ByteArray) : fromTop Tryz.prog slices_IndexFunc_string_at_impl_TypesOk_1.E k slices_IndexFunc_string_at_impl_TypesOk_1.a (slices_IndexFunc_string_at_impl_TypesOk_1.G k) 1000 (bodyOf Tryz.prog 150) [.con .str a0, .fn 117 0 []] [] = slices_IndexFunc_string_at_impl_TypesOk_1.f k a0 := by kernel_rfl
set_option maxRecDepth 100000 in
theorem slices_IndexFunc_string_at_impl_TypesOk_1.eq6 (k : Nat) (x0 : List ByteArray) (x7 : Int) (x8 : Int) : fromPt Tryz.prog slices_IndexFunc_string_at_impl_TypesOk_1.E k slices_IndexFunc_string_at_impl_TypesOk_1.a (slices_IndexFunc_string_at_impl_TypesOk_1.G k) 1000 (bodyOf Tryz.prog 150) 6 [.con .str x0, .fn 117 0 [], .v (.int .i64 x7), .v (.int .i64 x8)] [] = slices_IndexFunc_string_at_impl_TypesOk_1.p6 (k + 1) x0 x7 x8 := by kernel_rfl
theorem slices_IndexFunc_string_at_impl_TypesOk_1.G6_0 {avs : List AV} {H : List HE} : slices_IndexFunc_string_at_impl_TypesOk_1.G6 0 avs H = none := by unfold slices_IndexFunc_string_at_impl_TypesOk_1.G6; split <;> rfl
theorem slices_IndexFunc_string_at_impl_TypesOk_1.G6_s (k : Nat) {avs : List AV} {H : List HE} {x : Int} (h : slices_IndexFunc_string_at_impl_TypesOk_1.G6 (k + 1) avs H = some x) : fromPt Tryz.prog slices_IndexFunc_string_at_impl_TypesOk_1.E k slices_IndexFunc_string_at_impl_TypesOk_1.a (slices_IndexFunc_string_at_impl_TypesOk_1.G k) 1000 (bodyOf Tryz.prog 150) 6 avs H = some x := by
  unfold slices_IndexFunc_string_at_impl_TypesOk_1.G6 at h
  split at h
  · rw [← h]; exact slices_IndexFunc_string_at_impl_TypesOk_1.eq6 _ _ _ _
  · cases h
theorem slices_IndexFunc_string_at_impl_TypesOk_1.E_ok : EnvOk Tryz.prog slices_IndexFunc_string_at_impl_TypesOk_1.E := ⟨⟨impl_TypesOk_1.sound, callable_of (by kernel_rfl)⟩, trivial⟩
theorem slices_IndexFunc_string_at_impl_TypesOk_1.sound : Sound Tryz.prog 150 slices_IndexFunc_string_at_impl_TypesOk_1.s := by
  refine func_sound (f := slices_IndexFunc_string_at_impl_TypesOk_1.a) (G := slices_IndexFunc_string_at_impl_TypesOk_1.G) (fn := Tryz.f150) (body := bodyOf Tryz.prog 150) 1000 (by kernel_rfl) slices_IndexFunc_string_at_impl_TypesOk_1.E_ok Tryz.func150 (by kernel_rfl) (by kernel_rfl) (by kernel_rfl) (ptsOk_of (by kernel_rfl)) ?_ ?_ ?_ ?_
  · intro r H x h
    unfold slices_IndexFunc_string_at_impl_TypesOk_1.a at h
    simp only at h
    split at h
    · cases h; rfl
    · cases h
  · exact fun q avs H => pick1_none slices_IndexFunc_string_at_impl_TypesOk_1.G6_0 (rfl)
  · intro k q pt avs H x _ h
    rcases pick1_some h with ⟨rfl, h⟩ | h
    · exact slices_IndexFunc_string_at_impl_TypesOk_1.G6_s _ h
    cases h
  · intro k avs H o h
    try dsimp only at h
    split at h
    · cases h; exact slices_IndexFunc_string_at_impl_TypesOk_1.eq _ _
    · cases h

def slices_ContainsFunc_string_at_impl_TypesOk_1.a : FnA (Bool) := ⟨9, [.tmp 4], .bool, [], [], fun x H => match x, H with
  | .bs false r, [] => some r
  | _, _ => none⟩
def slices_ContainsFunc_string_at_impl_TypesOk_1.s : Spec := mkS [.con .str, .fn 117 0 []] (fun k avs H => match avs, H with
  | [.con .str a0, .fn 117 0 []], [] => some (slices_ContainsFunc_string_at_impl_TypesOk_1.f k a0)
  | _, _ => none) (fun r => (.bs false r, []))
def slices_ContainsFunc_string_at_impl_TypesOk_1.E : Env := [((150, [117]), slices_IndexFunc_string_at_impl_TypesOk_1.s)]
def slices_ContainsFunc_string_at_impl_TypesOk_1.G (k p : Nat) (avs : List AV) (H : List HE) : Option (Bool) := none
set_option maxRecDepth 100000 in
theorem slices_ContainsFunc_string_at_impl_TypesOk_1.eq (k : Nat) (a0 : List ByteArray) : fromTop Tryz.prog slices_ContainsFunc_string_at_impl_TypesOk_1.E k slices_ContainsFunc_string_at_impl_TypesOk_1.a (slices_ContainsFunc_string_at_impl_TypesOk_1.G k) 1000 (bodyOf Tryz.prog 116) [.con .str a0, .fn 117 0 []] [] = slices_ContainsFunc_string_at_impl_TypesOk_1.f k a0 := by kernel_rfl
theorem slices_ContainsFunc_string_at_impl_TypesOk_1.E_ok : EnvOk Tryz.prog slices_ContainsFunc_string_at_impl_TypesOk_1.E := ⟨⟨slices_IndexFunc_string_at_impl_TypesOk_1.sound, callable_of (by kernel_rfl)⟩, trivial⟩
theorem slices_ContainsFunc_string_at_impl_TypesOk_1.sound : Sound Tryz.prog 116 slices_ContainsFunc_string_at_impl_TypesOk_1.s := by
  refine func_sound (f := slices_ContainsFunc_string_at_impl_TypesOk_1.a) (G := slices_ContainsFunc_string_at_impl_TypesOk_1.G) (fn := Tryz.f116) (body := bodyOf Tryz.prog 116) 1000 (by kernel_rfl) slices_ContainsFunc_string_at_impl_TypesOk_1.E_ok Tryz.func116 (by kernel_rfl) (by kernel_rfl) (by kernel_rfl) (ptsOk_of (by kernel_rfl)) ?_ ?_ ?_ ?_
  · intro r H x h
    unfold slices_ContainsFunc_string_at_impl_TypesOk_1.a at h
    simp only at h
    split at h
    · cases h; rfl
    · cases h
  · intro q avs H; rfl
  · intro k q pt avs H x _ h; cases h
  · intro k avs H o h
    try dsimp only at h
    split at h
    · cases h; exact slices_ContainsFunc_string_at_impl_TypesOk_1.eq _ _
    · cases h

def impl_TypesOk.a : FnA (Bool) := ⟨11, [.tmp 2], .bool, [], [], fun x H => match x, H with
  | .bs false r, [] => some r
  | _, _ => none⟩
def impl_TypesOk.s : Spec := mkS [.con .str] (fun k avs H => match avs, H with
  | [.con .str a0], [] => some (impl_TypesOk.f k a0)
  | _, _ => none) (fun r => (.bs false r, []))
def impl_TypesOk.E : Env := [((115, []), impl_size_string.s), ((50, []), impl_within.s), ((116, [117]), slices_ContainsFunc_string_at_impl_TypesOk_1.s)]
def impl_TypesOk.G (k p : Nat) (avs : List AV) (H : List HE) : Option (Bool) := none
set_option maxRecDepth 100000 in
theorem impl_TypesOk.eq (k : Nat) (a0 : List ByteArray) : fromTop Tryz.prog impl_TypesOk.E k impl_TypesOk.a (impl_TypesOk.G k) 1000 (bodyOf Tryz.prog 86) [.con .str a0] [] = impl_TypesOk.f k a0 := by kernel_rfl
theorem impl_TypesOk.E_ok : EnvOk Tryz.prog impl_TypesOk.E := ⟨⟨impl_size_string.sound, callable_of (by kernel_rfl)⟩, ⟨impl_within.sound, callable_of (by kernel_rfl)⟩, ⟨slices_ContainsFunc_string_at_impl_TypesOk_1.sound, callable_of (by kernel_rfl)⟩, trivial⟩
theorem impl_TypesOk.sound : Sound Tryz.prog 86 impl_TypesOk.s := by
  refine func_sound (f := impl_TypesOk.a) (G := impl_TypesOk.G) (fn := Tryz.f86) (body := bodyOf Tryz.prog 86) 1000 (by kernel_rfl) impl_TypesOk.E_ok Tryz.func86 (by kernel_rfl) (by kernel_rfl) (by kernel_rfl) (ptsOk_of (by kernel_rfl)) ?_ ?_ ?_ ?_
  · intro r H x h
    unfold impl_TypesOk.a at h
    simp only at h
    split at h
    · cases h; rfl
    · cases h
  · intro q avs H; rfl
  · intro k q pt avs H x _ h; cases h
  · intro k avs H o h
    try dsimp only at h
    split at h
    · cases h; exact impl_TypesOk.eq _ _
    · cases h

def impl_size_implObj.a : FnA (Int) := ⟨5, [.tmp 2], .val, [], [], fun x H => match x, H with
  | .v (.int .i64 r), [] => some r
  | _, _ => none⟩
def impl_size_implObj.s : Spec := mkS [.con (.pair (.int .i64) (.sl (.int .i64)))] (fun k avs H => match avs, H with
  | [.con (.pair (.int .i64) (.sl (.int .i64))) a0], [] => some (impl_size_implObj.f a0)
  | _, _ => none) (fun r => (.v (.int .i64 r), []))
def impl_size_implObj.E : Env := []
def impl_size_implObj.G (k p : Nat) (avs : List AV) (H : List HE) : Option (Int) := none
set_option maxRecDepth 100000 in
theorem impl_size_implObj.eq (k : Nat) (a0 : List (Int × List Int)) : fromTop Tryz.prog impl_size_implObj.E k impl_size_implObj.a (impl_size_implObj.G k) 1000 (bodyOf Tryz.prog 119) [.con (.pair (.int .i64) (.sl (.int .i64))) a0] [] = impl_size_implObj.f a0 := by kernel_rfl
theorem impl_size_implObj.E_ok : EnvOk Tryz.prog impl_size_implObj.E := trivial
theorem impl_size_implObj.sound : Sound Tryz.prog 119 impl_size_implObj.s := by
  refine func_sound (f := impl_size_implObj.a) (G := impl_size_implObj.G) (fn := Tryz.f119) (body := bodyOf Tryz.prog 119) 1000 (by kernel_rfl) impl_size_implObj.E_ok Tryz.func119 (by kernel_rfl) (by kernel_rfl) (by kernel_rfl) (ptsOk_of (by kernel_rfl)) ?_ ?_ ?_ ?_
  · intro r H x h
    unfold impl_size_implObj.a at h
    simp only at h
    split at h
    · cases h; rfl
    · cases h
  · intro q avs H; rfl
  · intro k q pt avs H x _ h; cases h
  · intro k avs H o h
    try dsimp only at h
    split at h
    · cases h; exact impl_size_implObj.eq _ _
    · cases h

def _impl_Graph_isNode.a : FnA (Bool) := ⟨10, [.tmp 4], .bool, [], [], fun x H => match x, H with
  | .bs false r, [] => some r
  | _, _ => none⟩
def _impl_Graph_isNode.s : Spec := mkS [.agg [.con (.int .i64), .con (.pair (.int .i64) (.sl (.int .i64)))], .val] (fun k avs H => match avs, H with
  | [.agg [.con (.int .i64) a0_0, .con (.pair (.int .i64) (.sl (.int .i64))) a0_1], .v (.int .i64 a1)], [] => some (_impl_Graph_isNode.f a0_0 a0_1 a1)
  | _, _ => none) (fun r => (.bs false r, []))
def _impl_Graph_isNode.E : Env := [((119, []), impl_size_implObj.s), ((50, []), impl_within.s)]
def _impl_Graph_isNode.G (k p : Nat) (avs : List AV) (H : List HE) : Option (Bool) := none
set_option maxRecDepth 100000 in
theorem _impl_Graph_isNode.eq (k : Nat) (a0_0 : List Int) (a0_1 : List (Int × List Int)) (a1 : Int) : fromTop Tryz.prog _impl_Graph_isNode.E k _impl_Graph_isNode.a (_impl_Graph_isNode.G k) 1000 (bodyOf Tryz.prog 88) [.agg [.con (.int .i64) a0_0, .con (.pair (.int .i64) (.sl (.int .i64))) a0_1], .v (.int .i64 a1)] [] = _impl_Graph_isNode.f a0_0 a0_1 a1 := by kernel_rfl
theorem _impl_Graph_isNode.E_ok : EnvOk Tryz.prog _impl_Graph_isNode.E := ⟨⟨impl_size_implObj.sound, callable_of (by kernel_rfl)⟩, ⟨impl_within.sound, callable_of (by kernel_rfl)⟩, trivial⟩
theorem _impl_Graph_isNode.sound : Sound Tryz.prog 88 _impl_Graph_isNode.s := by
  refine func_sound (f := _impl_Graph_isNode.a) (G := _impl_Graph_isNode.G) (fn := Tryz.f88) (body := bodyOf Tryz.prog 88) 1000 (by kernel_rfl) _impl_Graph_isNode.E_ok Tryz.func88 (by kernel_rfl) (by kernel_rfl) (by kernel_rfl) (ptsOk_of (by kernel_rfl)) ?_ ?_ ?_ ?_
  · intro r H x h
    unfold _impl_Graph_isNode.a at h
    simp only at h
    split at h
    · cases h; rfl
    · cases h
  · intro q avs H; rfl
  · intro k q pt avs H x _ h; cases h
  · intro k avs H o h
    try dsimp only at h
    split at h
    · cases h; exact _impl_Graph_isNode.eq _ _ _ _
    · cases h

def impl_GraphOk_1.a : FnA (Bool) := ⟨8, [.tmp 3], .bool, [], [], fun x H => match x, H with
  | .bs false r, [] => some r
  | _, _ => none⟩
def impl_GraphOk_1.s : Spec := mkS [.val, .elt (.pair (.sl (.int .i64)) (.sl (.pair (.int .i64) (.sl (.int .i64)))))] (fun k avs H => match avs, H with
  | [.v (.int .i64 a0), .elt (.pair (.sl (.int .i64)) (.sl (.pair (.int .i64) (.sl (.int .i64))))) a1 0], [] => some (impl_GraphOk_1.f a0 a1)
  | _, _ => none) (fun r => (.bs false r, []))
def impl_GraphOk_1.E : Env := [((88, []), _impl_Graph_isNode.s)]
def impl_GraphOk_1.G (k p : Nat) (avs : List AV) (H : List HE) : Option (Bool) := none
set_option maxRecDepth 100000 in
theorem impl_GraphOk_1.eq (k : Nat) (a0 : Int) (a1 : (List Int) × List (Int × List Int)) : fromTop Tryz.prog impl_GraphOk_1.E k impl_GraphOk_1.a (impl_GraphOk_1.G k) 1000 (bodyOf Tryz.prog 87) [.v (.int .i64 a0), .elt (.pair (.sl (.int .i64)) (.sl (.pair (.int .i64) (.sl (.int .i64))))) a1 0] [] = impl_GraphOk_1.f a0 a1 := by kernel_rfl
theorem impl_GraphOk_1.E_ok : EnvOk Tryz.prog impl_GraphOk_1.E := ⟨⟨_impl_Graph_isNode.sound, callable_of (by kernel_rfl)⟩, trivial⟩
theorem impl_GraphOk_1.sound : Sound Tryz.prog 87 impl_GraphOk_1.s := by
  refine func_sound (f := impl_GraphOk_1.a) (G := impl_GraphOk_1.G) (fn := Tryz.f87) (body := bodyOf Tryz.prog 87) 1000 (by kernel_rfl) impl_GraphOk_1.E_ok Tryz.func87 (by kernel_rfl) (by kernel_rfl) (by kernel_rfl) (ptsOk_of (by kernel_rfl)) ?_ ?_ ?_ ?_
  · intro r H x h
    unfold impl_GraphOk_1.a at h
    simp only at h
    split at h
    · cases h; rfl
    · cases h
  · intro q avs H; rfl
  · intro k q pt avs H x _ h; cases h
  · intro k avs H o h
    try dsimp only at h
    split at h
    · cases h; exact impl_GraphOk_1.eq _ _ _
    · cases h

def slices_IndexFunc_int64_at_impl_GraphOk_1.a : FnA (Int) := ⟨19, [.tmp 4], .val, [], [⟨6, [0, 1, 7, 8], [.con (.int .i64), .fn 87 0 [.elt (.pair (.sl (.int .i64)) (.sl (.pair (.int .i64) (.sl (.int .i64)))))], .val, .val], []⟩], fun x H => match x, H with
  | .v (.int .i64 r), [] => some r
  | _, _ => none⟩
def slices_IndexFunc_int64_at_impl_GraphOk_1.s : Spec := mkS [.con (.int .i64), .fn 87 0 [.elt (.pair (.sl (.int .i64)) (.sl (.pair (.int .i64) (.sl (.int .i64)))))]] (fun k avs H => match avs, H with
  | [.con (.int .i64) a0, .fn 87 0 [.elt (.pair (.sl (.int .i64)) (.sl (.pair (.int .i64) (.sl (.int .i64))))) a1_0 0]], [] => some (slices_IndexFunc_int64_at_impl_GraphOk_1.f k a0 a1_0)
  | _, _ => none) (fun r => (.v (.int .i64 r), []))
def slices_IndexFunc_int64_at_impl_GraphOk_1.E : Env := [((87, []), impl_GraphOk_1.s)]
def slices_IndexFunc_int64_at_impl_GraphOk_1.G6 (k : Nat) (avs : List AV) (H : List HE) : Option (Int) := match avs, H with
  | [.con (.int .i64) x0, .fn 87 0 [.elt (.pair (.sl (.int .i64)) (.sl (.pair (.int .i64) (.sl (.int .i64))))) x1_0 0], .v (.int .i64 x7), .v (.int .i64 x8)], [] => slices_IndexFunc_int64_at_impl_GraphOk_1.p6 k x0 x1_0 x7 x8
  | _, _ => none
def slices_IndexFunc_int64_at_impl_GraphOk_1.G (k p : Nat) (avs : List AV) (H : List HE) : Option (Int) := (pick1 6 (slices_IndexFunc_int64_at_impl_GraphOk_1.G6 k avs H) none p)
set_option maxRecDepth 100000 in
theorem slices_IndexFunc_int64_at_impl_GraphOk_1.eq (k : Nat) (a0 : List Int) (a1_0 : (List Int) × List (Int × List Int)) : fromTop Tryz.prog slices_IndexFunc_int64_at_impl_GraphOk_1.E k slices_IndexFunc_int64_at_impl_GraphOk_1.a (slices_IndexFunc_int64_at_impl_GraphOk_1.G k) 1000 (bodyOf Tryz.prog 93) [.con (.int .i64) a0, .fn 87 0 [.elt (.pair (.sl (.int .i64)) (.sl (.pair (.int .i64) (.sl (.int .i64))))) a1_0 0]] [] = slices_IndexFunc_int64_at_impl_GraphOk_1.f k a0 a1_0 := by kernel_rfl
set_option maxRecDepth 100000 in
theorem slices_IndexFunc_int64_at_impl_GraphOk_1.eq6 (k : Nat) (x0 : List Int) (x1_0 : (List Int) × List (Int × List Int)) (x7 : Int) (x8 : Int) : fromPt Tryz.prog slices_IndexFunc_int64_at_impl_GraphOk_1.E k slices_IndexFunc_int64_at_impl_GraphOk_1.a (slices_IndexFunc_int64_at_impl_GraphOk_1.G k) 1000 (bodyOf Tryz.prog 93) 6 [.con (.int .i64) x0, .fn 87 0 [.elt (.pair (.sl (.int .i64)) (.sl (.pair (.int .i64) (.sl (.int .i64))))) x1_0 0], .v (.int .i64 x7), .v (.int .i64 x8)] [] = slices_IndexFunc_int64_at_impl_GraphOk_1.p6 (k + 1) x0 x1_0 x7 x8 := by kernel_rfl
theorem slices_IndexFunc_int64_at_impl_GraphOk_1.G6_0 {avs : List AV} {H : List HE} : slices_IndexFunc_int64_at_impl_GraphOk_1.G6 0 avs H = none := by unfold slices_IndexFunc_int64_at_impl_GraphOk_1.G6; split <;> rfl
theorem slices_IndexFunc_int64_at_impl_GraphOk_1.G6_s (k : Nat) {avs : List AV} {H : List HE} {x : Int} (h : slices_IndexFunc_int64_at_impl_GraphOk_1.G6 (k + 1) avs H = some x) : fromPt Tryz.prog slices_IndexFunc_int64_at_impl_GraphOk_1.E k slices_IndexFunc_int64_at_impl_GraphOk_1.a (slices_IndexFunc_int64_at_impl_GraphOk_1.G k) 1000 (bodyOf Tryz.prog 93) 6 avs H = some x := by
  unfold slices_IndexFunc_int64_at_impl_GraphOk_1.G6 at h
  split at h
  · rw [← h]; exact slices_IndexFunc_int64_at_impl_GraphOk_1.eq6 _ _ _ _ _
  · cases h
theorem slices_IndexFunc_int64_at_impl_GraphOk_1.E_ok : EnvOk Tryz.prog slices_IndexFunc_int64_at_impl_GraphOk_1.E := ⟨⟨impl_GraphOk_1.sound, callable_of (by kernel_rfl)⟩, trivial⟩
theorem slices_IndexFunc_int64_at_impl_GraphOk_1.sound : Sound Tryz.prog 93 slices_IndexFunc_int64_at_impl_GraphOk_1.s := by
  refine func_sound (f := slices_IndexFunc_int64_at_impl_GraphOk_1.a) (G := slices_IndexFunc_int64_at_impl_GraphOk_1.G) (fn := Tryz.f93) (body := bodyOf Tryz.prog 93) 1000 (by kernel_rfl) slices_IndexFunc_int64_at_impl_GraphOk_1.E_ok Tryz.func93 (by kernel_rfl) (by kernel_rfl) (by kernel_rfl) (ptsOk_of (by kernel_rfl)) ?_ ?_ ?_ ?_
  · intro r H x h
    unfold slices_IndexFunc_int64_at_impl_GraphOk_1.a at h
    simp only at h
    split at h
    · cases h; rfl
    · cases h
  · exact fun q avs H => pick1_none slices_IndexFunc_int64_at_impl_GraphOk_1.G6_0 (rfl)
  · intro k q pt avs H x _ h
    rcases pick1_some h with ⟨rfl, h⟩ | h
    · exact slices_IndexFunc_int64_at_impl_GraphOk_1.G6_s _ h
    cases h
  · intro k avs H o h
    try dsimp only at h
    split at h
    · cases h; exact slices_IndexFunc_int64_at_impl_GraphOk_1.eq _ _ _
    · cases h

def slices_ContainsFunc_int64_at_impl_GraphOk_1.a : FnA (Bool) := ⟨9, [.tmp 4], .bool, [], [], fun x H => match x, H with
  | .bs false r, [] => some r
  | _, _ => none⟩
def slices_ContainsFunc_int64_at_impl_GraphOk_1.s : Spec := mkS [.con (.int .i64), .fn 87 0 [.elt (.pair (.sl (.int .i64)) (.sl (.pair (.int .i64) (.sl (.int .i64)))))]] (fun k avs H => match avs, H with
  | [.con (.int .i64) a0, .fn 87 0 [.elt (.pair (.sl (.int .i64)) (.sl (.pair (.int .i64) (.sl (.int .i64))))) a1_0 0]], [] => some (slices_ContainsFunc_int64_at_impl_GraphOk_1.f k a0 a1_0)
  | _, _ => none) (fun r => (.bs false r, []))
def slices_ContainsFunc_int64_at_impl_GraphOk_1.E : Env := [((93, [87]), slices_IndexFunc_int64_at_impl_GraphOk_1.s)]
def slices_ContainsFunc_int64_at_impl_GraphOk_1.G (k p : Nat) (avs : List AV) (H : List HE) : Option (Bool) := none
set_option maxRecDepth 100000 in
theorem slices_ContainsFunc_int64_at_impl_GraphOk_1.eq (k : Nat) (a0 : List Int) (a1_0 : (List Int) × List (Int × List Int)) : fromTop Tryz.prog slices_ContainsFunc_int64_at_impl_GraphOk_1.E k slices_ContainsFunc_int64_at_impl_GraphOk_1.a (slices_ContainsFunc_int64_at_impl_GraphOk_1.G k) 1000 (bodyOf Tryz.prog 48) [.con (.int .i64) a0, .fn 87 0 [.elt (.pair (.sl (.int .i64)) (.sl (.pair (.int .i64) (.sl (.int .i64))))) a1_0 0]] [] = slices_ContainsFunc_int64_at_impl_GraphOk_1.f k a0 a1_0 := by kernel_rfl
theorem slices_ContainsFunc_int64_at_impl_GraphOk_1.E_ok : EnvOk Tryz.prog slices_ContainsFunc_int64_at_impl_GraphOk_1.E := ⟨⟨slices_IndexFunc_int64_at_impl_GraphOk_1.sound, callable_of (by kernel_rfl)⟩, trivial⟩
theorem slices_ContainsFunc_int64_at_impl_GraphOk_1.sound : Sound Tryz.prog 48 slices_ContainsFunc_int64_at_impl_GraphOk_1.s := by
  refine func_sound (f := slices_ContainsFunc_int64_at_impl_GraphOk_1.a) (G := slices_ContainsFunc_int64_at_impl_GraphOk_1.G) (fn := Tryz.f48) (body := bodyOf Tryz.prog 48) 1000 (by kernel_rfl) slices_ContainsFunc_int64_at_impl_GraphOk_1.E_ok Tryz.func48 (by kernel_rfl) (by kernel_rfl) (by kernel_rfl) (ptsOk_of (by kernel_rfl)) ?_ ?_ ?_ ?_
  · intro r H x h
    unfold slices_ContainsFunc_int64_at_impl_GraphOk_1.a at h
    simp only at h
    split at h
    · cases h; rfl
    · cases h
  · intro q avs H; rfl
  · intro k q pt avs H x _ h; cases h
  · intro k avs H o h
    try dsimp only at h
    split at h
    · cases h; exact slices_ContainsFunc_int64_at_impl_GraphOk_1.eq _ _ _
    · cases h

def impl_isObject_at__impl_Graph_isNode.a : FnA (Bool) := ⟨51, [.tmp 6], .bool, [], [⟨14, [0, 2, 4, 29, 30, 31], [.con .str, .fn 88 1 [.agg [.con (.int .i64), .con (.pair (.int .i64) (.sl (.int .i64)))]], .box [.val, .con (.int .i64)], .con (.int .i64), .val, .val], []⟩], fun x H => match x, H with
  | .bs false r, [] => some r
  | _, _ => none⟩
def impl_isObject_at__impl_Graph_isNode.s : Spec := mkS [.con .str, .agg [.val, .con (.int .i64)], .fn 88 1 [.agg [.con (.int .i64), .con (.pair (.int .i64) (.sl (.int .i64)))]]] (fun k avs H => match avs, H with
  | [.con .str a0, .agg [.v (.int .i64 a1_0), .con (.int .i64) a1_1], .fn 88 1 [.agg [.con (.int .i64) a2_0_0, .con (.pair (.int .i64) (.sl (.int .i64))) a2_0_1]]], [] => some (impl_isObject_at__impl_Graph_isNode.f k a0 a1_0 a1_1 a2_0_0 a2_0_1)
  | _, _ => none) (fun r => (.bs false r, []))
def impl_isObject_at__impl_Graph_isNode.E : Env := [((115, []), impl_size_string.s), ((50, []), impl_within.s), ((88, []), _impl_Graph_isNode.s)]
def impl_isObject_at__impl_Graph_isNode.G14 (k : Nat) (avs : List AV) (H : List HE) : Option (Bool) := match avs, H with
  | [.con .str x0, .fn 88 1 [.agg [.con (.int .i64) x2_0_0, .con (.pair (.int .i64) (.sl (.int .i64))) x2_0_1]], .box 0 0, .con (.int .i64) x29, .v (.int .i64 x30), .v (.int .i64 x31)], [.box [.v (.int .i64 x4_0), .con (.int .i64) x4_1]] => impl_isObject_at__impl_Graph_isNode.p14 k x0 x2_0_0 x2_0_1 x4_0 x4_1 x29 x30 x31
  | _, _ => none
def impl_isObject_at__impl_Graph_isNode.G (k p : Nat) (avs : List AV) (H : List HE) : Option (Bool) := (pick1 14 (impl_isObject_at__impl_Graph_isNode.G14 k avs H) none p)
set_option maxRecDepth 100000 in
theorem impl_isObject_at__impl_Graph_isNode.eq (k : Nat) (a0 : List ByteArray) (a1_0 : Int) (a1_1 : List Int) (a2_0_0 : List Int) (a2_0_1 : List (Int × List Int)) : fromTop Tryz.prog impl_isObject_at__impl_Graph_isNode.E k impl_isObject_at__impl_Graph_isNode.a (impl_isObject_at__impl_Graph_isNode.G k) 1000 (bodyOf Tryz.prog 91) [.con .str a0, .agg [.v (.int .i64 a1_0), .con (.int .i64) a1_1], .fn 88 1 [.agg [.con (.int .i64) a2_0_0, .con (.pair (.int .i64) (.sl (.int .i64))) a2_0_1]]] [] = impl_isObject_at__impl_Graph_isNode.f k a0 a1_0 a1_1 a2_0_0 a2_0_1 := by kernel_rfl
set_option maxRecDepth 100000 in
theorem impl_isObject_at__impl_Graph_isNode.eq14 (k : Nat) (x0 : List ByteArray) (x2_0_0 : List Int) (x2_0_1 : List (Int × List Int)) (x4_0 : Int) (x4_1 : List Int) (x29 : List Int) (x30 : Int) (x31 : Int) : fromPt Tryz.prog impl_isObject_at__impl_Graph_isNode.E k impl_isObject_at__impl_Graph_isNode.a (impl_isObject_at__impl_Graph_isNode.G k) 1000 (bodyOf Tryz.prog 91) 14 [.con .str x0, .fn 88 1 [.agg [.con (.int .i64) x2_0_0, .con (.pair (.int .i64) (.sl (.int .i64))) x2_0_1]], .box 0 0, .con (.int .i64) x29, .v (.int .i64 x30), .v (.int .i64 x31)] [.box [.v (.int .i64 x4_0), .con (.int .i64) x4_1]] = impl_isObject_at__impl_Graph_isNode.p14 (k + 1) x0 x2_0_0 x2_0_1 x4_0 x4_1 x29 x30 x31 := by kernel_rfl
theorem impl_isObject_at__impl_Graph_isNode.G14_0 {avs : List AV} {H : List HE} : impl_isObject_at__impl_Graph_isNode.G14 0 avs H = none := by unfold impl_isObject_at__impl_Graph_isNode.G14; split <;> rfl
theorem impl_isObject_at__impl_Graph_isNode.G14_s (k : Nat) {avs : List AV} {H : List HE} {x : Bool} (h : impl_isObject_at__impl_Graph_isNode.G14 (k + 1) avs H = some x) : fromPt Tryz.prog impl_isObject_at__impl_Graph_isNode.E k impl_isObject_at__impl_Graph_isNode.a (impl_isObject_at__impl_Graph_isNode.G k) 1000 (bodyOf Tryz.prog 91) 14 avs H = some x := by
  unfold impl_isObject_at__impl_Graph_isNode.G14 at h
  split at h
  · rw [← h]; exact impl_isObject_at__impl_Graph_isNode.eq14 _ _ _ _ _ _ _ _ _
  · cases h
theorem impl_isObject_at__impl_Graph_isNode.E_ok : EnvOk Tryz.prog impl_isObject_at__impl_Graph_isNode.E := ⟨⟨impl_size_string.sound, callable_of (by kernel_rfl)⟩, ⟨impl_within.sound, callable_of (by kernel_rfl)⟩, ⟨_impl_Graph_isNode.sound, callable_of (by kernel_rfl)⟩, trivial⟩
theorem impl_isObject_at__impl_Graph_isNode.sound : Sound Tryz.prog 91 impl_isObject_at__impl_Graph_isNode.s := by
  refine func_sound (f := impl_isObject_at__impl_Graph_isNode.a) (G := impl_isObject_at__impl_Graph_isNode.G) (fn := Tryz.f91) (body := bodyOf Tryz.prog 91) 1000 (by kernel_rfl) impl_isObject_at__impl_Graph_isNode.E_ok Tryz.func91 (by kernel_rfl) (by kernel_rfl) (by kernel_rfl) (ptsOk_of (by kernel_rfl)) ?_ ?_ ?_ ?_
  · intro r H x h
    unfold impl_isObject_at__impl_Graph_isNode.a at h
    simp only at h
    split at h
    · cases h; rfl
    · cases h
  · exact fun q avs H => pick1_none impl_isObject_at__impl_Graph_isNode.G14_0 (rfl)
  · intro k q pt avs H x _ h
    rcases pick1_some h with ⟨rfl, h⟩ | h
    · exact impl_isObject_at__impl_Graph_isNode.G14_s _ h
    cases h
  · intro k avs H o h
    try dsimp only at h
    split at h
    · cases h; exact impl_isObject_at__impl_Graph_isNode.eq _ _ _ _ _ _
    · cases h

def impl_GraphOk_2.a : FnA (Bool) := ⟨11, [.tmp 4], .bool, [], [], fun x H => match x, H with
  | .bs false r, [] => some r
  | _, _ => none⟩
def impl_GraphOk_2.s : Spec := mkS [.agg [.val, .con (.int .i64)], .elt (.sl .str), .elt (.pair (.sl (.int .i64)) (.sl (.pair (.int .i64) (.sl (.int .i64)))))] (fun k avs H => match avs, H with
  | [.agg [.v (.int .i64 a0_0), .con (.int .i64) a0_1], .elt (.sl .str) a1 0, .elt (.pair (.sl (.int .i64)) (.sl (.pair (.int .i64) (.sl (.int .i64))))) a2 0], [] => some (impl_GraphOk_2.f k a0_0 a0_1 a1 a2)
  | _, _ => none) (fun r => (.bs false r, []))
def impl_GraphOk_2.E : Env := [((91, [88]), impl_isObject_at__impl_Graph_isNode.s)]
def impl_GraphOk_2.G (k p : Nat) (avs : List AV) (H : List HE) : Option (Bool) := none
set_option maxRecDepth 100000 in
theorem impl_GraphOk_2.eq (k : Nat) (a0_0 : Int) (a0_1 : List Int) (a1 : List ByteArray) (a2 : (List Int) × List (Int × List Int)) : fromTop Tryz.prog impl_GraphOk_2.E k impl_GraphOk_2.a (impl_GraphOk_2.G k) 1000 (bodyOf Tryz.prog 90) [.agg [.v (.int .i64 a0_0), .con (.int .i64) a0_1], .elt (.sl .str) a1 0, .elt (.pair (.sl (.int .i64)) (.sl (.pair (.int .i64) (.sl (.int .i64))))) a2 0] [] = impl_GraphOk_2.f k a0_0 a0_1 a1 a2 := by kernel_rfl
theorem impl_GraphOk_2.E_ok : EnvOk Tryz.prog impl_GraphOk_2.E := ⟨⟨impl_isObject_at__impl_Graph_isNode.sound, callable_of (by kernel_rfl)⟩, trivial⟩
theorem impl_GraphOk_2.sound : Sound Tryz.prog 90 impl_GraphOk_2.s := by
  refine func_sound (f := impl_GraphOk_2.a) (G := impl_GraphOk_2.G) (fn := Tryz.f90) (body := bodyOf Tryz.prog 90) 1000 (by kernel_rfl) impl_GraphOk_2.E_ok Tryz.func90 (by kernel_rfl) (by kernel_rfl) (by kernel_rfl) (ptsOk_of (by kernel_rfl)) ?_ ?_ ?_ ?_
  · intro r H x h
    unfold impl_GraphOk_2.a at h
    simp only at h
    split at h
    · cases h; rfl
    · cases h
  · intro q avs H; rfl
  · intro k q pt avs H x _ h; cases h
  · intro k avs H o h
    try dsimp only at h
    split at h
    · cases h; exact impl_GraphOk_2.eq _ _ _ _ _
    · cases h

def slices_IndexFunc_implObj_at_impl_GraphOk_2.a : FnA (Int) := ⟨19, [.tmp 4], .val, [], [⟨6, [0, 1, 7, 8], [.con (.pair (.int .i64) (.sl (.int .i64))), .fn 90 0 [.elt (.sl .str), .elt (.pair (.sl (.int .i64)) (.sl (.pair (.int .i64) (.sl (.int .i64)))))], .val, .val], []⟩], fun x H => match x, H with
  | .v (.int .i64 r), [] => some r
  | _, _ => none⟩
def slices_IndexFunc_implObj_at_impl_GraphOk_2.s : Spec := mkS [.con (.pair (.int .i64) (.sl (.int .i64))), .fn 90 0 [.elt (.sl .str), .elt (.pair (.sl (.int .i64)) (.sl (.pair (.int .i64) (.sl (.int .i64)))))]] (fun k avs H => match avs, H with
  | [.con (.pair (.int .i64) (.sl (.int .i64))) a0, .fn 90 0 [.elt (.sl .str) a1_0 0, .elt (.pair (.sl (.int .i64)) (.sl (.pair (.int .i64) (.sl (.int .i64))))) a1_1 0]], [] => some (slices_IndexFunc_implObj_at_impl_GraphOk_2.f k a0 a1_0 a1_1)
  | _, _ => none) (fun r => (.v (.int .i64 r), []))
def slices_IndexFunc_implObj_at_impl_GraphOk_2.E : Env := [((90, []), impl_GraphOk_2.s)]
def slices_IndexFunc_implObj_at_impl_GraphOk_2.G6 (k : Nat) (avs : List AV) (H : List HE) : Option (Int) := match avs, H with
  | [.con (.pair (.int .i64) (.sl (.int .i64))) x0, .fn 90 0 [.elt (.sl .str) x1_0 0, .elt (.pair (.sl (.int .i64)) (.sl (.pair (.int .i64) (.sl (.int .i64))))) x1_1 0], .v (.int .i64 x7), .v (.int .i64 x8)], [] => slices_IndexFunc_implObj_at_impl_GraphOk_2.p6 k x0 x1_0 x1_1 x7 x8
  | _, _ => none
def slices_IndexFunc_implObj_at_impl_GraphOk_2.G (k p : Nat) (avs : List AV) (H : List HE) : Option (Int) := (pick1 6 (slices_IndexFunc_implObj_at_impl_GraphOk_2.G6 k avs H) none p)
set_option maxRecDepth 100000 in
theorem slices_IndexFunc_implObj_at_impl_GraphOk_2.eq (k : Nat) (a0 : List (Int × List Int)) (a1_0 : List ByteArray) (a1_1 : (List Int) × List (Int × List Int)) : fromTop Tryz.prog slices_IndexFunc_implObj_at_impl_GraphOk_2.E k slices_IndexFunc_implObj_at_impl_GraphOk_2.a (slices_IndexFunc_implObj_at_impl_GraphOk_2.G k) 1000 (bodyOf Tryz.prog 120) [.con (.pair (.int .i64) (.sl (.int .i64))) a0, .fn 90 0 [.elt (.sl .str) a1_0 0, .elt (.pair (.sl (.int .i64)) (.sl (.pair (.int .i64) (.sl (.int .i64))))) a1_1 0]] [] = slices_IndexFunc_implObj_at_impl_GraphOk_2.f k a0 a1_0 a1_1 := by kernel_rfl
set_option maxRecDepth 100000 in
theorem slices_IndexFunc_implObj_at_impl_GraphOk_2.eq6 (k : Nat) (x0 : List (Int × List Int)) (x1_0 : List ByteArray) (x1_1 : (List Int) × List (Int × List Int)) (x7 : Int) (x8 : Int) : fromPt Tryz.prog slices_IndexFunc_implObj_at_impl_GraphOk_2.E k slices_IndexFunc_implObj_at_impl_GraphOk_2.a (slices_IndexFunc_implObj_at_impl_GraphOk_2.G k) 1000 (bodyOf Tryz.prog 120) 6 [.con (.pair (.int .i64) (.sl (.int .i64))) x0, .fn 90 0 [.elt (.sl .str) x1_0 0, .elt (.pair (.sl (.int .i64)) (.sl (.pair (.int .i64) (.sl (.int .i64))))) x1_1 0], .v (.int .i64 x7), .v (.int .i64 x8)] [] = slices_IndexFunc_implObj_at_impl_GraphOk_2.p6 (k + 1) x0 x1_0 x1_1 x7 x8 := by kernel_rfl
theorem slices_IndexFunc_implObj_at_impl_GraphOk_2.G6_0 {avs : List AV} {H : List HE} : slices_IndexFunc_implObj_at_impl_GraphOk_2.G6 0 avs H = none := by unfold slices_IndexFunc_implObj_at_impl_GraphOk_2.G6; split <;> rfl
theorem slices_IndexFunc_implObj_at_impl_GraphOk_2.G6_s (k : Nat) {avs : List AV} {H : List HE} {x : Int} (h : slices_IndexFunc_implObj_at_impl_GraphOk_2.G6 (k + 1) avs H = some x) : fromPt Tryz.prog slices_IndexFunc_implObj_at_impl_GraphOk_2.E k slices_IndexFunc_implObj_at_impl_GraphOk_2.a (slices_IndexFunc_implObj_at_impl_GraphOk_2.G k) 1000 (bodyOf Tryz.prog 120) 6 avs H = some x := by
  unfold slices_IndexFunc_implObj_at_impl_GraphOk_2.G6 at h
  split at h
  · rw [← h]; exact slices_IndexFunc_implObj_at_impl_GraphOk_2.eq6 _ _ _ _ _ _
  · cases h
theorem slices_IndexFunc_implObj_at_impl_GraphOk_2.E_ok : EnvOk Tryz.prog slices_IndexFunc_implObj_at_impl_GraphOk_2.E := ⟨⟨impl_GraphOk_2.sound, callable_of (by kernel_rfl)⟩, trivial⟩
theorem slices_IndexFunc_implObj_at_impl_GraphOk_2.sound : Sound Tryz.prog 120 slices_IndexFunc_implObj_at_impl_GraphOk_2.s := by
  refine func_sound (f := slices_IndexFunc_implObj_at_impl_GraphOk_2.a) (G := slices_IndexFunc_implObj_at_impl_GraphOk_2.G) (fn := Tryz.f120) (body := bodyOf Tryz.prog 120) 1000 (by kernel_rfl) slices_IndexFunc_implObj_at_impl_GraphOk_2.E_ok Tryz.func120 (by kernel_rfl) (by kernel_rfl) (by kernel_rfl) (ptsOk_of (by kernel_rfl)) ?_ ?_ ?_ ?_
  · intro r H x h
    unfold slices_IndexFunc_implObj_at_impl_GraphOk_2.a at h
    simp only at h
    split at h
    · cases h; rfl
    · cases h
  · exact fun q avs H => pick1_none slices_IndexFunc_implObj_at_impl_GraphOk_2.G6_0 (rfl)
  · intro k q pt avs H x _ h
    rcases pick1_some h with ⟨rfl, h⟩ | h
    · exact slices_IndexFunc_implObj_at_impl_GraphOk_2.G6_s _ h
    cases h
  · intro k avs H o h
    try dsimp only at h
    split at h
    · cases h; exact slices_IndexFunc_implObj_at_impl_GraphOk_2.eq _ _ _ _
    · cases h

def slices_ContainsFunc_implObj_at_impl_GraphOk_2.a : FnA (Bool) := ⟨9, [.tmp 4], .bool, [], [], fun x H => match x, H with
  | .bs false r, [] => some r
  | _, _ => none⟩
def slices_ContainsFunc_implObj_at_impl_GraphOk_2.s : Spec := mkS [.con (.pair (.int .i64) (.sl (.int .i64))), .fn 90 0 [.elt (.sl .str), .elt (.pair (.sl (.int .i64)) (.sl (.pair (.int .i64) (.sl (.int .i64)))))]] (fun k avs H => match avs, H with
  | [.con (.pair (.int .i64) (.sl (.int .i64))) a0, .fn 90 0 [.elt (.sl .str) a1_0 0, .elt (.pair (.sl (.int .i64)) (.sl (.pair (.int .i64) (.sl (.int .i64))))) a1_1 0]], [] => some (slices_ContainsFunc_implObj_at_impl_GraphOk_2.f k a0 a1_0 a1_1)
  | _, _ => none) (fun r => (.bs false r, []))
def slices_ContainsFunc_implObj_at_impl_GraphOk_2.E : Env := [((120, [90]), slices_IndexFunc_implObj_at_impl_GraphOk_2.s)]
def slices_ContainsFunc_implObj_at_impl_GraphOk_2.G (k p : Nat) (avs : List AV) (H : List HE) : Option (Bool) := none
set_option maxRecDepth 100000 in
theorem slices_ContainsFunc_implObj_at_impl_GraphOk_2.eq (k : Nat) (a0 : List (Int × List Int)) (a1_0 : List ByteArray) (a1_1 : (List Int) × List (Int × List Int)) : fromTop Tryz.prog slices_ContainsFunc_implObj_at_impl_GraphOk_2.E k slices_ContainsFunc_implObj_at_impl_GraphOk_2.a (slices_ContainsFunc_implObj_at_impl_GraphOk_2.G k) 1000 (bodyOf Tryz.prog 89) [.con (.pair (.int .i64) (.sl (.int .i64))) a0, .fn 90 0 [.elt (.sl .str) a1_0 0, .elt (.pair (.sl (.int .i64)) (.sl (.pair (.int .i64) (.sl (.int .i64))))) a1_1 0]] [] = slices_ContainsFunc_implObj_at_impl_GraphOk_2.f k a0 a1_0 a1_1 := by kernel_rfl
theorem slices_ContainsFunc_implObj_at_impl_GraphOk_2.E_ok : EnvOk Tryz.prog slices_ContainsFunc_implObj_at_impl_GraphOk_2.E := ⟨⟨slices_IndexFunc_implObj_at_impl_GraphOk_2.sound, callable_of (by kernel_rfl)⟩, trivial⟩
theorem slices_ContainsFunc_implObj_at_impl_GraphOk_2.sound : Sound Tryz.prog 89 slices_ContainsFunc_implObj_at_impl_GraphOk_2.s := by
  refine func_sound (f := slices_ContainsFunc_implObj_at_impl_GraphOk_2.a) (G := slices_ContainsFunc_implObj_at_impl_GraphOk_2.G) (fn := Tryz.f89) (body := bodyOf Tryz.prog 89) 1000 (by kernel_rfl) slices_ContainsFunc_implObj_at_impl_GraphOk_2.E_ok Tryz.func89 (by kernel_rfl) (by kernel_rfl) (by kernel_rfl) (ptsOk_of (by kernel_rfl)) ?_ ?_ ?_ ?_
  · intro r H x h
    unfold slices_ContainsFunc_implObj_at_impl_GraphOk_2.a at h
    simp only at h
    split at h
    · cases h; rfl
    · cases h
  · intro q avs H; rfl
  · intro k q pt avs H x _ h; cases h
  · intro k avs H o h
    try dsimp only at h
    split at h
    · cases h; exact slices_ContainsFunc_implObj_at_impl_GraphOk_2.eq _ _ _ _
    · cases h

def impl_GraphOk.a : FnA (Bool) := ⟨34, [.tmp 4], .bool, [], [⟨5, [2, 3, 20], [.box [.con .str], .box [.con (.int .i64), .con (.pair (.int .i64) (.sl (.int .i64)))], .bool], []⟩], fun x H => match x, H with
  | .bs false r, [] => some r
  | _, _ => none⟩
def impl_GraphOk.s : Spec := mkS [.con .str, .agg [.con (.int .i64), .con (.pair (.int .i64) (.sl (.int .i64)))]] (fun k avs H => match avs, H with
  | [.con .str a0, .agg [.con (.int .i64) a1_0, .con (.pair (.int .i64) (.sl (.int .i64))) a1_1]], [] => some (impl_GraphOk.f k a0 a1_0 a1_1)
  | _, _ => none) (fun r => (.bs false r, []))
def impl_GraphOk.E : Env := [((86, []), impl_TypesOk.s), ((48, [87]), slices_ContainsFunc_int64_at_impl_GraphOk_1.s), ((89, [90]), slices_ContainsFunc_implObj_at_impl_GraphOk_2.s)]
def impl_GraphOk.G5 (k : Nat) (avs : List AV) (H : List HE) : Option (Bool) := match avs, H with
  | [.box 0 0, .box 1 0, .bs false x20], [.box [.con .str x2_0], .box [.con (.int .i64) x3_0, .con (.pair (.int .i64) (.sl (.int .i64))) x3_1]] => impl_GraphOk.p5 k x2_0 x3_0 x3_1 x20
  | _, _ => none
def impl_GraphOk.G (k p : Nat) (avs : List AV) (H : List HE) : Option (Bool) := (pick1 5 (impl_GraphOk.G5 k avs H) none p)
set_option maxRecDepth 100000 in
theorem impl_GraphOk.eq (k : Nat) (a0 : List ByteArray) (a1_0 : List Int) (a1_1 : List (Int × List Int)) : fromTop Tryz.prog impl_GraphOk.E k impl_GraphOk.a (impl_GraphOk.G k) 1000 (bodyOf Tryz.prog 45) [.con .str a0, .agg [.con (.int .i64) a1_0, .con (.pair (.int .i64) (.sl (.int .i64))) a1_1]] [] = impl_GraphOk.f k a0 a1_0 a1_1 := by kernel_rfl
set_option maxRecDepth 100000 in
theorem impl_GraphOk.eq5 (k : Nat) (x2_0 : List ByteArray) (x3_0 : List Int) (x3_1 : List (Int × List Int)) (x20 : Bool) : fromPt Tryz.prog impl_GraphOk.E k impl_GraphOk.a (impl_GraphOk.G k) 1000 (bodyOf Tryz.prog 45) 5 [.box 0 0, .box 1 0, .bs false x20] [.box [.con .str x2_0], .box [.con (.int .i64) x3_0, .con (.pair (.int .i64) (.sl (.int .i64))) x3_1]] = impl_GraphOk.p5 (k + 1) x2_0 x3_0 x3_1 x20 := by kernel_rfl
theorem impl_GraphOk.G5_0 {avs : List AV} {H : List HE} : impl_GraphOk.G5 0 avs H = none := by unfold impl_GraphOk.G5; split <;> rfl
theorem impl_GraphOk.G5_s (k : Nat) {avs : List AV} {H : List HE} {x : Bool} (h : impl_GraphOk.G5 (k + 1) avs H = some x) : fromPt Tryz.prog impl_GraphOk.E k impl_GraphOk.a (impl_GraphOk.G k) 1000 (bodyOf Tryz.prog 45) 5 avs H = some x := by
  unfold impl_GraphOk.G5 at h
  split at h
  · rw [← h]; exact impl_GraphOk.eq5 _ _ _ _ _
  · cases h
theorem impl_GraphOk.E_ok : EnvOk Tryz.prog impl_GraphOk.E := ⟨⟨impl_TypesOk.sound, callable_of (by kernel_rfl)⟩, ⟨slices_ContainsFunc_int64_at_impl_GraphOk_1.sound, callable_of (by kernel_rfl)⟩, ⟨slices_ContainsFunc_implObj_at_impl_GraphOk_2.sound, callable_of (by kernel_rfl)⟩, trivial⟩
theorem impl_GraphOk.sound : Sound Tryz.prog 45 impl_GraphOk.s := by
  refine func_sound (f := impl_GraphOk.a) (G := impl_GraphOk.G) (fn := Tryz.f45) (body := bodyOf Tryz.prog 45) 1000 (by kernel_rfl) impl_GraphOk.E_ok Tryz.func45 (by kernel_rfl) (by kernel_rfl) (by kernel_rfl) (ptsOk_of (by kernel_rfl)) ?_ ?_ ?_ ?_
  · intro r H x h
    unfold impl_GraphOk.a at h
    simp only at h
    split at h
    · cases h; rfl
    · cases h
  · exact fun q avs H => pick1_none impl_GraphOk.G5_0 (rfl)
  · intro k q pt avs H x _ h
    rcases pick1_some h with ⟨rfl, h⟩ | h
    · exact impl_GraphOk.G5_s _ h
    cases h
  · intro k avs H o h
    try dsimp only at h
    split at h
    · cases h; exact impl_GraphOk.eq _ _ _ _
    · cases h

def impl_spaced.a : FnA (ByteArray) := ⟨19, [.tmp 2], .val, [], [⟨8, [3, 6, 7, 8], [.val, .con (.int .i64), .val, .val], []⟩], fun x H => match x, H with
  | .v (.string r), [] => some r
  | _, _ => none⟩
def impl_spaced.s : Spec := mkS [.con (.int .i64)] (fun k avs H => match avs, H with
  | [.con (.int .i64) a0], [] => some (impl_spaced.f k a0)
  | _, _ => none) (fun r => (.v (.string r), []))
def impl_spaced.E : Env := [((51, []), impl_decimal.s)]
def impl_spaced.G8 (k : Nat) (avs : List AV) (H : List HE) : Option (ByteArray) := match avs, H with
  | [.v (.string x3), .con (.int .i64) x6, .v (.int .i64 x7), .v (.int .i64 x8)], [] => impl_spaced.p8 k x3 x6 x7 x8
  | _, _ => none
def impl_spaced.G (k p : Nat) (avs : List AV) (H : List HE) : Option (ByteArray) := (pick1 8 (impl_spaced.G8 k avs H) none p)
set_option maxRecDepth 100000 in
theorem impl_spaced.eq (k : Nat) (a0 : List Int) : fromTop Tryz.prog impl_spaced.E k impl_spaced.a (impl_spaced.G k) 1000 (bodyOf Tryz.prog 47) [.con (.int .i64) a0] [] = impl_spaced.f k a0 := by kernel_rfl
set_option maxRecDepth 100000 in
theorem impl_spaced.eq8 (k : Nat) (x3 : ByteArray) (x6 : List Int) (x7 : Int) (x8 : Int) : fromPt Tryz.prog impl_spaced.E k impl_spaced.a (impl_spaced.G k) 1000 (bodyOf Tryz.prog 47) 8 [.v (.string x3), .con (.int .i64) x6, .v (.int .i64 x7), .v (.int .i64 x8)] [] = impl_spaced.p8 (k + 1) x3 x6 x7 x8 := by kernel_rfl
theorem impl_spaced.G8_0 {avs : List AV} {H : List HE} : impl_spaced.G8 0 avs H = none := by unfold impl_spaced.G8; split <;> rfl
theorem impl_spaced.G8_s (k : Nat) {avs : List AV} {H : List HE} {x : ByteArray} (h : impl_spaced.G8 (k + 1) avs H = some x) : fromPt Tryz.prog impl_spaced.E k impl_spaced.a (impl_spaced.G k) 1000 (bodyOf Tryz.prog 47) 8 avs H = some x := by
  unfold impl_spaced.G8 at h
  split at h
  · rw [← h]; exact impl_spaced.eq8 _ _ _ _ _
  · cases h
theorem impl_spaced.E_ok : EnvOk Tryz.prog impl_spaced.E := ⟨⟨impl_decimal.sound, callable_of (by kernel_rfl)⟩, trivial⟩
theorem impl_spaced.sound : Sound Tryz.prog 47 impl_spaced.s := by
  refine func_sound (f := impl_spaced.a) (G := impl_spaced.G) (fn := Tryz.f47) (body := bodyOf Tryz.prog 47) 1000 (by kernel_rfl) impl_spaced.E_ok Tryz.func47 (by kernel_rfl) (by kernel_rfl) (by kernel_rfl) (ptsOk_of (by kernel_rfl)) ?_ ?_ ?_ ?_
  · intro r H x h
    unfold impl_spaced.a at h
    simp only at h
    split at h
    · cases h; rfl
    · cases h
  · exact fun q avs H => pick1_none impl_spaced.G8_0 (rfl)
  · intro k q pt avs H x _ h
    rcases pick1_some h with ⟨rfl, h⟩ | h
    · exact impl_spaced.G8_s _ h
    cases h
  · intro k avs H o h
    try dsimp only at h
    split at h
    · cases h; exact impl_spaced.eq _ _
    · cases h

def strings_Builder_WriteString.s : Spec := mkS [.bld 76 (.row 5 (.int .u8)), .val] (fun _ avs H => match avs, H with
  | [.box 0 0, .v (.string a1)], [.bld 76 (.own 1), .row 5 (.int .u8) a0] => some (strings_Builder_WriteString.f a0 a1)
  | _, _ => none) (writeX 76 5)
set_option maxHeartbeats 1000000 in
set_option maxRecDepth 100000 in
theorem strings_Builder_WriteString.used (b : Nat) (w : World) (h0 : w.cell? ⟨b, 0, none⟩ = some (.pointer (some ⟨b, 0, none⟩))) :
    Calls Tryz.prog 92 #[.pointer (some ⟨b, 0, none⟩)] w fun e w' => e = .returned (.tuple #[]) ∧ w' = w := by
  obtain ⟨j, hj, _⟩ := Option.map_eq_some_iff.1 (show (Tryz.prog.info? 76).map (·.size) = some 2 by kernel_rfl)
  have mixed : Tryz.prog.follows .mixedOrders = true := by kernel_rfl
  go_enter Tryz.func92, Tryz.ntmps92
  go_wp2
  rw [Lib.run_neq_ptr_same w _ Tryz.underlying74 hj]
  go_wp2
  go_end0
  exact ⟨rfl, rfl⟩
set_option maxHeartbeats 1000000 in
set_option maxRecDepth 100000 in
theorem strings_Builder_WriteString.fresh (b : Nat) (w : World) (h0 : w.cell? ⟨b, 0, none⟩ = some (.pointer none)) (hsh : w.shape? b = some (76, 2)) (hfz : w.frozen? ⟨b, 0, none⟩ = false) :
    Calls Tryz.prog 92 #[.pointer (some ⟨b, 0, none⟩)] w fun e w' => e = .returned (.tuple #[]) ∧ w' = w.setCell ⟨b, 0, none⟩ (.pointer (some ⟨b, 0, none⟩)) := by
  obtain ⟨j, hj, hjs⟩ := Option.map_eq_some_iff.1 (show (Tryz.prog.info? 76).map (·.size) = some 2 by kernel_rfl)
  have mixed : Tryz.prog.follows .mixedOrders = true := by kernel_rfl
  go_enter Tryz.func92, Tryz.ntmps92
  go_wp2
  rw [Lib.run_to_unsafe w ⟨b, 0, none⟩ Tryz.underlying74 Tryz.underlying159 hj (by rw [hjs]; decide) hsh (Nat.zero_lt_succ 1)]
  simp only [Result.andThen]
  rw [Oper.upon_value]
  go_wp2
  rw [run_callFunc_extern Tryz.func121 (by kernel_rfl) (by kernel_rfl) (by kernel_rfl) (e := Extern.AbiNoEscape.same) (by kernel_rfl)]
  rw [Lib.run_noEscape]
  simp only [Result.andThen]
  rw [Oper.upon_value]
  go_wp2
  rw [Lib.run_from_unsafe w ⟨b, 0, none⟩ Tryz.underlying159 Tryz.underlying74 hj hsh (by kernel_rfl)]
  simp only [Result.andThen]
  rw [Oper.upon_value]
  go_wp2
  go_end0
  exact ⟨rfl, rfl⟩
theorem strings_Builder_WriteString.check (b : Nat) (p v : Value) (w : World) (hb : w.heap[b]? = some (.cells #[p, v] 76 (0, 0))) (hp : p = .pointer none ∨ p = .pointer (some ⟨b, 0, none⟩)) :
    Calls Tryz.prog 92 #[.pointer (some ⟨b, 0, none⟩)] w fun e w' => e = .returned (.tuple #[]) ∧ w'.heap[b]? = some (.cells #[.pointer (some ⟨b, 0, none⟩), v] 76 (0, 0)) ∧ Off (fun x => x = b) w w' := by
  have c0 : w.cell? ⟨b, 0, none⟩ = some p := by rw [Lib.cell_of_heap hb]; rfl
  rcases hp with rfl | rfl
  · refine (strings_Builder_WriteString.fresh b w c0 (by simp [World.shape?, hb]) (by simp [World.frozen?, hb])).mono ?_
    rintro e w' ⟨rfl, rfl⟩
    refine ⟨rfl, ?_, ⟨rfl, rfl, rfl, by rw [setCell_size]; exact Nat.le_refl _, fun k _ hk => setCell_other _ _ _ _ hk⟩⟩
    have := Z.blk_set hb 0 (.pointer (some ⟨b, 0, none⟩))
    simpa using this
  · refine (strings_Builder_WriteString.used b w c0).mono ?_
    rintro e w' ⟨rfl, rfl⟩
    exact ⟨rfl, hb, Off.refl _ _⟩
set_option maxHeartbeats 2000000 in
set_option maxRecDepth 100000 in
theorem strings_Builder_WriteString.calls (b : Nat) (p v : Value) (n : Nat) (xs : List Value) (s : ByteArray) (w : World) (hb : w.heap[b]? = some (.cells #[p, v] 76 (0, 0))) (hp : p = .pointer none ∨ p = .pointer (some ⟨b, 0, none⟩)) (hown : w.ownsRow 0 5 1 v n xs) (hne : v.ownBlock ≠ some b) (hlen : n + s.size ≤ 140737488355328) :
    Calls Tryz.prog 46 #[.pointer (some ⟨b, 0, none⟩), .string s] w fun en w' => en = .returned (.tuple #[.int .i64 s.size, .nilIface]) ∧ ∃ v', w'.heap[b]? = some (.cells #[.pointer (some ⟨b, 0, none⟩), v'] 76 (0, 0)) ∧ w'.ownsRow 0 5 1 v' (n + s.size) (xs ++ Lib.strCells s) ∧ Off (fun x => x = b ∨ v.ownBlock = some x) w w' ∧ (v'.ownBlock = v.ownBlock ∨ ∀ g, v'.ownBlock = some g → w.heap.size ≤ g) := by
  obtain ⟨i0, hi, hz0, hz1, hz2⟩ : ∃ i0, Tryz.prog.info? 5 = some i0 ∧ i0.zero = some (.int .u8 0) ∧ i0.size = 1 ∧ i0.bytes = 1 := by
    have h := show (Tryz.prog.info? 5).map (fun i => (i.zero, i.size, i.bytes)) = some (some (.int .u8 0), 1, 1) by kernel_rfl
    rw [Option.map_eq_some_iff] at h
    obtain ⟨i0, h1, h2⟩ := h
    simp only [Prod.mk.injEq] at h2
    exact ⟨i0, h1, h2.1, h2.2.1, h2.2.2⟩
  have mixed : Tryz.prog.follows .mixedOrders = true := by kernel_rfl
  have hchk := strings_Builder_WriteString.check b p v w hb hp
  have hlt0 : b < w.heap.size := (Array.getElem?_eq_some_iff.1 hb).1
  have echk : ∀ args w, (callFunc 92 args).run Tryz.prog w = .ok (.enter 92 args) w := enters_of Tryz.func92 (by kernel_rfl) rfl
  go_enter Tryz.func46, Tryz.ntmps46
  go_wp2_with (go_at_fn 92; refine hchk.mono ?_)
  rintro e w1 ⟨rfl, h1, ho1⟩
  have hown1 : w1.ownsRow 0 5 1 v n xs := own_kept hown fun g hg hlt => ho1.block g hlt (fun e => by
    subst e
    rcases hown.2 with ⟨q, _⟩ | ⟨g2, cap, cur, q, _⟩
    · rw [q] at hg; cases hg
    · rw [q] at hg hne; exact hne hg)
  have c1 : w1.cell? ⟨b, 1, none⟩ = some v := by rw [Lib.cell_of_heap h1]; rfl
  have hlt : b < w1.heap.size := (Array.getElem?_eq_some_iff.1 h1).1
  go_wp2_with (at_builtin; refine wpList_append_str rfl _ _ 35 9 rfl 5 i0 Tryz.underlying35 Tryz.underlying9 hi hz0 hz1 hz2 _ _ _ rfl hown1 s rfl hlen ?_)
  intro v' w2 hown' hgrow hat
  have hb2 : w2.heap[b]? = some (.cells #[.pointer (some ⟨b, 0, none⟩), v] 76 (0, 0)) := by
    rw [hgrow.block b hlt (fun e => hne e.symm)]
    exact h1
  have d1 : w2.cell? ⟨b, 1, none⟩ = some v := by rw [Lib.cell_of_heap hb2]; rfl
  have f1 : w2.frozen? ⟨b, 1, none⟩ = false := Lib.frozen_of_heap hb2 1
  obtain ⟨ao, n', cap, rfl⟩ : ∃ ao n' cap, v' = .slice ao n' cap := by
    rcases hown'.2 with ⟨hv, _⟩ | ⟨g, cap, cur, hv, _⟩
    · exact ⟨_, _, _, hv⟩
    · exact ⟨_, _, _, hv⟩
  go_wp2
  go_ret2
  refine ⟨rfl, .slice ao n' cap, ?_, ?_, ?_, ?_⟩
  · have := Z.blk_set hb2 1 (.slice ao n' cap)
    simpa using this
  · refine own_kept hown' fun g hg hlt2 => setCell_other _ _ _ _ (fun e => ?_)
    have e : g = b := e
    subst e
    rcases hat with h4 | h4
    · have h5 : (Value.slice ao n' cap).ownBlock = some g := by
        cases ao with
        | none => cases hg
        | some a => simpa [At, blk, Value.ownBlock] using hg
      rw [h4] at h5
      exact hne h5
    · have h5 : (Value.slice ao n' cap).ownBlock = some g := by
        cases ao with
        | none => cases hg
        | some a => simpa [At, blk, Value.ownBlock] using hg
      have := h4 g h5
      omega
  · refine ((ho1.mono (N := fun x => x = b ∨ v.ownBlock = some x) fun _ _ h => .inl h).trans ((Off.grown hgrow).mono (N := fun x => x = b ∨ v.ownBlock = some x) fun _ _ h => .inr h) fun _ _ h => h).trans (N := fun x => x = b) ⟨rfl, rfl, rfl, by rw [setCell_size]; exact Nat.le_refl _, fun k _ hk => setCell_other _ _ _ _ hk⟩ fun _ _ h => .inl h
  · exact hat.imp id fun h g hg => Nat.le_trans ho1.size (h g hg)
theorem strings_Builder_WriteString.sound : Sound Tryz.prog 46 strings_Builder_WriteString.s := by
  refine sound_write (T := 76) (e := 5) ?_ strings_Builder_WriteString.calls
  intro k avs H o x h hx
  split at h
  case h_2 => cases h
  rename_i a1 a0
  cases h
  unfold strings_Builder_WriteString.f at hx
  split at hx
  case isFalse => cases hx
  rename_i h0
  cases hx
  exact ⟨a0, a1, rfl, rfl, h0, rfl⟩

def impl_GraphText_1.a : FnA (Bool) := ⟨6, [.tmp 2], .bool, [], [], fun x H => match x, H with
  | .bs false r, [] => some r
  | _, _ => none⟩
def impl_GraphText_1.s : Spec := mkS [.val] (fun k avs H => match avs, H with
  | [.v (.int .i64 a0)], [] => some (impl_GraphText_1.f a0)
  | _, _ => none) (fun r => (.bs false r, []))
def impl_GraphText_1.E : Env := [((50, []), impl_within.s)]
def impl_GraphText_1.G (k p : Nat) (avs : List AV) (H : List HE) : Option (Bool) := none
set_option maxRecDepth 100000 in
theorem impl_GraphText_1.eq (k : Nat) (a0 : Int) : fromTop Tryz.prog impl_GraphText_1.E k impl_GraphText_1.a (impl_GraphText_1.G k) 1000 (bodyOf Tryz.prog 49) [.v (.int .i64 a0)] [] = impl_GraphText_1.f a0 := by kernel_rfl
theorem impl_GraphText_1.E_ok : EnvOk Tryz.prog impl_GraphText_1.E := ⟨⟨impl_within.sound, callable_of (by kernel_rfl)⟩, trivial⟩
theorem impl_GraphText_1.sound : Sound Tryz.prog 49 impl_GraphText_1.s := by
  refine func_sound (f := impl_GraphText_1.a) (G := impl_GraphText_1.G) (fn := Tryz.f49) (body := bodyOf Tryz.prog 49) 1000 (by kernel_rfl) impl_GraphText_1.E_ok Tryz.func49 (by kernel_rfl) (by kernel_rfl) (by kernel_rfl) (ptsOk_of (by kernel_rfl)) ?_ ?_ ?_ ?_
  · intro r H x h
    unfold impl_GraphText_1.a at h
    simp only at h
    split at h
    · cases h; rfl
    · cases h
  · intro q avs H; rfl
  · intro k q pt avs H x _ h; cases h
  · intro k avs H o h
    try dsimp only at h
    split at h
    · cases h; exact impl_GraphText_1.eq _ _
    · cases h

def slices_IndexFunc_int64_at_impl_GraphText_1.a : FnA (Int) := ⟨19, [.tmp 4], .val, [], [⟨6, [0, 1, 7, 8], [.con (.int .i64), .fn 49 0 [], .val, .val], []⟩], fun x H => match x, H with
  | .v (.int .i64 r), [] => some r
  | _, _ => none⟩
def slices_IndexFunc_int64_at_impl_GraphText_1.s : Spec := mkS [.con (.int .i64), .fn 49 0 []] (fun k avs H => match avs, H with
  | [.con (.int .i64) a0, .fn 49 0 []], [] => some (slices_IndexFunc_int64_at_impl_GraphText_1.f k a0)
  | _, _ => none) (fun r => (.v (.int .i64 r), []))
def slices_IndexFunc_int64_at_impl_GraphText_1.E : Env := [((49, []), impl_GraphText_1.s)]
def slices_IndexFunc_int64_at_impl_GraphText_1.G6 (k : Nat) (avs : List AV) (H : List HE) : Option (Int) := match avs, H with
  | [.con (.int .i64) x0, .fn 49 0 [], .v (.int .i64 x7), .v (.int .i64 x8)], [] => slices_IndexFunc_int64_at_impl_GraphText_1.p6 k x0 x7 x8
  | _, _ => none
def slices_IndexFunc_int64_at_impl_GraphText_1.G (k p : Nat) (avs : List AV) (H : List HE) : Option (Int) := (pick1 6 (slices_IndexFunc_int64_at_impl_GraphText_1.G6 k avs H) none p)
set_option maxRecDepth 100000 in
theorem slices_IndexFunc_int64_at_impl_GraphText_1.eq (k : Nat) (a0 : List Int) : fromTop Tryz.prog slices_IndexFunc_int64_at_impl_GraphText_1.E k slices_IndexFunc_int64_at_impl_GraphText_1.a (slices_IndexFunc_int64_at_impl_GraphText_1.G k) 1000 (bodyOf Tryz.prog 93) [.con (.int .i64) a0, .fn 49 0 []] [] = slices_IndexFunc_int64_at_impl_GraphText_1.f k a0 := by kernel_rfl
set_option maxRecDepth 100000 in
theorem slices_IndexFunc_int64_at_impl_GraphText_1.eq6 (k : Nat) (x0 : List Int) (x7 : Int) (x8 : Int) : fromPt Tryz.prog slices_IndexFunc_int64_at_impl_GraphText_1.E k slices_IndexFunc_int64_at_impl_GraphText_1.a (slices_IndexFunc_int64_at_impl_GraphText_1.G k) 1000 (bodyOf Tryz.prog 93) 6 [.con (.int .i64) x0, .fn 49 0 [], .v (.int .i64 x7), .v (.int .i64 x8)] [] = slices_IndexFunc_int64_at_impl_GraphText_1.p6 (k + 1) x0 x7 x8 := by kernel_rfl
theorem slices_IndexFunc_int64_at_impl_GraphText_1.G6_0 {avs : List AV} {H : List HE} : slices_IndexFunc_int64_at_impl_GraphText_1.G6 0 avs H = none := by unfold slices_IndexFunc_int64_at_impl_GraphText_1.G6; split <;> rfl
theorem slices_IndexFunc_int64_at_impl_GraphText_1.G6_s (k : Nat) {avs : List AV} {H : List HE} {x : Int} (h : slices_IndexFunc_int64_at_impl_GraphText_1.G6 (k + 1) avs H = some x) : fromPt Tryz.prog slices_IndexFunc_int64_at_impl_GraphText_1.E k slices_IndexFunc_int64_at_impl_GraphText_1.a (slices_IndexFunc_int64_at_impl_GraphText_1.G k) 1000 (bodyOf Tryz.prog 93) 6 avs H = some x := by
  unfold slices_IndexFunc_int64_at_impl_GraphText_1.G6 at h
  split at h
  · rw [← h]; exact slices_IndexFunc_int64_at_impl_GraphText_1.eq6 _ _ _ _
  · cases h
theorem slices_IndexFunc_int64_at_impl_GraphText_1.E_ok : EnvOk Tryz.prog slices_IndexFunc_int64_at_impl_GraphText_1.E := ⟨⟨impl_GraphText_1.sound, callable_of (by kernel_rfl)⟩, trivial⟩
theorem slices_IndexFunc_int64_at_impl_GraphText_1.sound : Sound Tryz.prog 93 slices_IndexFunc_int64_at_impl_GraphText_1.s := by
  refine func_sound (f := slices_IndexFunc_int64_at_impl_GraphText_1.a) (G := slices_IndexFunc_int64_at_impl_GraphText_1.G) (fn := Tryz.f93) (body := bodyOf Tryz.prog 93) 1000 (by kernel_rfl) slices_IndexFunc_int64_at_impl_GraphText_1.E_ok Tryz.func93 (by kernel_rfl) (by kernel_rfl) (by kernel_rfl) (ptsOk_of (by kernel_rfl)) ?_ ?_ ?_ ?_
  · intro r H x h
    unfold slices_IndexFunc_int64_at_impl_GraphText_1.a at h
    simp only at h
    split at h
    · cases h; rfl
    · cases h
  · exact fun q avs H => pick1_none slices_IndexFunc_int64_at_impl_GraphText_1.G6_0 (rfl)
  · intro k q pt avs H x _ h
    rcases pick1_some h with ⟨rfl, h⟩ | h
    · exact slices_IndexFunc_int64_at_impl_GraphText_1.G6_s _ h
    cases h
  · intro k avs H o h
    try dsimp only at h
    split at h
    · cases h; exact slices_IndexFunc_int64_at_impl_GraphText_1.eq _ _
    · cases h

def slices_ContainsFunc_int64_at_impl_GraphText_1.a : FnA (Bool) := ⟨9, [.tmp 4], .bool, [], [], fun x H => match x, H with
  | .bs false r, [] => some r
  | _, _ => none⟩
def slices_ContainsFunc_int64_at_impl_GraphText_1.s : Spec := mkS [.con (.int .i64), .fn 49 0 []] (fun k avs H => match avs, H with
  | [.con (.int .i64) a0, .fn 49 0 []], [] => some (slices_ContainsFunc_int64_at_impl_GraphText_1.f k a0)
  | _, _ => none) (fun r => (.bs false r, []))
def slices_ContainsFunc_int64_at_impl_GraphText_1.E : Env := [((93, [49]), slices_IndexFunc_int64_at_impl_GraphText_1.s)]
def slices_ContainsFunc_int64_at_impl_GraphText_1.G (k p : Nat) (avs : List AV) (H : List HE) : Option (Bool) := none
set_option maxRecDepth 100000 in
theorem slices_ContainsFunc_int64_at_impl_GraphText_1.eq (k : Nat) (a0 : List Int) : fromTop Tryz.prog slices_ContainsFunc_int64_at_impl_GraphText_1.E k slices_ContainsFunc_int64_at_impl_GraphText_1.a (slices_ContainsFunc_int64_at_impl_GraphText_1.G k) 1000 (bodyOf Tryz.prog 48) [.con (.int .i64) a0, .fn 49 0 []] [] = slices_ContainsFunc_int64_at_impl_GraphText_1.f k a0 := by kernel_rfl
theorem slices_ContainsFunc_int64_at_impl_GraphText_1.E_ok : EnvOk Tryz.prog slices_ContainsFunc_int64_at_impl_GraphText_1.E := ⟨⟨slices_IndexFunc_int64_at_impl_GraphText_1.sound, callable_of (by kernel_rfl)⟩, trivial⟩
theorem slices_ContainsFunc_int64_at_impl_GraphText_1.sound : Sound Tryz.prog 48 slices_ContainsFunc_int64_at_impl_GraphText_1.s := by
  refine func_sound (f := slices_ContainsFunc_int64_at_impl_GraphText_1.a) (G := slices_ContainsFunc_int64_at_impl_GraphText_1.G) (fn := Tryz.f48) (body := bodyOf Tryz.prog 48) 1000 (by kernel_rfl) slices_ContainsFunc_int64_at_impl_GraphText_1.E_ok Tryz.func48 (by kernel_rfl) (by kernel_rfl) (by kernel_rfl) (ptsOk_of (by kernel_rfl)) ?_ ?_ ?_ ?_
  · intro r H x h
    unfold slices_ContainsFunc_int64_at_impl_GraphText_1.a at h
    simp only at h
    split at h
    · cases h; rfl
    · cases h
  · intro q avs H; rfl
  · intro k q pt avs H x _ h; cases h
  · intro k avs H o h
    try dsimp only at h
    split at h
    · cases h; exact slices_ContainsFunc_int64_at_impl_GraphText_1.eq _ _
    · cases h

def strings_Builder_String.s : Spec := mkS [.bld 76 (.row 5 (.int .u8))] (fun _ avs H => match avs, H with
  | [.box 0 0], [.bld 76 (.own 1), .row 5 (.int .u8) a0] => some (strings_Builder_String.f a0)
  | _, _ => none) (fun r => (.v (.string r), [.gone, .gone]))
set_option maxHeartbeats 2000000 in
set_option maxRecDepth 100000 in
theorem strings_Builder_String.full (b g cap : Nat) (p : Value) (cur : Array Value) (l : List UInt8) (w : World) (h0 : l ≠ []) (hbk : w.heap[b]? = some (.cells #[p, .slice (some ⟨g, 0, none⟩) l.length cap] 76 (0, 0)))
    (hg : w.heap[g]? = some (.cells cur 5 (0, 0))) (hnc : l.length ≤ cap) (hcm : cap ≤ maxLen) (hcs : cur.size = cap) (hcells : ∀ j u, (Lib.byteCells l)[j]? = some u → w.cell? ((⟨g, 0, none⟩ : Addr).add j) = some u) :
    Calls Tryz.prog 52 #[.pointer (some ⟨b, 0, none⟩)] w fun e w' => e = .returned (.string ⟨l.toArray⟩) ∧ w' = w.drew.freeze ⟨g, 0, none⟩ l.length := by
  have hl0 : l.length ≠ 0 := by simpa using h0
  have c1 : w.drew.cell? ⟨b, 1, none⟩ = some (.slice (some ⟨g, 0, none⟩) l.length cap) := by
    have : w.drew.heap[b]? = some (.cells #[p, .slice (some ⟨g, 0, none⟩) l.length cap] 76 (0, 0)) := hbk
    rw [Lib.cell_of_heap this]; rfl
  have hSD : (Builtin.unsafeSliceData_ #[35] 131 #[.slice (some ⟨g, 0, none⟩) l.length cap]).run Tryz.prog w.drew = .ok (.pointer (some ⟨g, 0, none⟩)) w.drew :=
    Lib.run_unsafeSliceData_row _ _ _ _ _ _ (by omega)
  have hUS : (Builtin.unsafeString_ #[131, 3] 9 #[.pointer (some ⟨g, 0, none⟩), .int .i64 l.length]).run Tryz.prog w.drew = .ok (.string ⟨l.toArray⟩) (w.drew.freeze ⟨g, 0, none⟩ l.length) := by
    refine Lib.run_unsafeString_row w.drew 131 3 9 5 Tryz.underlying131 (by kernel_rfl) g cur.size (by have hg' : w.drew.heap[g]? = some (.cells cur 5 (0, 0)) := hg; simp [World.shape?, hg']) l h0 (by omega) (by unfold maxLen at hcm; omega) ?_
    intro j x hx
    have := hcells j (.int .u8 x.toNat) (by simp [Lib.byteCells, hx])
    exact this
  clear hcells
  have mixed : Tryz.prog.follows .mixedOrders = true := by kernel_rfl
  go_enter Tryz.func52, Tryz.ntmps52
  go_wp2
  go_region_o
  all_goals (go_wp2; go_ret; exact ⟨rfl, rfl⟩)
theorem strings_Builder_String.calls (b : Nat) (p v : Value) (l : List UInt8) (w : World) (hbk : w.heap[b]? = some (.cells #[p, v] 76 (0, 0))) (hown : w.ownsRow 0 5 1 v l.length (Lib.byteCells l)) :
    Calls Tryz.prog 52 #[.pointer (some ⟨b, 0, none⟩)] w fun en w' => en = .returned (.string ⟨l.toArray⟩) ∧ Off (fun x => v.ownBlock = some x) w w' := by
  have hc := fun g hg => hown.cells (g := g) hg
  rcases hown.2 with ⟨rfl, h0⟩ | ⟨g, cap, cur, rfl, _, hg, hnc, hcm, hcs, _⟩
  · obtain rfl := List.eq_nil_of_length_eq_zero h0
    refine (Any.Builder_String_nil Go.Proofs.Tryz.lays169 Go.Proofs.Tryz.Builder_Extra_169 w.heap.size b p w hbk).mono ?_
    rintro e w' ⟨rfl, hb⟩
    exact ⟨rfl, Off.below hb _⟩
  · by_cases hl : l = []
    · subst hl
      by_cases hc0 : cap = 0
      · subst hc0
        refine (Any.Builder_String_noroom Go.Proofs.Tryz.lays169 Go.Proofs.Tryz.Builder_Extra_169 w.heap.size b g p cur w (Nat.le_refl _) hbk hg).mono ?_
        rintro e w' ⟨rfl, hb⟩
        exact ⟨rfl, Off.below hb _⟩
      · refine (Any.Builder_String_room Go.Proofs.Tryz.lays169 Go.Proofs.Tryz.Builder_Extra_169 w.heap.size b g cap p w hc0 hbk).mono ?_
        rintro e w' ⟨rfl, hb⟩
        exact ⟨rfl, Off.below hb _⟩
    · refine (strings_Builder_String.full b g cap p cur l w hl hbk hg hnc hcm (by simpa using hcs) (hc g rfl)).mono ?_
      rintro e w' ⟨rfl, rfl⟩
      refine ⟨rfl, ((Off.drew (fun x => (Value.slice (some ⟨g, 0, none⟩) l.length cap).ownBlock = some x) w).trans (N := fun x => x = g) (Off.freeze _ _ _) fun x _ hx => ?_)⟩
      subst hx
      rfl
theorem strings_Builder_String.sound : Sound Tryz.prog 52 strings_Builder_String.s := by
  refine sound_str (T := 76) (e := 5) ?_ strings_Builder_String.calls
  intro k avs H o x h hx
  split at h
  case h_2 => cases h
  rename_i a0
  cases h
  unfold strings_Builder_String.f at hx
  split at hx
  case isFalse => cases hx
  rename_i h0
  cases hx
  exact ⟨a0, rfl, rfl, h0, rfl⟩

def impl_GraphText.a : FnA (ByteArray) := ⟨39, [.tmp 4], .val, [], [⟨18, [5, 19, 20, 21], [.bld 76 (.row 5 (.int .u8)), .con (.pair (.int .i64) (.sl (.int .i64))), .val, .val], []⟩], fun x H => match x, H with
  | .v (.string r), [] => some r
  | _, _ => none⟩
def impl_GraphText.s : Spec := mkS [.con .str, .agg [.con (.int .i64), .con (.pair (.int .i64) (.sl (.int .i64)))]] (fun k avs H => match avs, H with
  | [.con .str a0, .agg [.con (.int .i64) a1_0, .con (.pair (.int .i64) (.sl (.int .i64))) a1_1]], [] => some (impl_GraphText.f k a0 a1_0 a1_1)
  | _, _ => none) (fun r => (.v (.string r), []))
def impl_GraphText.E : Env := [((45, []), impl_GraphOk.s), ((47, []), impl_spaced.s), ((46, []), strings_Builder_WriteString.s), ((48, [49]), slices_ContainsFunc_int64_at_impl_GraphText_1.s), ((51, []), impl_decimal.s), ((52, []), strings_Builder_String.s)]
def impl_GraphText.G18 (k : Nat) (avs : List AV) (H : List HE) : Option (ByteArray) := match avs, H with
  | [.box 0 0, .con (.pair (.int .i64) (.sl (.int .i64))) x19, .v (.int .i64 x20), .v (.int .i64 x21)], [.bld 76 (.own 1), .row 5 (.int .u8) x5] => impl_GraphText.p18 k x5 x19 x20 x21
  | _, _ => none
def impl_GraphText.G (k p : Nat) (avs : List AV) (H : List HE) : Option (ByteArray) := (pick1 18 (impl_GraphText.G18 k avs H) none p)
set_option maxRecDepth 100000 in
theorem impl_GraphText.eq (k : Nat) (a0 : List ByteArray) (a1_0 : List Int) (a1_1 : List (Int × List Int)) : fromTop Tryz.prog impl_GraphText.E k impl_GraphText.a (impl_GraphText.G k) 1000 (bodyOf Tryz.prog 18) [.con .str a0, .agg [.con (.int .i64) a1_0, .con (.pair (.int .i64) (.sl (.int .i64))) a1_1]] [] = impl_GraphText.f k a0 a1_0 a1_1 := by kernel_rfl
set_option maxRecDepth 100000 in
theorem impl_GraphText.eq18 (k : Nat) (x5 : List Int) (x19 : List (Int × List Int)) (x20 : Int) (x21 : Int) : fromPt Tryz.prog impl_GraphText.E k impl_GraphText.a (impl_GraphText.G k) 1000 (bodyOf Tryz.prog 18) 18 [.box 0 0, .con (.pair (.int .i64) (.sl (.int .i64))) x19, .v (.int .i64 x20), .v (.int .i64 x21)] [.bld 76 (.own 1), .row 5 (.int .u8) x5] = impl_GraphText.p18 (k + 1) x5 x19 x20 x21 := by kernel_rfl
theorem impl_GraphText.G18_0 {avs : List AV} {H : List HE} : impl_GraphText.G18 0 avs H = none := by unfold impl_GraphText.G18; split <;> rfl
theorem impl_GraphText.G18_s (k : Nat) {avs : List AV} {H : List HE} {x : ByteArray} (h : impl_GraphText.G18 (k + 1) avs H = some x) : fromPt Tryz.prog impl_GraphText.E k impl_GraphText.a (impl_GraphText.G k) 1000 (bodyOf Tryz.prog 18) 18 avs H = some x := by
  unfold impl_GraphText.G18 at h
  split at h
  · rw [← h]; exact impl_GraphText.eq18 _ _ _ _ _
  · cases h
theorem impl_GraphText.E_ok : EnvOk Tryz.prog impl_GraphText.E := ⟨⟨impl_GraphOk.sound, callable_of (by kernel_rfl)⟩, ⟨impl_spaced.sound, callable_of (by kernel_rfl)⟩, ⟨strings_Builder_WriteString.sound, callable_of (by kernel_rfl)⟩, ⟨slices_ContainsFunc_int64_at_impl_GraphText_1.sound, callable_of (by kernel_rfl)⟩, ⟨impl_decimal.sound, callable_of (by kernel_rfl)⟩, ⟨strings_Builder_String.sound, callable_of (by kernel_rfl)⟩, trivial⟩
theorem impl_GraphText.sound : Sound Tryz.prog 18 impl_GraphText.s := by
  refine func_sound (f := impl_GraphText.a) (G := impl_GraphText.G) (fn := Tryz.f18) (body := bodyOf Tryz.prog 18) 1000 (by kernel_rfl) impl_GraphText.E_ok Tryz.func18 (by kernel_rfl) (by kernel_rfl) (by kernel_rfl) (ptsOk_of (by kernel_rfl)) ?_ ?_ ?_ ?_
  · intro r H x h
    unfold impl_GraphText.a at h
    simp only at h
    split at h
    · cases h; rfl
    · cases h
  · exact fun q avs H => pick1_none impl_GraphText.G18_0 (rfl)
  · intro k q pt avs H x _ h
    rcases pick1_some h with ⟨rfl, h⟩ | h
    · exact impl_GraphText.G18_s _ h
    cases h
  · intro k avs H o h
    try dsimp only at h
    split at h
    · cases h; exact impl_GraphText.eq _ _ _ _
    · cases h

def impl_ReadGraph.a : FnA (List Int × List (Int × List Int) × Bool) := ⟨91, [.cell 4 27, .tmp 5], .tup [.agg [.row 2 (.int .i64), .tre 1 66 2 (.pair (.int .i64) (.sl (.int .i64)))], .bool], [], [⟨25, [0, 1, 4, 6, 7, 9, 53], [.con .str, .val, .box [.val, .val], .row 9 .str, .val, .box [.row 2 (.int .i64), .val], .bool], []⟩, ⟨34, [0, 1, 4, 9, 57, 58, 59], [.con .str, .val, .box [.val, .val], .box [.row 2 (.int .i64), .tre 1 66 2 (.pair (.int .i64) (.sl (.int .i64)))], .con .str, .val, .val], []⟩], fun x H => match x, H with
  | .tup [.agg [.own 0, .own 1], .bs false r_1], [.row 2 (.int .i64) r_0_0, .tre 1 none 66 2 (.pair (.int .i64) (.sl (.int .i64))) r_0_1 none] => some (r_0_0, r_0_1, r_1)
  | _, _ => none⟩
def impl_ReadGraph.s : Spec := mkS [.con .str, .val] (fun k avs H => match avs, H with
  | [.con .str a0, .v (.string a1)], [] => some (impl_ReadGraph.f k a0 a1)
  | _, _ => none) (fun r => (.tup [.agg [.own 0, .own 1], .bs false r.2.2], [.row 2 (.int .i64) r.1, .tre 1 none 66 2 (.pair (.int .i64) (.sl (.int .i64))) r.2.1 none]))
def impl_ReadGraph.E : Env := [((38, []), strings_Split.s), ((39, []), impl_numbers.s), ((18, []), impl_GraphText.s)]
def impl_ReadGraph.G25 (k : Nat) (avs : List AV) (H : List HE) : Option (List Int × List (Int × List Int) × Bool) := match avs, H with
  | [.con .str x0, .v (.string x1), .box 0 0, .own 1, .v (.int .i64 x7), .box 2 0, .bs false x53], [.box [.v (.slice none 0 0), .v (.slice none 0 0)], .row 9 .str x6, .box [.own 3, .v (.slice none 0 0)], .row 2 (.int .i64) x9_0] => impl_ReadGraph.p25 k x0 x1 x6 x7 x9_0 x53
  | _, _ => none
def impl_ReadGraph.G34 (k : Nat) (avs : List AV) (H : List HE) : Option (List Int × List (Int × List Int) × Bool) := match avs, H with
  | [.con .str x0, .v (.string x1), .box 0 0, .box 1 0, .con .str x57, .v (.int .i64 x58), .v (.int .i64 x59)], [.box [.v (.slice none 0 0), .v (.slice none 0 0)], .box [.own 2, .own 3], .row 2 (.int .i64) x9_0, .tre 1 none 66 2 (.pair (.int .i64) (.sl (.int .i64))) x9_1 none] => impl_ReadGraph.p34 k x0 x1 x9_0 x9_1 x57 x58 x59
  | _, _ => none
def impl_ReadGraph.G (k p : Nat) (avs : List AV) (H : List HE) : Option (List Int × List (Int × List Int) × Bool) := (pick1 25 (impl_ReadGraph.G25 k avs H) (pick1 34 (impl_ReadGraph.G34 k avs H) none p) p)
set_option maxRecDepth 100000 in
theorem impl_ReadGraph.eq (k : Nat) (a0 : List ByteArray) (a1 : ByteArray) : fromTop Tryz.prog impl_ReadGraph.E k impl_ReadGraph.a (impl_ReadGraph.G k) 1000 (bodyOf Tryz.prog 10) [.con .str a0, .v (.string a1)] [] = impl_ReadGraph.f k a0 a1 := by kernel_rfl
set_option maxRecDepth 100000 in
theorem impl_ReadGraph.eq25 (k : Nat) (x0 : List ByteArray) (x1 : ByteArray) (x6 : List ByteArray) (x7 : Int) (x9_0 : List Int) (x53 : Bool) : fromPt Tryz.prog impl_ReadGraph.E k impl_ReadGraph.a (impl_ReadGraph.G k) 1000 (bodyOf Tryz.prog 10) 25 [.con .str x0, .v (.string x1), .box 0 0, .own 1, .v (.int .i64 x7), .box 2 0, .bs false x53] [.box [.v (.slice none 0 0), .v (.slice none 0 0)], .row 9 .str x6, .box [.own 3, .v (.slice none 0 0)], .row 2 (.int .i64) x9_0] = impl_ReadGraph.p25 (k + 1) x0 x1 x6 x7 x9_0 x53 := by kernel_rfl
theorem impl_ReadGraph.G25_0 {avs : List AV} {H : List HE} : impl_ReadGraph.G25 0 avs H = none := by unfold impl_ReadGraph.G25; split <;> rfl
theorem impl_ReadGraph.G25_s (k : Nat) {avs : List AV} {H : List HE} {x : List Int × List (Int × List Int) × Bool} (h : impl_ReadGraph.G25 (k + 1) avs H = some x) : fromPt Tryz.prog impl_ReadGraph.E k impl_ReadGraph.a (impl_ReadGraph.G k) 1000 (bodyOf Tryz.prog 10) 25 avs H = some x := by
  unfold impl_ReadGraph.G25 at h
  split at h
  · rw [← h]; exact impl_ReadGraph.eq25 _ _ _ _ _ _ _
  · cases h
set_option maxRecDepth 100000 in
theorem impl_ReadGraph.eq34 (k : Nat) (x0 : List ByteArray) (x1 : ByteArray) (x9_0 : List Int) (x9_1 : List (Int × List Int)) (x57 : List ByteArray) (x58 : Int) (x59 : Int) : fromPt Tryz.prog impl_ReadGraph.E k impl_ReadGraph.a (impl_ReadGraph.G k) 1000 (bodyOf Tryz.prog 10) 34 [.con .str x0, .v (.string x1), .box 0 0, .box 1 0, .con .str x57, .v (.int .i64 x58), .v (.int .i64 x59)] [.box [.v (.slice none 0 0), .v (.slice none 0 0)], .box [.own 2, .own 3], .row 2 (.int .i64) x9_0, .tre 1 none 66 2 (.pair (.int .i64) (.sl (.int .i64))) x9_1 none] = impl_ReadGraph.p34 (k + 1) x0 x1 x9_0 x9_1 x57 x58 x59 := by kernel_rfl
theorem impl_ReadGraph.G34_0 {avs : List AV} {H : List HE} : impl_ReadGraph.G34 0 avs H = none := by unfold impl_ReadGraph.G34; split <;> rfl
theorem impl_ReadGraph.G34_s (k : Nat) {avs : List AV} {H : List HE} {x : List Int × List (Int × List Int) × Bool} (h : impl_ReadGraph.G34 (k + 1) avs H = some x) : fromPt Tryz.prog impl_ReadGraph.E k impl_ReadGraph.a (impl_ReadGraph.G k) 1000 (bodyOf Tryz.prog 10) 34 avs H = some x := by
  unfold impl_ReadGraph.G34 at h
  split at h
  · rw [← h]; exact impl_ReadGraph.eq34 _ _ _ _ _ _ _ _
  · cases h
theorem impl_ReadGraph.E_ok : EnvOk Tryz.prog impl_ReadGraph.E := ⟨⟨strings_Split.sound, callable_of (by kernel_rfl)⟩, ⟨impl_numbers.sound, callable_of (by kernel_rfl)⟩, ⟨impl_GraphText.sound, callable_of (by kernel_rfl)⟩, trivial⟩
theorem impl_ReadGraph.sound : Sound Tryz.prog 10 impl_ReadGraph.s := by
  refine func_sound (f := impl_ReadGraph.a) (G := impl_ReadGraph.G) (fn := Tryz.f10) (body := bodyOf Tryz.prog 10) 1000 (by kernel_rfl) impl_ReadGraph.E_ok Tryz.func10 (by kernel_rfl) (by kernel_rfl) (by kernel_rfl) (ptsOk_of (by kernel_rfl)) ?_ ?_ ?_ ?_
  · intro r H x h
    unfold impl_ReadGraph.a at h
    simp only at h
    split at h
    · cases h; rfl
    · cases h
  · exact fun q avs H => pick1_none impl_ReadGraph.G25_0 (pick1_none impl_ReadGraph.G34_0 (rfl))
  · intro k q pt avs H x _ h
    rcases pick1_some h with ⟨rfl, h⟩ | h
    · exact impl_ReadGraph.G25_s _ h
    rcases pick1_some h with ⟨rfl, h⟩ | h
    · exact impl_ReadGraph.G34_s _ h
    cases h
  · intro k avs H o h
    try dsimp only at h
    split at h
    · cases h; exact impl_ReadGraph.eq _ _ _
    · cases h

def laws_eqInt64S.a : FnA (Bool) := ⟨26, [.tmp 4], .bool, [], [⟨14, [0, 1, 5], [.con (.int .i64), .con (.int .i64), .val], []⟩], fun x H => match x, H with
  | .bs false r, [] => some r
  | _, _ => none⟩
def laws_eqInt64S.s : Spec := mkS [.con (.int .i64), .con (.int .i64)] (fun k avs H => match avs, H with
  | [.con (.int .i64) a0, .con (.int .i64) a1], [] => some (laws_eqInt64S.f k a0 a1)
  | _, _ => none) (fun r => (.bs false r, []))
def laws_eqInt64S.E : Env := []
def laws_eqInt64S.G14 (k : Nat) (avs : List AV) (H : List HE) : Option (Bool) := match avs, H with
  | [.con (.int .i64) x0, .con (.int .i64) x1, .v (.int .i64 x5)], [] => laws_eqInt64S.p14 k x0 x1 x5
  | _, _ => none
def laws_eqInt64S.G (k p : Nat) (avs : List AV) (H : List HE) : Option (Bool) := (pick1 14 (laws_eqInt64S.G14 k avs H) none p)
set_option maxRecDepth 100000 in
theorem laws_eqInt64S.eq (k : Nat) (a0 : List Int) (a1 : List Int) : fromTop Tryz.prog laws_eqInt64S.E k laws_eqInt64S.a (laws_eqInt64S.G k) 1000 (bodyOf Tryz.prog 28) [.con (.int .i64) a0, .con (.int .i64) a1] [] = laws_eqInt64S.f k a0 a1 := by kernel_rfl
set_option maxRecDepth 100000 in
theorem laws_eqInt64S.eq14 (k : Nat) (x0 : List Int) (x1 : List Int) (x5 : Int) : fromPt Tryz.prog laws_eqInt64S.E k laws_eqInt64S.a (laws_eqInt64S.G k) 1000 (bodyOf Tryz.prog 28) 14 [.con (.int .i64) x0, .con (.int .i64) x1, .v (.int .i64 x5)] [] = laws_eqInt64S.p14 (k + 1) x0 x1 x5 := by kernel_rfl
theorem laws_eqInt64S.G14_0 {avs : List AV} {H : List HE} : laws_eqInt64S.G14 0 avs H = none := by unfold laws_eqInt64S.G14; split <;> rfl
theorem laws_eqInt64S.G14_s (k : Nat) {avs : List AV} {H : List HE} {x : Bool} (h : laws_eqInt64S.G14 (k + 1) avs H = some x) : fromPt Tryz.prog laws_eqInt64S.E k laws_eqInt64S.a (laws_eqInt64S.G k) 1000 (bodyOf Tryz.prog 28) 14 avs H = some x := by
  unfold laws_eqInt64S.G14 at h
  split at h
  · rw [← h]; exact laws_eqInt64S.eq14 _ _ _ _
  · cases h
theorem laws_eqInt64S.E_ok : EnvOk Tryz.prog laws_eqInt64S.E := trivial
theorem laws_eqInt64S.sound : Sound Tryz.prog 28 laws_eqInt64S.s := by
  refine func_sound (f := laws_eqInt64S.a) (G := laws_eqInt64S.G) (fn := Tryz.f28) (body := bodyOf Tryz.prog 28) 1000 (by kernel_rfl) laws_eqInt64S.E_ok Tryz.func28 (by kernel_rfl) (by kernel_rfl) (by kernel_rfl) (ptsOk_of (by kernel_rfl)) ?_ ?_ ?_ ?_
  · intro r H x h
    unfold laws_eqInt64S.a at h
    simp only at h
    split at h
    · cases h; rfl
    · cases h
  · exact fun q avs H => pick1_none laws_eqInt64S.G14_0 (rfl)
  · intro k q pt avs H x _ h
    rcases pick1_some h with ⟨rfl, h⟩ | h
    · exact laws_eqInt64S.G14_s _ h
    cases h
  · intro k avs H o h
    try dsimp only at h
    split at h
    · cases h; exact laws_eqInt64S.eq _ _ _
    · cases h

def laws_eqObj.a : FnA (Bool) := ⟨16, [.tmp 4], .bool, [], [], fun x H => match x, H with
  | .bs false r, [] => some r
  | _, _ => none⟩
def laws_eqObj.s : Spec := mkS [.agg [.val, .con (.int .i64)], .agg [.val, .con (.int .i64)]] (fun k avs H => match avs, H with
  | [.agg [.v (.int .i64 a0_0), .con (.int .i64) a0_1], .agg [.v (.int .i64 a1_0), .con (.int .i64) a1_1]], [] => some (laws_eqObj.f k a0_0 a0_1 a1_0 a1_1)
  | _, _ => none) (fun r => (.bs false r, []))
def laws_eqObj.E : Env := [((28, []), laws_eqInt64S.s)]
def laws_eqObj.G (k p : Nat) (avs : List AV) (H : List HE) : Option (Bool) := none
set_option maxRecDepth 100000 in
theorem laws_eqObj.eq (k : Nat) (a0_0 : Int) (a0_1 : List Int) (a1_0 : Int) (a1_1 : List Int) : fromTop Tryz.prog laws_eqObj.E k laws_eqObj.a (laws_eqObj.G k) 1000 (bodyOf Tryz.prog 83) [.agg [.v (.int .i64 a0_0), .con (.int .i64) a0_1], .agg [.v (.int .i64 a1_0), .con (.int .i64) a1_1]] [] = laws_eqObj.f k a0_0 a0_1 a1_0 a1_1 := by kernel_rfl
theorem laws_eqObj.E_ok : EnvOk Tryz.prog laws_eqObj.E := ⟨⟨laws_eqInt64S.sound, callable_of (by kernel_rfl)⟩, trivial⟩
theorem laws_eqObj.sound : Sound Tryz.prog 83 laws_eqObj.s := by
  refine func_sound (f := laws_eqObj.a) (G := laws_eqObj.G) (fn := Tryz.f83) (body := bodyOf Tryz.prog 83) 1000 (by kernel_rfl) laws_eqObj.E_ok Tryz.func83 (by kernel_rfl) (by kernel_rfl) (by kernel_rfl) (ptsOk_of (by kernel_rfl)) ?_ ?_ ?_ ?_
  · intro r H x h
    unfold laws_eqObj.a at h
    simp only at h
    split at h
    · cases h; rfl
    · cases h
  · intro q avs H; rfl
  · intro k q pt avs H x _ h; cases h
  · intro k avs H o h
    try dsimp only at h
    split at h
    · cases h; exact laws_eqObj.eq _ _ _ _ _
    · cases h

def laws_eqObjS.a : FnA (Bool) := ⟨27, [.tmp 4], .bool, [], [⟨14, [0, 1, 5], [.con (.pair (.int .i64) (.sl (.int .i64))), .con (.pair (.int .i64) (.sl (.int .i64))), .val], []⟩], fun x H => match x, H with
  | .bs false r, [] => some r
  | _, _ => none⟩
def laws_eqObjS.s : Spec := mkS [.con (.pair (.int .i64) (.sl (.int .i64))), .con (.pair (.int .i64) (.sl (.int .i64)))] (fun k avs H => match avs, H with
  | [.con (.pair (.int .i64) (.sl (.int .i64))) a0, .con (.pair (.int .i64) (.sl (.int .i64))) a1], [] => some (laws_eqObjS.f k a0 a1)
  | _, _ => none) (fun r => (.bs false r, []))
def laws_eqObjS.E : Env := [((83, []), laws_eqObj.s)]
def laws_eqObjS.G14 (k : Nat) (avs : List AV) (H : List HE) : Option (Bool) := match avs, H with
  | [.con (.pair (.int .i64) (.sl (.int .i64))) x0, .con (.pair (.int .i64) (.sl (.int .i64))) x1, .v (.int .i64 x5)], [] => laws_eqObjS.p14 k x0 x1 x5
  | _, _ => none
def laws_eqObjS.G (k p : Nat) (avs : List AV) (H : List HE) : Option (Bool) := (pick1 14 (laws_eqObjS.G14 k avs H) none p)
set_option maxRecDepth 100000 in
theorem laws_eqObjS.eq (k : Nat) (a0 : List (Int × List Int)) (a1 : List (Int × List Int)) : fromTop Tryz.prog laws_eqObjS.E k laws_eqObjS.a (laws_eqObjS.G k) 1000 (bodyOf Tryz.prog 40) [.con (.pair (.int .i64) (.sl (.int .i64))) a0, .con (.pair (.int .i64) (.sl (.int .i64))) a1] [] = laws_eqObjS.f k a0 a1 := by kernel_rfl
set_option maxRecDepth 100000 in
theorem laws_eqObjS.eq14 (k : Nat) (x0 : List (Int × List Int)) (x1 : List (Int × List Int)) (x5 : Int) : fromPt Tryz.prog laws_eqObjS.E k laws_eqObjS.a (laws_eqObjS.G k) 1000 (bodyOf Tryz.prog 40) 14 [.con (.pair (.int .i64) (.sl (.int .i64))) x0, .con (.pair (.int .i64) (.sl (.int .i64))) x1, .v (.int .i64 x5)] [] = laws_eqObjS.p14 (k + 1) x0 x1 x5 := by kernel_rfl
theorem laws_eqObjS.G14_0 {avs : List AV} {H : List HE} : laws_eqObjS.G14 0 avs H = none := by unfold laws_eqObjS.G14; split <;> rfl
theorem laws_eqObjS.G14_s (k : Nat) {avs : List AV} {H : List HE} {x : Bool} (h : laws_eqObjS.G14 (k + 1) avs H = some x) : fromPt Tryz.prog laws_eqObjS.E k laws_eqObjS.a (laws_eqObjS.G k) 1000 (bodyOf Tryz.prog 40) 14 avs H = some x := by
  unfold laws_eqObjS.G14 at h
  split at h
  · rw [← h]; exact laws_eqObjS.eq14 _ _ _ _
  · cases h
theorem laws_eqObjS.E_ok : EnvOk Tryz.prog laws_eqObjS.E := ⟨⟨laws_eqObj.sound, callable_of (by kernel_rfl)⟩, trivial⟩
theorem laws_eqObjS.sound : Sound Tryz.prog 40 laws_eqObjS.s := by
  refine func_sound (f := laws_eqObjS.a) (G := laws_eqObjS.G) (fn := Tryz.f40) (body := bodyOf Tryz.prog 40) 1000 (by kernel_rfl) laws_eqObjS.E_ok Tryz.func40 (by kernel_rfl) (by kernel_rfl) (by kernel_rfl) (ptsOk_of (by kernel_rfl)) ?_ ?_ ?_ ?_
  · intro r H x h
    unfold laws_eqObjS.a at h
    simp only at h
    split at h
    · cases h; rfl
    · cases h
  · exact fun q avs H => pick1_none laws_eqObjS.G14_0 (rfl)
  · intro k q pt avs H x _ h
    rcases pick1_some h with ⟨rfl, h⟩ | h
    · exact laws_eqObjS.G14_s _ h
    cases h
  · intro k avs H o h
    try dsimp only at h
    split at h
    · cases h; exact laws_eqObjS.eq _ _ _
    · cases h

def laws_eqGraph.a : FnA (Bool) := ⟨17, [.tmp 4], .bool, [], [], fun x H => match x, H with
  | .bs false r, [] => some r
  | _, _ => none⟩
def laws_eqGraph.s : Spec := mkS [.agg [.con (.int .i64), .con (.pair (.int .i64) (.sl (.int .i64)))], .agg [.con (.int .i64), .con (.pair (.int .i64) (.sl (.int .i64)))]] (fun k avs H => match avs, H with
  | [.agg [.con (.int .i64) a0_0, .con (.pair (.int .i64) (.sl (.int .i64))) a0_1], .agg [.con (.int .i64) a1_0, .con (.pair (.int .i64) (.sl (.int .i64))) a1_1]], [] => some (laws_eqGraph.f k a0_0 a0_1 a1_0 a1_1)
  | _, _ => none) (fun r => (.bs false r, []))
def laws_eqGraph.E : Env := [((28, []), laws_eqInt64S.s), ((40, []), laws_eqObjS.s)]
def laws_eqGraph.G (k p : Nat) (avs : List AV) (H : List HE) : Option (Bool) := none
set_option maxRecDepth 100000 in
theorem laws_eqGraph.eq (k : Nat) (a0_0 : List Int) (a0_1 : List (Int × List Int)) (a1_0 : List Int) (a1_1 : List (Int × List Int)) : fromTop Tryz.prog laws_eqGraph.E k laws_eqGraph.a (laws_eqGraph.G k) 1000 (bodyOf Tryz.prog 11) [.agg [.con (.int .i64) a0_0, .con (.pair (.int .i64) (.sl (.int .i64))) a0_1], .agg [.con (.int .i64) a1_0, .con (.pair (.int .i64) (.sl (.int .i64))) a1_1]] [] = laws_eqGraph.f k a0_0 a0_1 a1_0 a1_1 := by kernel_rfl
theorem laws_eqGraph.E_ok : EnvOk Tryz.prog laws_eqGraph.E := ⟨⟨laws_eqInt64S.sound, callable_of (by kernel_rfl)⟩, ⟨laws_eqObjS.sound, callable_of (by kernel_rfl)⟩, trivial⟩
theorem laws_eqGraph.sound : Sound Tryz.prog 11 laws_eqGraph.s := by
  refine func_sound (f := laws_eqGraph.a) (G := laws_eqGraph.G) (fn := Tryz.f11) (body := bodyOf Tryz.prog 11) 1000 (by kernel_rfl) laws_eqGraph.E_ok Tryz.func11 (by kernel_rfl) (by kernel_rfl) (by kernel_rfl) (ptsOk_of (by kernel_rfl)) ?_ ?_ ?_ ?_
  · intro r H x h
    unfold laws_eqGraph.a at h
    simp only at h
    split at h
    · cases h; rfl
    · cases h
  · intro q avs H; rfl
  · intro k q pt avs H x _ h; cases h
  · intro k avs H o h
    try dsimp only at h
    split at h
    · cases h; exact laws_eqGraph.eq _ _ _ _ _
    · cases h

def laws_eqStringS.a : FnA (Bool) := ⟨26, [.tmp 4], .bool, [], [⟨14, [0, 1, 5], [.con .str, .con .str, .val], []⟩], fun x H => match x, H with
  | .bs false r, [] => some r
  | _, _ => none⟩
def laws_eqStringS.s : Spec := mkS [.con .str, .con .str] (fun k avs H => match avs, H with
  | [.con .str a0, .con .str a1], [] => some (laws_eqStringS.f k a0 a1)
  | _, _ => none) (fun r => (.bs false r, []))
def laws_eqStringS.E : Env := []
def laws_eqStringS.G14 (k : Nat) (avs : List AV) (H : List HE) : Option (Bool) := match avs, H with
  | [.con .str x0, .con .str x1, .v (.int .i64 x5)], [] => laws_eqStringS.p14 k x0 x1 x5
  | _, _ => none
def laws_eqStringS.G (k p : Nat) (avs : List AV) (H : List HE) : Option (Bool) := (pick1 14 (laws_eqStringS.G14 k avs H) none p)
set_option maxRecDepth 100000 in
theorem laws_eqStringS.eq (k : Nat) (a0 : List ByteArray) (a1 : List ByteArray) : fromTop Tryz.prog laws_eqStringS.E k laws_eqStringS.a (laws_eqStringS.G k) 1000 (bodyOf Tryz.prog 12) [.con .str a0, .con .str a1] [] = laws_eqStringS.f k a0 a1 := by kernel_rfl
set_option maxRecDepth 100000 in
theorem laws_eqStringS.eq14 (k : Nat) (x0 : List ByteArray) (x1 : List ByteArray) (x5 : Int) : fromPt Tryz.prog laws_eqStringS.E k laws_eqStringS.a (laws_eqStringS.G k) 1000 (bodyOf Tryz.prog 12) 14 [.con .str x0, .con .str x1, .v (.int .i64 x5)] [] = laws_eqStringS.p14 (k + 1) x0 x1 x5 := by kernel_rfl
theorem laws_eqStringS.G14_0 {avs : List AV} {H : List HE} : laws_eqStringS.G14 0 avs H = none := by unfold laws_eqStringS.G14; split <;> rfl
theorem laws_eqStringS.G14_s (k : Nat) {avs : List AV} {H : List HE} {x : Bool} (h : laws_eqStringS.G14 (k + 1) avs H = some x) : fromPt Tryz.prog laws_eqStringS.E k laws_eqStringS.a (laws_eqStringS.G k) 1000 (bodyOf Tryz.prog 12) 14 avs H = some x := by
  unfold laws_eqStringS.G14 at h
  split at h
  · rw [← h]; exact laws_eqStringS.eq14 _ _ _ _
  · cases h
theorem laws_eqStringS.E_ok : EnvOk Tryz.prog laws_eqStringS.E := trivial
theorem laws_eqStringS.sound : Sound Tryz.prog 12 laws_eqStringS.s := by
  refine func_sound (f := laws_eqStringS.a) (G := laws_eqStringS.G) (fn := Tryz.f12) (body := bodyOf Tryz.prog 12) 1000 (by kernel_rfl) laws_eqStringS.E_ok Tryz.func12 (by kernel_rfl) (by kernel_rfl) (by kernel_rfl) (ptsOk_of (by kernel_rfl)) ?_ ?_ ?_ ?_
  · intro r H x h
    unfold laws_eqStringS.a at h
    simp only at h
    split at h
    · cases h; rfl
    · cases h
  · exact fun q avs H => pick1_none laws_eqStringS.G14_0 (rfl)
  · intro k q pt avs H x _ h
    rcases pick1_some h with ⟨rfl, h⟩ | h
    · exact laws_eqStringS.G14_s _ h
    cases h
  · intro k avs H o h
    try dsimp only at h
    split at h
    · cases h; exact laws_eqStringS.eq _ _ _
    · cases h

def laws_markText.a : FnA (ByteArray) := ⟨20, [.tmp 2], .val, [], [⟨14, [0, 3], [.val, .val], []⟩], fun x H => match x, H with
  | .v (.string r), [] => some r
  | _, _ => none⟩
def laws_markText.s : Spec := mkS [.val] (fun k avs H => match avs, H with
  | [.v (.int .i64 a0)], [] => some (laws_markText.f k a0)
  | _, _ => none) (fun r => (.v (.string r), []))
def laws_markText.E : Env := []
def laws_markText.G14 (k : Nat) (avs : List AV) (H : List HE) : Option (ByteArray) := match avs, H with
  | [.v (.int .i64 x0), .v (.string x3)], [] => laws_markText.p14 k x0 x3
  | _, _ => none
def laws_markText.G (k p : Nat) (avs : List AV) (H : List HE) : Option (ByteArray) := (pick1 14 (laws_markText.G14 k avs H) none p)
set_option maxRecDepth 100000 in
theorem laws_markText.eq (k : Nat) (a0 : Int) : fromTop Tryz.prog laws_markText.E k laws_markText.a (laws_markText.G k) 1000 (bodyOf Tryz.prog 41) [.v (.int .i64 a0)] [] = laws_markText.f k a0 := by kernel_rfl
set_option maxRecDepth 100000 in
theorem laws_markText.eq14 (k : Nat) (x0 : Int) (x3 : ByteArray) : fromPt Tryz.prog laws_markText.E k laws_markText.a (laws_markText.G k) 1000 (bodyOf Tryz.prog 41) 14 [.v (.int .i64 x0), .v (.string x3)] [] = laws_markText.p14 (k + 1) x0 x3 := by kernel_rfl
theorem laws_markText.G14_0 {avs : List AV} {H : List HE} : laws_markText.G14 0 avs H = none := by unfold laws_markText.G14; split <;> rfl
theorem laws_markText.G14_s (k : Nat) {avs : List AV} {H : List HE} {x : ByteArray} (h : laws_markText.G14 (k + 1) avs H = some x) : fromPt Tryz.prog laws_markText.E k laws_markText.a (laws_markText.G k) 1000 (bodyOf Tryz.prog 41) 14 avs H = some x := by
  unfold laws_markText.G14 at h
  split at h
  · rw [← h]; exact laws_markText.eq14 _ _ _
  · cases h
theorem laws_markText.E_ok : EnvOk Tryz.prog laws_markText.E := trivial
theorem laws_markText.sound : Sound Tryz.prog 41 laws_markText.s := by
  refine func_sound (f := laws_markText.a) (G := laws_markText.G) (fn := Tryz.f41) (body := bodyOf Tryz.prog 41) 1000 (by kernel_rfl) laws_markText.E_ok Tryz.func41 (by kernel_rfl) (by kernel_rfl) (by kernel_rfl) (ptsOk_of (by kernel_rfl)) ?_ ?_ ?_ ?_
  · intro r H x h
    unfold laws_markText.a at h
    simp only at h
    split at h
    · cases h; rfl
    · cases h
  · exact fun q avs H => pick1_none laws_markText.G14_0 (rfl)
  · intro k q pt avs H x _ h
    rcases pick1_some h with ⟨rfl, h⟩ | h
    · exact laws_markText.G14_s _ h
    cases h
  · intro k avs H o h
    try dsimp only at h
    split at h
    · cases h; exact laws_markText.eq _ _
    · cases h

def laws_markStringS.a : FnA (List ByteArray × Int) := ⟨20, [.tmp 4], .val, [.keep], [⟨6, [0, 1, 5], [.row 9 .str, .val, .val], [.keep]⟩], fun x H => match x, H with
  | .v (.int .i64 r), [.row 9 .str h0] => some (h0, r)
  | _, _ => none⟩
def laws_markStringS.s : Spec := mkS [.row 9 .str, .val] (fun k avs H => match avs, H with
  | [.own 0, .v (.int .i64 a1)], [.row 9 .str a0] => some (laws_markStringS.f k a0 a1)
  | _, _ => none) (fun r => (.v (.int .i64 r.2), [.row 9 .str r.1]))
def laws_markStringS.E : Env := [((41, []), laws_markText.s)]
def laws_markStringS.G6 (k : Nat) (avs : List AV) (H : List HE) : Option (List ByteArray × Int) := match avs, H with
  | [.own 0, .v (.int .i64 x1), .v (.int .i64 x5)], [.row 9 .str h0] => laws_markStringS.p6 k h0 x1 x5
  | _, _ => none
def laws_markStringS.G (k p : Nat) (avs : List AV) (H : List HE) : Option (List ByteArray × Int) := (pick1 6 (laws_markStringS.G6 k avs H) none p)
set_option maxRecDepth 100000 in
theorem laws_markStringS.eq (k : Nat) (a0 : List ByteArray) (a1 : Int) : fromTop Tryz.prog laws_markStringS.E k laws_markStringS.a (laws_markStringS.G k) 1000 (bodyOf Tryz.prog 13) [.own 0, .v (.int .i64 a1)] [.row 9 .str a0] = laws_markStringS.f k a0 a1 := by kernel_rfl
set_option maxRecDepth 100000 in
theorem laws_markStringS.eq6 (k : Nat) (h0 : List ByteArray) (x1 : Int) (x5 : Int) : fromPt Tryz.prog laws_markStringS.E k laws_markStringS.a (laws_markStringS.G k) 1000 (bodyOf Tryz.prog 13) 6 [.own 0, .v (.int .i64 x1), .v (.int .i64 x5)] [.row 9 .str h0] = laws_markStringS.p6 (k + 1) h0 x1 x5 := by kernel_rfl
theorem laws_markStringS.G6_0 {avs : List AV} {H : List HE} : laws_markStringS.G6 0 avs H = none := by unfold laws_markStringS.G6; split <;> rfl
theorem laws_markStringS.G6_s (k : Nat) {avs : List AV} {H : List HE} {x : List ByteArray × Int} (h : laws_markStringS.G6 (k + 1) avs H = some x) : fromPt Tryz.prog laws_markStringS.E k laws_markStringS.a (laws_markStringS.G k) 1000 (bodyOf Tryz.prog 13) 6 avs H = some x := by
  unfold laws_markStringS.G6 at h
  split at h
  · rw [← h]; exact laws_markStringS.eq6 _ _ _ _
  · cases h
theorem laws_markStringS.E_ok : EnvOk Tryz.prog laws_markStringS.E := ⟨⟨laws_markText.sound, callable_of (by kernel_rfl)⟩, trivial⟩
theorem laws_markStringS.sound : Sound Tryz.prog 13 laws_markStringS.s := by
  refine func_sound (f := laws_markStringS.a) (G := laws_markStringS.G) (fn := Tryz.f13) (body := bodyOf Tryz.prog 13) 1000 (by kernel_rfl) laws_markStringS.E_ok Tryz.func13 (by kernel_rfl) (by kernel_rfl) (by kernel_rfl) (ptsOk_of (by kernel_rfl)) ?_ ?_ ?_ ?_
  · intro r H x h
    unfold laws_markStringS.a at h
    simp only at h
    split at h
    · cases h; rfl
    · cases h
  · exact fun q avs H => pick1_none laws_markStringS.G6_0 (rfl)
  · intro k q pt avs H x _ h
    rcases pick1_some h with ⟨rfl, h⟩ | h
    · exact laws_markStringS.G6_s _ h
    cases h
  · intro k avs H o h
    try dsimp only at h
    split at h
    · cases h; exact laws_markStringS.eq _ _ _
    · cases h

def laws_markInt64S.a : FnA (List Int × Int) := ⟨19, [.tmp 4], .val, [.keep], [⟨6, [0, 1, 5], [.row 2 (.int .i64), .val, .val], [.keep]⟩], fun x H => match x, H with
  | .v (.int .i64 r), [.row 2 (.int .i64) h0] => some (h0, r)
  | _, _ => none⟩
def laws_markInt64S.s : Spec := mkS [.row 2 (.int .i64), .val] (fun k avs H => match avs, H with
  | [.own 0, .v (.int .i64 a1)], [.row 2 (.int .i64) a0] => some (laws_markInt64S.f k a0 a1)
  | _, _ => none) (fun r => (.v (.int .i64 r.2), [.row 2 (.int .i64) r.1]))
def laws_markInt64S.E : Env := []
def laws_markInt64S.G6 (k : Nat) (avs : List AV) (H : List HE) : Option (List Int × Int) := match avs, H with
  | [.own 0, .v (.int .i64 x1), .v (.int .i64 x5)], [.row 2 (.int .i64) h0] => laws_markInt64S.p6 k h0 x1 x5
  | _, _ => none
def laws_markInt64S.G (k p : Nat) (avs : List AV) (H : List HE) : Option (List Int × Int) := (pick1 6 (laws_markInt64S.G6 k avs H) none p)
set_option maxRecDepth 100000 in
theorem laws_markInt64S.eq (k : Nat) (a0 : List Int) (a1 : Int) : fromTop Tryz.prog laws_markInt64S.E k laws_markInt64S.a (laws_markInt64S.G k) 1000 (bodyOf Tryz.prog 31) [.own 0, .v (.int .i64 a1)] [.row 2 (.int .i64) a0] = laws_markInt64S.f k a0 a1 := by kernel_rfl
set_option maxRecDepth 100000 in
theorem laws_markInt64S.eq6 (k : Nat) (h0 : List Int) (x1 : Int) (x5 : Int) : fromPt Tryz.prog laws_markInt64S.E k laws_markInt64S.a (laws_markInt64S.G k) 1000 (bodyOf Tryz.prog 31) 6 [.own 0, .v (.int .i64 x1), .v (.int .i64 x5)] [.row 2 (.int .i64) h0] = laws_markInt64S.p6 (k + 1) h0 x1 x5 := by kernel_rfl
theorem laws_markInt64S.G6_0 {avs : List AV} {H : List HE} : laws_markInt64S.G6 0 avs H = none := by unfold laws_markInt64S.G6; split <;> rfl
theorem laws_markInt64S.G6_s (k : Nat) {avs : List AV} {H : List HE} {x : List Int × Int} (h : laws_markInt64S.G6 (k + 1) avs H = some x) : fromPt Tryz.prog laws_markInt64S.E k laws_markInt64S.a (laws_markInt64S.G k) 1000 (bodyOf Tryz.prog 31) 6 avs H = some x := by
  unfold laws_markInt64S.G6 at h
  split at h
  · rw [← h]; exact laws_markInt64S.eq6 _ _ _ _
  · cases h
theorem laws_markInt64S.E_ok : EnvOk Tryz.prog laws_markInt64S.E := trivial
theorem laws_markInt64S.sound : Sound Tryz.prog 31 laws_markInt64S.s := by
  refine func_sound (f := laws_markInt64S.a) (G := laws_markInt64S.G) (fn := Tryz.f31) (body := bodyOf Tryz.prog 31) 1000 (by kernel_rfl) laws_markInt64S.E_ok Tryz.func31 (by kernel_rfl) (by kernel_rfl) (by kernel_rfl) (ptsOk_of (by kernel_rfl)) ?_ ?_ ?_ ?_
  · intro r H x h
    unfold laws_markInt64S.a at h
    simp only at h
    split at h
    · cases h; rfl
    · cases h
  · exact fun q avs H => pick1_none laws_markInt64S.G6_0 (rfl)
  · intro k q pt avs H x _ h
    rcases pick1_some h with ⟨rfl, h⟩ | h
    · exact laws_markInt64S.G6_s _ h
    cases h
  · intro k avs H o h
    try dsimp only at h
    split at h
    · cases h; exact laws_markInt64S.eq _ _ _
    · cases h

def laws_markInt64S_s1.a : FnA (List Int × Int) := ⟨19, [.tmp 4], .val, [.keep], [⟨6, [0, 1, 5], [.sub 1, .val, .val], [.keep]⟩], fun x H => match x, H with
  | .v (.int .i64 r), [.row 2 (.int .i64) h0] => some (h0, r)
  | _, _ => none⟩
def laws_markInt64S_s1.s : Spec := mkS [.sub 1, .val] (fun k avs H => match avs, H with
  | [.sub 0 1, .v (.int .i64 a1)], [.row 2 (.int .i64) a0] => some (laws_markInt64S_s1.f k a0 a1)
  | _, _ => none) (fun r => (.v (.int .i64 r.2), [.row 2 (.int .i64) r.1]))
def laws_markInt64S_s1.E : Env := []
def laws_markInt64S_s1.G6 (k : Nat) (avs : List AV) (H : List HE) : Option (List Int × Int) := match avs, H with
  | [.sub 0 1, .v (.int .i64 x1), .v (.int .i64 x5)], [.row 2 (.int .i64) h0] => laws_markInt64S_s1.p6 k h0 x1 x5
  | _, _ => none
def laws_markInt64S_s1.G (k p : Nat) (avs : List AV) (H : List HE) : Option (List Int × Int) := (pick1 6 (laws_markInt64S_s1.G6 k avs H) none p)
set_option maxRecDepth 100000 in
theorem laws_markInt64S_s1.eq (k : Nat) (a0 : List Int) (a1 : Int) : fromTop Tryz.prog laws_markInt64S_s1.E k laws_markInt64S_s1.a (laws_markInt64S_s1.G k) 1000 (bodyOf Tryz.prog 31) [.sub 0 1, .v (.int .i64 a1)] [.row 2 (.int .i64) a0] = laws_markInt64S_s1.f k a0 a1 := by kernel_rfl
set_option maxRecDepth 100000 in
theorem laws_markInt64S_s1.eq6 (k : Nat) (h0 : List Int) (x1 : Int) (x5 : Int) : fromPt Tryz.prog laws_markInt64S_s1.E k laws_markInt64S_s1.a (laws_markInt64S_s1.G k) 1000 (bodyOf Tryz.prog 31) 6 [.sub 0 1, .v (.int .i64 x1), .v (.int .i64 x5)] [.row 2 (.int .i64) h0] = laws_markInt64S_s1.p6 (k + 1) h0 x1 x5 := by kernel_rfl
theorem laws_markInt64S_s1.G6_0 {avs : List AV} {H : List HE} : laws_markInt64S_s1.G6 0 avs H = none := by unfold laws_markInt64S_s1.G6; split <;> rfl
theorem laws_markInt64S_s1.G6_s (k : Nat) {avs : List AV} {H : List HE} {x : List Int × Int} (h : laws_markInt64S_s1.G6 (k + 1) avs H = some x) : fromPt Tryz.prog laws_markInt64S_s1.E k laws_markInt64S_s1.a (laws_markInt64S_s1.G k) 1000 (bodyOf Tryz.prog 31) 6 avs H = some x := by
  unfold laws_markInt64S_s1.G6 at h
  split at h
  · rw [← h]; exact laws_markInt64S_s1.eq6 _ _ _ _
  · cases h
theorem laws_markInt64S_s1.E_ok : EnvOk Tryz.prog laws_markInt64S_s1.E := trivial
theorem laws_markInt64S_s1.sound : Sound Tryz.prog 31 laws_markInt64S_s1.s := by
  refine func_sound (f := laws_markInt64S_s1.a) (G := laws_markInt64S_s1.G) (fn := Tryz.f31) (body := bodyOf Tryz.prog 31) 1000 (by kernel_rfl) laws_markInt64S_s1.E_ok Tryz.func31 (by kernel_rfl) (by kernel_rfl) (by kernel_rfl) (ptsOk_of (by kernel_rfl)) ?_ ?_ ?_ ?_
  · intro r H x h
    unfold laws_markInt64S_s1.a at h
    simp only at h
    split at h
    · cases h; rfl
    · cases h
  · exact fun q avs H => pick1_none laws_markInt64S_s1.G6_0 (rfl)
  · intro k q pt avs H x _ h
    rcases pick1_some h with ⟨rfl, h⟩ | h
    · exact laws_markInt64S_s1.G6_s _ h
    cases h
  · intro k avs H o h
    try dsimp only at h
    split at h
    · cases h; exact laws_markInt64S_s1.eq _ _ _
    · cases h
end
end Go.Proofs.YtommgpkeicpokaaGreatDoor.Abs
