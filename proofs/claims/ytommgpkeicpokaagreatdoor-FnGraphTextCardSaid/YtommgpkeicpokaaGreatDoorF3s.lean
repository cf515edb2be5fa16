/- They are sound. -/
import Derived.Test.YtommgpkeicpokaaGreatDoorShelfSt
import Derived.Shelf.Strings.SlTrimAscii
import Derived.Lib.ItoaNum
import Derived.Lib.LaidTab
import Derived.Sort.Grow
import Derived.Test.YtommgpkeicpokaaGreatDoorShelfSc
import Derived.Test.YtommgpkeicpokaaGreatDoorAbsBld
import Derived.Test.YtommgpkeicpokaaGreatDoorShelfBu
import Derived.Laws.Externs
import Derived.Laws.IdiomCopy
import Derived.Shelf.RegionOpenPlain
import Derived.Lib.SplitLaws
import Derived.Lib.ParseIntB
import Derived.Lib.AtoiErrMem
import Derived.Test.YtommgpkeicpokaaGreatDoorF3
import Derived.Test.YtommgpkeicpokaaGreatDoorProg
import Derived.Test.YtommgpkeicpokaaGreatDoorF3s1
namespace Go.Proofs.YtommgpkeicpokaaGreatDoor.Abs
open Go Go.RowKit
set_option linter.unusedVariables false
set_option linter.unusedSectionVars false
set_option linter.unusedSimpArgs false
noncomputable section
def spec_l1Lines.a : FnA (List ByteArray × Bool) := ⟨26, [.tmp 2, .tmp 3], .tup [.row 9 .str, .bool], [], [⟨6, [0, 4], [.val, .row 9 .str], []⟩], fun x H => match x, H with
  | .tup [.own 0, .bs false r_1], [.row 9 .str r_0] => some (r_0, r_1)
  | _, _ => none⟩
def spec_l1Lines.s : Spec := mkS [.val] (fun k avs H => match avs, H with
  | [.v (.string a0)], [] => some (spec_l1Lines.f k a0)
  | _, _ => none) (fun r => (.tup [.own 0, .bs false r.2], [.row 9 .str r.1]))
def spec_l1Lines.E : Env := [((79, []), spec_l1Cut.s)]
def spec_l1Lines.G6 (k : Nat) (avs : List AV) (H : List HE) : Option (List ByteArray × Bool) := match avs, H with
  | [.v (.string x0), .own 0], [.row 9 .str x4] => spec_l1Lines.p6 k x0 x4
  | _, _ => none
def spec_l1Lines.G (k p : Nat) (avs : List AV) (H : List HE) : Option (List ByteArray × Bool) := (pick1 6 (spec_l1Lines.G6 k avs H) none p)
set_option maxRecDepth 100000 in
theorem spec_l1Lines.eq (k : Nat) (a0 : ByteArray) : fromTop Tryz.prog spec_l1Lines.E k spec_l1Lines.a (spec_l1Lines.G k) 1000 (bodyOf Tryz.prog 35) [.v (.string a0)] [] = spec_l1Lines.f k a0 := by kernel_rfl
set_option maxRecDepth 100000 in
theorem spec_l1Lines.eq6 (k : Nat) (x0 : ByteArray) (x4 : List ByteArray) : fromPt Tryz.prog spec_l1Lines.E k spec_l1Lines.a (spec_l1Lines.G k) 1000 (bodyOf Tryz.prog 35) 6 [.v (.string x0), .own 0] [.row 9 .str x4] = spec_l1Lines.p6 (k + 1) x0 x4 := by kernel_rfl
theorem spec_l1Lines.G6_0 {avs : List AV} {H : List HE} : spec_l1Lines.G6 0 avs H = none := by unfold spec_l1Lines.G6; split <;> rfl
theorem spec_l1Lines.G6_s (k : Nat) {avs : List AV} {H : List HE} {x : List ByteArray × Bool} (h : spec_l1Lines.G6 (k + 1) avs H = some x) : fromPt Tryz.prog spec_l1Lines.E k spec_l1Lines.a (spec_l1Lines.G k) 1000 (bodyOf Tryz.prog 35) 6 avs H = some x := by
  unfold spec_l1Lines.G6 at h
  split at h
  · rw [← h]; exact spec_l1Lines.eq6 _ _ _
  · cases h
theorem spec_l1Lines.E_ok : EnvOk Tryz.prog spec_l1Lines.E := ⟨⟨spec_l1Cut.sound, callable_of (by kernel_rfl)⟩, trivial⟩
theorem spec_l1Lines.sound : Sound Tryz.prog 35 spec_l1Lines.s := by
  refine func_sound (f := spec_l1Lines.a) (G := spec_l1Lines.G) (fn := Tryz.f35) (body := bodyOf Tryz.prog 35) 1000 (by kernel_rfl) spec_l1Lines.E_ok Tryz.func35 (by kernel_rfl) (by kernel_rfl) (by kernel_rfl) (ptsOk_of (by kernel_rfl)) ?_ ?_ ?_ ?_
  · intro r H x h
    unfold spec_l1Lines.a at h
    simp only at h
    split at h
    · cases h; rfl
    · cases h
  · exact fun q avs H => pick1_none spec_l1Lines.G6_0 (rfl)
  · intro k q pt avs H x _ h
    rcases pick1_some h with ⟨rfl, h⟩ | h
    · exact spec_l1Lines.G6_s _ h
    cases h
  · intro k avs H o h
    try dsimp only at h
    split at h
    · cases h; exact spec_l1Lines.eq _ _
    · cases h

def spec_l1Split.a : FnA (List ByteArray) := ⟨19, [.tmp 2], .row 9 .str, [], [⟨8, [0, 3, 4], [.val, .row 9 .str, .bool], []⟩], fun x H => match x, H with
  | .own 0, [.row 9 .str r] => some r
  | _, _ => none⟩
def spec_l1Split.s : Spec := mkS [.val] (fun k avs H => match avs, H with
  | [.v (.string a0)], [] => some (spec_l1Split.f k a0)
  | _, _ => none) (fun r => (.own 0, [.row 9 .str r]))
def spec_l1Split.E : Env := [((79, []), spec_l1Cut.s)]
def spec_l1Split.G8 (k : Nat) (avs : List AV) (H : List HE) : Option (List ByteArray) := match avs, H with
  | [.v (.string x0), .own 0, .bs false x4], [.row 9 .str x3] => spec_l1Split.p8 k x0 x3 x4
  | _, _ => none
def spec_l1Split.G (k p : Nat) (avs : List AV) (H : List HE) : Option (List ByteArray) := (pick1 8 (spec_l1Split.G8 k avs H) none p)
set_option maxRecDepth 100000 in
theorem spec_l1Split.eq (k : Nat) (a0 : ByteArray) : fromTop Tryz.prog spec_l1Split.E k spec_l1Split.a (spec_l1Split.G k) 1000 (bodyOf Tryz.prog 37) [.v (.string a0)] [] = spec_l1Split.f k a0 := by kernel_rfl
set_option maxRecDepth 100000 in
theorem spec_l1Split.eq8 (k : Nat) (x0 : ByteArray) (x3 : List ByteArray) (x4 : Bool) : fromPt Tryz.prog spec_l1Split.E k spec_l1Split.a (spec_l1Split.G k) 1000 (bodyOf Tryz.prog 37) 8 [.v (.string x0), .own 0, .bs false x4] [.row 9 .str x3] = spec_l1Split.p8 (k + 1) x0 x3 x4 := by kernel_rfl
theorem spec_l1Split.G8_0 {avs : List AV} {H : List HE} : spec_l1Split.G8 0 avs H = none := by unfold spec_l1Split.G8; split <;> rfl
theorem spec_l1Split.G8_s (k : Nat) {avs : List AV} {H : List HE} {x : List ByteArray} (h : spec_l1Split.G8 (k + 1) avs H = some x) : fromPt Tryz.prog spec_l1Split.E k spec_l1Split.a (spec_l1Split.G k) 1000 (bodyOf Tryz.prog 37) 8 avs H = some x := by
  unfold spec_l1Split.G8 at h
  split at h
  · rw [← h]; exact spec_l1Split.eq8 _ _ _ _
  · cases h
theorem spec_l1Split.E_ok : EnvOk Tryz.prog spec_l1Split.E := ⟨⟨spec_l1Cut.sound, callable_of (by kernel_rfl)⟩, trivial⟩
theorem spec_l1Split.sound : Sound Tryz.prog 37 spec_l1Split.s := by
  refine func_sound (f := spec_l1Split.a) (G := spec_l1Split.G) (fn := Tryz.f37) (body := bodyOf Tryz.prog 37) 1000 (by kernel_rfl) spec_l1Split.E_ok Tryz.func37 (by kernel_rfl) (by kernel_rfl) (by kernel_rfl) (ptsOk_of (by kernel_rfl)) ?_ ?_ ?_ ?_
  · intro r H x h
    unfold spec_l1Split.a at h
    simp only at h
    split at h
    · cases h; rfl
    · cases h
  · exact fun q avs H => pick1_none spec_l1Split.G8_0 (rfl)
  · intro k q pt avs H x _ h
    rcases pick1_some h with ⟨rfl, h⟩ | h
    · exact spec_l1Split.G8_s _ h
    cases h
  · intro k avs H o h
    try dsimp only at h
    split at h
    · cases h; exact spec_l1Split.eq _ _
    · cases h

def spec_l1Num_base.a : FnA (Int × Bool) := ⟨78, [.tmp 2, .tmp 3], .tup [.val, .bool], [], [⟨5, [0, 25], [.val, .bool], []⟩, ⟨26, [0, 6, 7], [.val, .val, .val], []⟩], fun x H => match x, H with
  | .tup [.v (.int .i64 r_0), .bs false r_1], [] => some (r_0, r_1)
  | _, _ => none⟩
def spec_l1Num_base.s : Spec := mkS [.val] (fun k avs H => match avs, H with
  | [.v (.string a0)], [] => some (spec_l1Num_base.f k a0)
  | _, _ => none) (fun r => (.tup [.v (.int .i64 r.1), .bs false r.2], []))
def spec_l1Num_base.E : Env := []
def spec_l1Num_base.G5 (k : Nat) (avs : List AV) (H : List HE) : Option (Int × Bool) := match avs, H with
  | [.v (.string x0), .bs false x25], [] => spec_l1Num_base.p5 k x0 x25
  | _, _ => none
def spec_l1Num_base.G26 (k : Nat) (avs : List AV) (H : List HE) : Option (Int × Bool) := match avs, H with
  | [.v (.string x0), .v (.int .i64 x6), .v (.int .i64 x7)], [] => spec_l1Num_base.p26 k x0 x6 x7
  | _, _ => none
def spec_l1Num_base.G (k p : Nat) (avs : List AV) (H : List HE) : Option (Int × Bool) := (pick1 5 (spec_l1Num_base.G5 k avs H) (pick1 26 (spec_l1Num_base.G26 k avs H) none p) p)
set_option maxRecDepth 100000 in
theorem spec_l1Num_base.eq (k : Nat) (a0 : ByteArray) : fromTop Tryz.prog spec_l1Num_base.E k spec_l1Num_base.a (spec_l1Num_base.G k) 1000 (bodyOf Tryz.prog 80) [.v (.string a0)] [] = spec_l1Num_base.f k a0 := by kernel_rfl
set_option maxRecDepth 100000 in
theorem spec_l1Num_base.eq5 (k : Nat) (x0 : ByteArray) (x25 : Bool) : fromPt Tryz.prog spec_l1Num_base.E k spec_l1Num_base.a (spec_l1Num_base.G k) 1000 (bodyOf Tryz.prog 80) 5 [.v (.string x0), .bs false x25] [] = spec_l1Num_base.p5 (k + 1) x0 x25 := by kernel_rfl
theorem spec_l1Num_base.G5_0 {avs : List AV} {H : List HE} : spec_l1Num_base.G5 0 avs H = none := by unfold spec_l1Num_base.G5; split <;> rfl
theorem spec_l1Num_base.G5_s (k : Nat) {avs : List AV} {H : List HE} {x : Int × Bool} (h : spec_l1Num_base.G5 (k + 1) avs H = some x) : fromPt Tryz.prog spec_l1Num_base.E k spec_l1Num_base.a (spec_l1Num_base.G k) 1000 (bodyOf Tryz.prog 80) 5 avs H = some x := by
  unfold spec_l1Num_base.G5 at h
  split at h
  · rw [← h]; exact spec_l1Num_base.eq5 _ _ _
  · cases h
set_option maxRecDepth 100000 in
theorem spec_l1Num_base.eq26 (k : Nat) (x0 : ByteArray) (x6 : Int) (x7 : Int) : fromPt Tryz.prog spec_l1Num_base.E k spec_l1Num_base.a (spec_l1Num_base.G k) 1000 (bodyOf Tryz.prog 80) 26 [.v (.string x0), .v (.int .i64 x6), .v (.int .i64 x7)] [] = spec_l1Num_base.p26 (k + 1) x0 x6 x7 := by kernel_rfl
theorem spec_l1Num_base.G26_0 {avs : List AV} {H : List HE} : spec_l1Num_base.G26 0 avs H = none := by unfold spec_l1Num_base.G26; split <;> rfl
theorem spec_l1Num_base.G26_s (k : Nat) {avs : List AV} {H : List HE} {x : Int × Bool} (h : spec_l1Num_base.G26 (k + 1) avs H = some x) : fromPt Tryz.prog spec_l1Num_base.E k spec_l1Num_base.a (spec_l1Num_base.G k) 1000 (bodyOf Tryz.prog 80) 26 avs H = some x := by
  unfold spec_l1Num_base.G26 at h
  split at h
  · rw [← h]; exact spec_l1Num_base.eq26 _ _ _ _
  · cases h
theorem spec_l1Num_base.E_ok : EnvOk Tryz.prog spec_l1Num_base.E := trivial
theorem spec_l1Num_base.sound : Sound Tryz.prog 80 spec_l1Num_base.s := by
  refine func_sound (f := spec_l1Num_base.a) (G := spec_l1Num_base.G) (fn := Tryz.f80) (body := bodyOf Tryz.prog 80) 1000 (by kernel_rfl) spec_l1Num_base.E_ok Tryz.func80 (by kernel_rfl) (by kernel_rfl) (by kernel_rfl) (ptsOk_of (by kernel_rfl)) ?_ ?_ ?_ ?_
  · intro r H x h
    unfold spec_l1Num_base.a at h
    simp only at h
    split at h
    · cases h; rfl
    · cases h
  · exact fun q avs H => pick1_none spec_l1Num_base.G5_0 (pick1_none spec_l1Num_base.G26_0 (rfl))
  · intro k q pt avs H x _ h
    rcases pick1_some h with ⟨rfl, h⟩ | h
    · exact spec_l1Num_base.G5_s _ h
    rcases pick1_some h with ⟨rfl, h⟩ | h
    · exact spec_l1Num_base.G26_s _ h
    cases h
  · intro k avs H o h
    try dsimp only at h
    split at h
    · cases h; exact spec_l1Num_base.eq _ _
    · cases h

def spec_l1Num.a : FnA (Int × Bool) := ⟨78, [.tmp 2, .tmp 3], .tup [.val, .bool], [], [⟨5, [0, 25], [.val, .bool], []⟩, ⟨26, [0, 6, 7], [.val, .val, .val], []⟩], fun x H => match x, H with
  | .tup [.v (.int .i64 r_0), .bs false r_1], [] => some (r_0, r_1)
  | _, _ => none⟩
def spec_l1Num.s : Spec := mkS [.val] (fun k avs H => match avs, H with
  | [.v (.string a0)], [] => some (spec_l1Num.f k a0)
  | _, _ => none) (fun r => (.tup [.v (.int .i64 r.1), .bs false r.2], []))
def spec_l1Num.E : Env := [((80, []), spec_l1Num_base.s)]
def spec_l1Num.G5 (k : Nat) (avs : List AV) (H : List HE) : Option (Int × Bool) := match avs, H with
  | [.v (.string x0), .bs false x25], [] => spec_l1Num.p5 k x0 x25
  | _, _ => none
def spec_l1Num.G26 (k : Nat) (avs : List AV) (H : List HE) : Option (Int × Bool) := match avs, H with
  | [.v (.string x0), .v (.int .i64 x6), .v (.int .i64 x7)], [] => spec_l1Num.p26 k x0 x6 x7
  | _, _ => none
def spec_l1Num.G (k p : Nat) (avs : List AV) (H : List HE) : Option (Int × Bool) := (pick1 5 (spec_l1Num.G5 k avs H) (pick1 26 (spec_l1Num.G26 k avs H) none p) p)
set_option maxRecDepth 100000 in
theorem spec_l1Num.eq (k : Nat) (a0 : ByteArray) : fromTop Tryz.prog spec_l1Num.E k spec_l1Num.a (spec_l1Num.G k) 1000 (bodyOf Tryz.prog 80) [.v (.string a0)] [] = spec_l1Num.f k a0 := by kernel_rfl
set_option maxRecDepth 100000 in
theorem spec_l1Num.eq5 (k : Nat) (x0 : ByteArray) (x25 : Bool) : fromPt Tryz.prog spec_l1Num.E k spec_l1Num.a (spec_l1Num.G k) 1000 (bodyOf Tryz.prog 80) 5 [.v (.string x0), .bs false x25] [] = spec_l1Num.p5 (k + 1) x0 x25 := by kernel_rfl
theorem spec_l1Num.G5_0 {avs : List AV} {H : List HE} : spec_l1Num.G5 0 avs H = none := by unfold spec_l1Num.G5; split <;> rfl
theorem spec_l1Num.G5_s (k : Nat) {avs : List AV} {H : List HE} {x : Int × Bool} (h : spec_l1Num.G5 (k + 1) avs H = some x) : fromPt Tryz.prog spec_l1Num.E k spec_l1Num.a (spec_l1Num.G k) 1000 (bodyOf Tryz.prog 80) 5 avs H = some x := by
  unfold spec_l1Num.G5 at h
  split at h
  · rw [← h]; exact spec_l1Num.eq5 _ _ _
  · cases h
set_option maxRecDepth 100000 in
theorem spec_l1Num.eq26 (k : Nat) (x0 : ByteArray) (x6 : Int) (x7 : Int) : fromPt Tryz.prog spec_l1Num.E k spec_l1Num.a (spec_l1Num.G k) 1000 (bodyOf Tryz.prog 80) 26 [.v (.string x0), .v (.int .i64 x6), .v (.int .i64 x7)] [] = spec_l1Num.p26 (k + 1) x0 x6 x7 := by kernel_rfl
theorem spec_l1Num.G26_0 {avs : List AV} {H : List HE} : spec_l1Num.G26 0 avs H = none := by unfold spec_l1Num.G26; split <;> rfl
theorem spec_l1Num.G26_s (k : Nat) {avs : List AV} {H : List HE} {x : Int × Bool} (h : spec_l1Num.G26 (k + 1) avs H = some x) : fromPt Tryz.prog spec_l1Num.E k spec_l1Num.a (spec_l1Num.G k) 1000 (bodyOf Tryz.prog 80) 26 avs H = some x := by
  unfold spec_l1Num.G26 at h
  split at h
  · rw [← h]; exact spec_l1Num.eq26 _ _ _ _
  · cases h
theorem spec_l1Num.E_ok : EnvOk Tryz.prog spec_l1Num.E := ⟨⟨spec_l1Num_base.sound, callable_of (by kernel_rfl)⟩, trivial⟩
theorem spec_l1Num.sound : Sound Tryz.prog 80 spec_l1Num.s := by
  refine func_sound (f := spec_l1Num.a) (G := spec_l1Num.G) (fn := Tryz.f80) (body := bodyOf Tryz.prog 80) 1000 (by kernel_rfl) spec_l1Num.E_ok Tryz.func80 (by kernel_rfl) (by kernel_rfl) (by kernel_rfl) (ptsOk_of (by kernel_rfl)) ?_ ?_ ?_ ?_
  · intro r H x h
    unfold spec_l1Num.a at h
    simp only at h
    split at h
    · cases h; rfl
    · cases h
  · exact fun q avs H => pick1_none spec_l1Num.G5_0 (pick1_none spec_l1Num.G26_0 (rfl))
  · intro k q pt avs H x _ h
    rcases pick1_some h with ⟨rfl, h⟩ | h
    · exact spec_l1Num.G5_s _ h
    rcases pick1_some h with ⟨rfl, h⟩ | h
    · exact spec_l1Num.G26_s _ h
    cases h
  · intro k avs H o h
    try dsimp only at h
    split at h
    · cases h; exact spec_l1Num.eq _ _
    · cases h

def spec_l7Nums.a : FnA (List Int) := ⟨27, [.tmp 2], .row 2 (.int .i64), [], [⟨8, [0, 3, 4], [.con .str, .row 2 (.int .i64), .val], []⟩], fun x H => match x, H with
  | .own 0, [.row 2 (.int .i64) r] => some r
  | _, _ => none⟩
def spec_l7Nums.s : Spec := mkS [.con .str] (fun k avs H => match avs, H with
  | [.con .str a0], [] => some (spec_l7Nums.f k a0)
  | _, _ => none) (fun r => (.own 0, [.row 2 (.int .i64) r]))
def spec_l7Nums.E : Env := [((80, []), spec_l1Num.s)]
def spec_l7Nums.G8 (k : Nat) (avs : List AV) (H : List HE) : Option (List Int) := match avs, H with
  | [.con .str x0, .own 0, .v (.int .i64 x4)], [.row 2 (.int .i64) x3] => spec_l7Nums.p8 k x0 x3 x4
  | _, _ => none
def spec_l7Nums.G (k p : Nat) (avs : List AV) (H : List HE) : Option (List Int) := (pick1 8 (spec_l7Nums.G8 k avs H) none p)
set_option maxRecDepth 100000 in
theorem spec_l7Nums.eq (k : Nat) (a0 : List ByteArray) : fromTop Tryz.prog spec_l7Nums.E k spec_l7Nums.a (spec_l7Nums.G k) 1000 (bodyOf Tryz.prog 36) [.con .str a0] [] = spec_l7Nums.f k a0 := by kernel_rfl
set_option maxRecDepth 100000 in
theorem spec_l7Nums.eq8 (k : Nat) (x0 : List ByteArray) (x3 : List Int) (x4 : Int) : fromPt Tryz.prog spec_l7Nums.E k spec_l7Nums.a (spec_l7Nums.G k) 1000 (bodyOf Tryz.prog 36) 8 [.con .str x0, .own 0, .v (.int .i64 x4)] [.row 2 (.int .i64) x3] = spec_l7Nums.p8 (k + 1) x0 x3 x4 := by kernel_rfl
theorem spec_l7Nums.G8_0 {avs : List AV} {H : List HE} : spec_l7Nums.G8 0 avs H = none := by unfold spec_l7Nums.G8; split <;> rfl
theorem spec_l7Nums.G8_s (k : Nat) {avs : List AV} {H : List HE} {x : List Int} (h : spec_l7Nums.G8 (k + 1) avs H = some x) : fromPt Tryz.prog spec_l7Nums.E k spec_l7Nums.a (spec_l7Nums.G k) 1000 (bodyOf Tryz.prog 36) 8 avs H = some x := by
  unfold spec_l7Nums.G8 at h
  split at h
  · rw [← h]; exact spec_l7Nums.eq8 _ _ _ _
  · cases h
theorem spec_l7Nums.E_ok : EnvOk Tryz.prog spec_l7Nums.E := ⟨⟨spec_l1Num.sound, callable_of (by kernel_rfl)⟩, trivial⟩
theorem spec_l7Nums.sound : Sound Tryz.prog 36 spec_l7Nums.s := by
  refine func_sound (f := spec_l7Nums.a) (G := spec_l7Nums.G) (fn := Tryz.f36) (body := bodyOf Tryz.prog 36) 1000 (by kernel_rfl) spec_l7Nums.E_ok Tryz.func36 (by kernel_rfl) (by kernel_rfl) (by kernel_rfl) (ptsOk_of (by kernel_rfl)) ?_ ?_ ?_ ?_
  · intro r H x h
    unfold spec_l7Nums.a at h
    simp only at h
    split at h
    · cases h; rfl
    · cases h
  · exact fun q avs H => pick1_none spec_l7Nums.G8_0 (rfl)
  · intro k q pt avs H x _ h
    rcases pick1_some h with ⟨rfl, h⟩ | h
    · exact spec_l7Nums.G8_s _ h
    cases h
  · intro k avs H o h
    try dsimp only at h
    split at h
    · cases h; exact spec_l7Nums.eq _ _
    · cases h

def spec_ReadGraph.a : FnA (List Int × List (Int × List Int) × Bool) := ⟨67, [.cell 4 27, .tmp 5], .tup [.agg [.row 2 (.int .i64), .row 66 (.pair (.int .i64) (.sl (.int .i64)))], .bool], [], [⟨18, [0, 1, 4, 6, 8, 9], [.con .str, .val, .box [.val, .val], .row 9 .str, .box [.row 2 (.int .i64), .row 66 (.pair (.int .i64) (.sl (.int .i64)))], .val], []⟩, ⟨22, [0, 1, 4, 6, 8, 9, 28], [.con .str, .val, .box [.val, .val], .row 9 .str, .box [.row 2 (.int .i64), .row 66 (.pair (.int .i64) (.sl (.int .i64)))], .val, .bool], []⟩], fun x H => match x, H with
  | .tup [.agg [.own 0, .own 1], .bs false r_1], [.row 2 (.int .i64) r_0_0, .row 66 (.pair (.int .i64) (.sl (.int .i64))) r_0_1] => some (r_0_0, r_0_1, r_1)
  | _, _ => none⟩
def spec_ReadGraph.s : Spec := mkS [.con .str, .val] (fun k avs H => match avs, H with
  | [.con .str a0, .v (.string a1)], [] => some (spec_ReadGraph.f k a0 a1)
  | _, _ => none) (fun r => (.tup [.agg [.own 0, .own 1], .bs false r.2.2], [.row 2 (.int .i64) r.1, .row 66 (.pair (.int .i64) (.sl (.int .i64))) r.2.1]))
def spec_ReadGraph.E : Env := [((35, []), spec_l1Lines.s), ((37, []), spec_l1Split.s), ((36, []), spec_l7Nums.s), ((20, []), spec_GraphText.s)]
def spec_ReadGraph.G18 (k : Nat) (avs : List AV) (H : List HE) : Option (List Int × List (Int × List Int) × Bool) := match avs, H with
  | [.con .str x0, .v (.string x1), .box 0 0, .own 1, .box 2 0, .v (.int .i64 x9)], [.box [.v (.slice none 0 0), .v (.slice none 0 0)], .row 9 .str x6, .box [.own 3, .own 4], .row 2 (.int .i64) x8_0, .row 66 (.pair (.int .i64) (.sl (.int .i64))) x8_1] => spec_ReadGraph.p18 k x0 x1 x6 x8_0 x8_1 x9
  | _, _ => none
def spec_ReadGraph.G22 (k : Nat) (avs : List AV) (H : List HE) : Option (List Int × List (Int × List Int) × Bool) := match avs, H with
  | [.con .str x0, .v (.string x1), .box 0 0, .own 1, .box 2 0, .v (.int .i64 x9), .bs false x28], [.box [.v (.slice none 0 0), .v (.slice none 0 0)], .row 9 .str x6, .box [.own 3, .own 4], .row 2 (.int .i64) x8_0, .row 66 (.pair (.int .i64) (.sl (.int .i64))) x8_1] => spec_ReadGraph.p22 k x0 x1 x6 x8_0 x8_1 x9 x28
  | _, _ => none
def spec_ReadGraph.G (k p : Nat) (avs : List AV) (H : List HE) : Option (List Int × List (Int × List Int) × Bool) := (pick1 18 (spec_ReadGraph.G18 k avs H) (pick1 22 (spec_ReadGraph.G22 k avs H) none p) p)
set_option maxRecDepth 100000 in
theorem spec_ReadGraph.eq (k : Nat) (a0 : List ByteArray) (a1 : ByteArray) : fromTop Tryz.prog spec_ReadGraph.E k spec_ReadGraph.a (spec_ReadGraph.G k) 1000 (bodyOf Tryz.prog 8) [.con .str a0, .v (.string a1)] [] = spec_ReadGraph.f k a0 a1 := by kernel_rfl
set_option maxRecDepth 100000 in
theorem spec_ReadGraph.eq18 (k : Nat) (x0 : List ByteArray) (x1 : ByteArray) (x6 : List ByteArray) (x8_0 : List Int) (x8_1 : List (Int × List Int)) (x9 : Int) : fromPt Tryz.prog spec_ReadGraph.E k spec_ReadGraph.a (spec_ReadGraph.G k) 1000 (bodyOf Tryz.prog 8) 18 [.con .str x0, .v (.string x1), .box 0 0, .own 1, .box 2 0, .v (.int .i64 x9)] [.box [.v (.slice none 0 0), .v (.slice none 0 0)], .row 9 .str x6, .box [.own 3, .own 4], .row 2 (.int .i64) x8_0, .row 66 (.pair (.int .i64) (.sl (.int .i64))) x8_1] = spec_ReadGraph.p18 (k + 1) x0 x1 x6 x8_0 x8_1 x9 := by kernel_rfl
theorem spec_ReadGraph.G18_0 {avs : List AV} {H : List HE} : spec_ReadGraph.G18 0 avs H = none := by unfold spec_ReadGraph.G18; split <;> rfl
theorem spec_ReadGraph.G18_s (k : Nat) {avs : List AV} {H : List HE} {x : List Int × List (Int × List Int) × Bool} (h : spec_ReadGraph.G18 (k + 1) avs H = some x) : fromPt Tryz.prog spec_ReadGraph.E k spec_ReadGraph.a (spec_ReadGraph.G k) 1000 (bodyOf Tryz.prog 8) 18 avs H = some x := by
  unfold spec_ReadGraph.G18 at h
  split at h
  · rw [← h]; exact spec_ReadGraph.eq18 _ _ _ _ _ _ _
  · cases h
set_option maxRecDepth 100000 in
theorem spec_ReadGraph.eq22 (k : Nat) (x0 : List ByteArray) (x1 : ByteArray) (x6 : List ByteArray) (x8_0 : List Int) (x8_1 : List (Int × List Int)) (x9 : Int) (x28 : Bool) : fromPt Tryz.prog spec_ReadGraph.E k spec_ReadGraph.a (spec_ReadGraph.G k) 1000 (bodyOf Tryz.prog 8) 22 [.con .str x0, .v (.string x1), .box 0 0, .own 1, .box 2 0, .v (.int .i64 x9), .bs false x28] [.box [.v (.slice none 0 0), .v (.slice none 0 0)], .row 9 .str x6, .box [.own 3, .own 4], .row 2 (.int .i64) x8_0, .row 66 (.pair (.int .i64) (.sl (.int .i64))) x8_1] = spec_ReadGraph.p22 (k + 1) x0 x1 x6 x8_0 x8_1 x9 x28 := by kernel_rfl
theorem spec_ReadGraph.G22_0 {avs : List AV} {H : List HE} : spec_ReadGraph.G22 0 avs H = none := by unfold spec_ReadGraph.G22; split <;> rfl
theorem spec_ReadGraph.G22_s (k : Nat) {avs : List AV} {H : List HE} {x : List Int × List (Int × List Int) × Bool} (h : spec_ReadGraph.G22 (k + 1) avs H = some x) : fromPt Tryz.prog spec_ReadGraph.E k spec_ReadGraph.a (spec_ReadGraph.G k) 1000 (bodyOf Tryz.prog 8) 22 avs H = some x := by
  unfold spec_ReadGraph.G22 at h
  split at h
  · rw [← h]; exact spec_ReadGraph.eq22 _ _ _ _ _ _ _ _
  · cases h
theorem spec_ReadGraph.E_ok : EnvOk Tryz.prog spec_ReadGraph.E := ⟨⟨spec_l1Lines.sound, callable_of (by kernel_rfl)⟩, ⟨spec_l1Split.sound, callable_of (by kernel_rfl)⟩, ⟨spec_l7Nums.sound, callable_of (by kernel_rfl)⟩, ⟨spec_GraphText.sound, callable_of (by kernel_rfl)⟩, trivial⟩
theorem spec_ReadGraph.sound : Sound Tryz.prog 8 spec_ReadGraph.s := by
  refine func_sound (f := spec_ReadGraph.a) (G := spec_ReadGraph.G) (fn := Tryz.f8) (body := bodyOf Tryz.prog 8) 1000 (by kernel_rfl) spec_ReadGraph.E_ok Tryz.func8 (by kernel_rfl) (by kernel_rfl) (by kernel_rfl) (ptsOk_of (by kernel_rfl)) ?_ ?_ ?_ ?_
  · intro r H x h
    unfold spec_ReadGraph.a at h
    simp only at h
    split at h
    · cases h; rfl
    · cases h
  · exact fun q avs H => pick1_none spec_ReadGraph.G18_0 (pick1_none spec_ReadGraph.G22_0 (rfl))
  · intro k q pt avs H x _ h
    rcases pick1_some h with ⟨rfl, h⟩ | h
    · exact spec_ReadGraph.G18_s _ h
    rcases pick1_some h with ⟨rfl, h⟩ | h
    · exact spec_ReadGraph.G22_s _ h
    cases h
  · intro k avs H o h
    try dsimp only at h
    split at h
    · cases h; exact spec_ReadGraph.eq _ _ _
    · cases h

def laws_sameInts.a : FnA (Bool) := ⟨26, [.tmp 4], .bool, [], [⟨14, [0, 1, 5], [.con (.int .i64), .con (.int .i64), .val], []⟩], fun x H => match x, H with
  | .bs false r, [] => some r
  | _, _ => none⟩
def laws_sameInts.s : Spec := mkS [.con (.int .i64), .con (.int .i64)] (fun k avs H => match avs, H with
  | [.con (.int .i64) a0, .con (.int .i64) a1], [] => some (laws_sameInts.f k a0 a1)
  | _, _ => none) (fun r => (.bs false r, []))
def laws_sameInts.E : Env := []
def laws_sameInts.G14 (k : Nat) (avs : List AV) (H : List HE) : Option (Bool) := match avs, H with
  | [.con (.int .i64) x0, .con (.int .i64) x1, .v (.int .i64 x5)], [] => laws_sameInts.p14 k x0 x1 x5
  | _, _ => none
def laws_sameInts.G (k p : Nat) (avs : List AV) (H : List HE) : Option (Bool) := (pick1 14 (laws_sameInts.G14 k avs H) none p)
set_option maxRecDepth 100000 in
theorem laws_sameInts.eq (k : Nat) (a0 : List Int) (a1 : List Int) : fromTop Tryz.prog laws_sameInts.E k laws_sameInts.a (laws_sameInts.G k) 1000 (bodyOf Tryz.prog 34) [.con (.int .i64) a0, .con (.int .i64) a1] [] = laws_sameInts.f k a0 a1 := by kernel_rfl
set_option maxRecDepth 100000 in
theorem laws_sameInts.eq14 (k : Nat) (x0 : List Int) (x1 : List Int) (x5 : Int) : fromPt Tryz.prog laws_sameInts.E k laws_sameInts.a (laws_sameInts.G k) 1000 (bodyOf Tryz.prog 34) 14 [.con (.int .i64) x0, .con (.int .i64) x1, .v (.int .i64 x5)] [] = laws_sameInts.p14 (k + 1) x0 x1 x5 := by kernel_rfl
theorem laws_sameInts.G14_0 {avs : List AV} {H : List HE} : laws_sameInts.G14 0 avs H = none := by unfold laws_sameInts.G14; split <;> rfl
theorem laws_sameInts.G14_s (k : Nat) {avs : List AV} {H : List HE} {x : Bool} (h : laws_sameInts.G14 (k + 1) avs H = some x) : fromPt Tryz.prog laws_sameInts.E k laws_sameInts.a (laws_sameInts.G k) 1000 (bodyOf Tryz.prog 34) 14 avs H = some x := by
  unfold laws_sameInts.G14 at h
  split at h
  · rw [← h]; exact laws_sameInts.eq14 _ _ _ _
  · cases h
theorem laws_sameInts.E_ok : EnvOk Tryz.prog laws_sameInts.E := trivial
theorem laws_sameInts.sound : Sound Tryz.prog 34 laws_sameInts.s := by
  refine func_sound (f := laws_sameInts.a) (G := laws_sameInts.G) (fn := Tryz.f34) (body := bodyOf Tryz.prog 34) 1000 (by kernel_rfl) laws_sameInts.E_ok Tryz.func34 (by kernel_rfl) (by kernel_rfl) (by kernel_rfl) (ptsOk_of (by kernel_rfl)) ?_ ?_ ?_ ?_
  · intro r H x h
    unfold laws_sameInts.a at h
    simp only at h
    split at h
    · cases h; rfl
    · cases h
  · exact fun q avs H => pick1_none laws_sameInts.G14_0 (rfl)
  · intro k q pt avs H x _ h
    rcases pick1_some h with ⟨rfl, h⟩ | h
    · exact laws_sameInts.G14_s _ h
    cases h
  · intro k avs H o h
    try dsimp only at h
    split at h
    · cases h; exact laws_sameInts.eq _ _ _
    · cases h

def laws_sameObj.a : FnA (Bool) := ⟨17, [.tmp 4], .bool, [], [], fun x H => match x, H with
  | .bs false r, [] => some r
  | _, _ => none⟩
def laws_sameObj.s : Spec := mkS [.agg [.val, .con (.int .i64)], .agg [.val, .con (.int .i64)]] (fun k avs H => match avs, H with
  | [.agg [.v (.int .i64 a0_0), .con (.int .i64) a0_1], .agg [.v (.int .i64 a1_0), .con (.int .i64) a1_1]], [] => some (laws_sameObj.f k a0_0 a0_1 a1_0 a1_1)
  | _, _ => none) (fun r => (.bs false r, []))
def laws_sameObj.E : Env := [((34, []), laws_sameInts.s)]
def laws_sameObj.G (k p : Nat) (avs : List AV) (H : List HE) : Option (Bool) := none
set_option maxRecDepth 100000 in
theorem laws_sameObj.eq (k : Nat) (a0_0 : Int) (a0_1 : List Int) (a1_0 : Int) (a1_1 : List Int) : fromTop Tryz.prog laws_sameObj.E k laws_sameObj.a (laws_sameObj.G k) 1000 (bodyOf Tryz.prog 62) [.agg [.v (.int .i64 a0_0), .con (.int .i64) a0_1], .agg [.v (.int .i64 a1_0), .con (.int .i64) a1_1]] [] = laws_sameObj.f k a0_0 a0_1 a1_0 a1_1 := by kernel_rfl
theorem laws_sameObj.E_ok : EnvOk Tryz.prog laws_sameObj.E := ⟨⟨laws_sameInts.sound, callable_of (by kernel_rfl)⟩, trivial⟩
theorem laws_sameObj.sound : Sound Tryz.prog 62 laws_sameObj.s := by
  refine func_sound (f := laws_sameObj.a) (G := laws_sameObj.G) (fn := Tryz.f62) (body := bodyOf Tryz.prog 62) 1000 (by kernel_rfl) laws_sameObj.E_ok Tryz.func62 (by kernel_rfl) (by kernel_rfl) (by kernel_rfl) (ptsOk_of (by kernel_rfl)) ?_ ?_ ?_ ?_
  · intro r H x h
    unfold laws_sameObj.a at h
    simp only at h
    split at h
    · cases h; rfl
    · cases h
  · intro q avs H; rfl
  · intro k q pt avs H x _ h; cases h
  · intro k avs H o h
    try dsimp only at h
    split at h
    · cases h; exact laws_sameObj.eq _ _ _ _ _
    · cases h

def laws_sameGraph.a : FnA (Bool) := ⟨40, [.tmp 4], .bool, [], [⟨14, [2, 3, 5], [.box [.con (.int .i64), .con (.pair (.int .i64) (.sl (.int .i64)))], .box [.con (.int .i64), .con (.pair (.int .i64) (.sl (.int .i64)))], .val], []⟩], fun x H => match x, H with
  | .bs false r, [] => some r
  | _, _ => none⟩
def laws_sameGraph.s : Spec := mkS [.agg [.con (.int .i64), .con (.pair (.int .i64) (.sl (.int .i64)))], .agg [.con (.int .i64), .con (.pair (.int .i64) (.sl (.int .i64)))]] (fun k avs H => match avs, H with
  | [.agg [.con (.int .i64) a0_0, .con (.pair (.int .i64) (.sl (.int .i64))) a0_1], .agg [.con (.int .i64) a1_0, .con (.pair (.int .i64) (.sl (.int .i64))) a1_1]], [] => some (laws_sameGraph.f k a0_0 a0_1 a1_0 a1_1)
  | _, _ => none) (fun r => (.bs false r, []))
def laws_sameGraph.E : Env := [((34, []), laws_sameInts.s), ((62, []), laws_sameObj.s)]
def laws_sameGraph.G14 (k : Nat) (avs : List AV) (H : List HE) : Option (Bool) := match avs, H with
  | [.box 0 0, .box 1 0, .v (.int .i64 x5)], [.box [.con (.int .i64) x2_0, .con (.pair (.int .i64) (.sl (.int .i64))) x2_1], .box [.con (.int .i64) x3_0, .con (.pair (.int .i64) (.sl (.int .i64))) x3_1]] => laws_sameGraph.p14 k x2_0 x2_1 x3_0 x3_1 x5
  | _, _ => none
def laws_sameGraph.G (k p : Nat) (avs : List AV) (H : List HE) : Option (Bool) := (pick1 14 (laws_sameGraph.G14 k avs H) none p)
set_option maxRecDepth 100000 in
theorem laws_sameGraph.eq (k : Nat) (a0_0 : List Int) (a0_1 : List (Int × List Int)) (a1_0 : List Int) (a1_1 : List (Int × List Int)) : fromTop Tryz.prog laws_sameGraph.E k laws_sameGraph.a (laws_sameGraph.G k) 1000 (bodyOf Tryz.prog 21) [.agg [.con (.int .i64) a0_0, .con (.pair (.int .i64) (.sl (.int .i64))) a0_1], .agg [.con (.int .i64) a1_0, .con (.pair (.int .i64) (.sl (.int .i64))) a1_1]] [] = laws_sameGraph.f k a0_0 a0_1 a1_0 a1_1 := by kernel_rfl
set_option maxRecDepth 100000 in
theorem laws_sameGraph.eq14 (k : Nat) (x2_0 : List Int) (x2_1 : List (Int × List Int)) (x3_0 : List Int) (x3_1 : List (Int × List Int)) (x5 : Int) : fromPt Tryz.prog laws_sameGraph.E k laws_sameGraph.a (laws_sameGraph.G k) 1000 (bodyOf Tryz.prog 21) 14 [.box 0 0, .box 1 0, .v (.int .i64 x5)] [.box [.con (.int .i64) x2_0, .con (.pair (.int .i64) (.sl (.int .i64))) x2_1], .box [.con (.int .i64) x3_0, .con (.pair (.int .i64) (.sl (.int .i64))) x3_1]] = laws_sameGraph.p14 (k + 1) x2_0 x2_1 x3_0 x3_1 x5 := by kernel_rfl
theorem laws_sameGraph.G14_0 {avs : List AV} {H : List HE} : laws_sameGraph.G14 0 avs H = none := by unfold laws_sameGraph.G14; split <;> rfl
theorem laws_sameGraph.G14_s (k : Nat) {avs : List AV} {H : List HE} {x : Bool} (h : laws_sameGraph.G14 (k + 1) avs H = some x) : fromPt Tryz.prog laws_sameGraph.E k laws_sameGraph.a (laws_sameGraph.G k) 1000 (bodyOf Tryz.prog 21) 14 avs H = some x := by
  unfold laws_sameGraph.G14 at h
  split at h
  · rw [← h]; exact laws_sameGraph.eq14 _ _ _ _ _ _
  · cases h
theorem laws_sameGraph.E_ok : EnvOk Tryz.prog laws_sameGraph.E := ⟨⟨laws_sameInts.sound, callable_of (by kernel_rfl)⟩, ⟨laws_sameObj.sound, callable_of (by kernel_rfl)⟩, trivial⟩
theorem laws_sameGraph.sound : Sound Tryz.prog 21 laws_sameGraph.s := by
  refine func_sound (f := laws_sameGraph.a) (G := laws_sameGraph.G) (fn := Tryz.f21) (body := bodyOf Tryz.prog 21) 1000 (by kernel_rfl) laws_sameGraph.E_ok Tryz.func21 (by kernel_rfl) (by kernel_rfl) (by kernel_rfl) (ptsOk_of (by kernel_rfl)) ?_ ?_ ?_ ?_
  · intro r H x h
    unfold laws_sameGraph.a at h
    simp only at h
    split at h
    · cases h; rfl
    · cases h
  · exact fun q avs H => pick1_none laws_sameGraph.G14_0 (rfl)
  · intro k q pt avs H x _ h
    rcases pick1_some h with ⟨rfl, h⟩ | h
    · exact laws_sameGraph.G14_s _ h
    cases h
  · intro k avs H o h
    try dsimp only at h
    split at h
    · cases h; exact laws_sameGraph.eq _ _ _ _ _
    · cases h

def laws_FnGraphText.a : FnA (Bool) := ⟨86, [.tmp 2], .bool, [], [⟨23, [3, 4, 5, 66], [.row 9 .str, .box [.row 2 (.int .i64), .tre 66 2 (.pair (.int .i64) (.sl (.int .i64)))], .val, .bool], []⟩], fun x H => match x, H with
  | .bs false r, [] => some r
  | _, _ => none⟩
def laws_FnGraphText.s : Spec := mkS [.con (.int .u8)] (fun k avs H => match avs, H with
  | [.con (.int .u8) a0], [] => some (laws_FnGraphText.f k a0)
  | _, _ => none) (fun r => (.bs false r, []))
def laws_FnGraphText.E : Env := [((16, []), laws_big.s), ((17, []), spec_DrawGraphText.s), ((18, []), impl_GraphText.s), ((19, []), spec_DrawReadGraph.s), ((10, []), impl_ReadGraph.s), ((8, []), spec_ReadGraph.s), ((20, []), spec_GraphText.s), ((21, []), laws_sameGraph.s)]
def laws_FnGraphText.G23 (k : Nat) (avs : List AV) (H : List HE) : Option (Bool) := match avs, H with
  | [.own 0, .box 1 0, .v (.string x5), .bs false x66], [.row 9 .str x3, .box [.own 2, .own 3], .row 2 (.int .i64) x4_0, .tre 66 2 (.pair (.int .i64) (.sl (.int .i64))) x4_1 none] => laws_FnGraphText.p23 k x3 x4_0 x4_1 x5 x66
  | _, _ => none
def laws_FnGraphText.G (k p : Nat) (avs : List AV) (H : List HE) : Option (Bool) := (pick1 23 (laws_FnGraphText.G23 k avs H) none p)
set_option maxRecDepth 100000 in
theorem laws_FnGraphText.eq (k : Nat) (a0 : List Int) : fromTop Tryz.prog laws_FnGraphText.E k laws_FnGraphText.a (laws_FnGraphText.G k) 1000 (bodyOf Tryz.prog 4) [.con (.int .u8) a0] [] = laws_FnGraphText.f k a0 := by kernel_rfl
set_option maxRecDepth 100000 in
theorem laws_FnGraphText.eq23 (k : Nat) (x3 : List ByteArray) (x4_0 : List Int) (x4_1 : List (Int × List Int)) (x5 : ByteArray) (x66 : Bool) : fromPt Tryz.prog laws_FnGraphText.E k laws_FnGraphText.a (laws_FnGraphText.G k) 1000 (bodyOf Tryz.prog 4) 23 [.own 0, .box 1 0, .v (.string x5), .bs false x66] [.row 9 .str x3, .box [.own 2, .own 3], .row 2 (.int .i64) x4_0, .tre 66 2 (.pair (.int .i64) (.sl (.int .i64))) x4_1 none] = laws_FnGraphText.p23 (k + 1) x3 x4_0 x4_1 x5 x66 := by kernel_rfl
theorem laws_FnGraphText.G23_0 {avs : List AV} {H : List HE} : laws_FnGraphText.G23 0 avs H = none := by unfold laws_FnGraphText.G23; split <;> rfl
theorem laws_FnGraphText.G23_s (k : Nat) {avs : List AV} {H : List HE} {x : Bool} (h : laws_FnGraphText.G23 (k + 1) avs H = some x) : fromPt Tryz.prog laws_FnGraphText.E k laws_FnGraphText.a (laws_FnGraphText.G k) 1000 (bodyOf Tryz.prog 4) 23 avs H = some x := by
  unfold laws_FnGraphText.G23 at h
  split at h
  · rw [← h]; exact laws_FnGraphText.eq23 _ _ _ _ _ _
  · cases h
theorem laws_FnGraphText.E_ok : EnvOk Tryz.prog laws_FnGraphText.E := ⟨⟨laws_big.sound, callable_of (by kernel_rfl)⟩, ⟨spec_DrawGraphText.sound, callable_of (by kernel_rfl)⟩, ⟨impl_GraphText.sound, callable_of (by kernel_rfl)⟩, ⟨spec_DrawReadGraph.sound, callable_of (by kernel_rfl)⟩, ⟨impl_ReadGraph.sound, callable_of (by kernel_rfl)⟩, ⟨spec_ReadGraph.sound, callable_of (by kernel_rfl)⟩, ⟨spec_GraphText.sound, callable_of (by kernel_rfl)⟩, ⟨laws_sameGraph.sound, callable_of (by kernel_rfl)⟩, trivial⟩
theorem laws_FnGraphText.sound : Sound Tryz.prog 4 laws_FnGraphText.s := by
  refine func_sound (f := laws_FnGraphText.a) (G := laws_FnGraphText.G) (fn := Tryz.f4) (body := bodyOf Tryz.prog 4) 1000 (by kernel_rfl) laws_FnGraphText.E_ok Tryz.func4 (by kernel_rfl) (by kernel_rfl) (by kernel_rfl) (ptsOk_of (by kernel_rfl)) ?_ ?_ ?_ ?_
  · intro r H x h
    unfold laws_FnGraphText.a at h
    simp only at h
    split at h
    · cases h; rfl
    · cases h
  · exact fun q avs H => pick1_none laws_FnGraphText.G23_0 (rfl)
  · intro k q pt avs H x _ h
    rcases pick1_some h with ⟨rfl, h⟩ | h
    · exact laws_FnGraphText.G23_s _ h
    cases h
  · intro k avs H o h
    try dsimp only at h
    split at h
    · cases h; exact laws_FnGraphText.eq _ _
    · cases h
end
end Go.Proofs.YtommgpkeicpokaaGreatDoor.Abs
