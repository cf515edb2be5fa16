/- They are sound. -/
import Derived.Test.YtommgpkeicpokaaDoorShelfSt
import Derived.Shelf.Strings.SlTrimAscii
import Derived.Lib.ItoaNum
import Derived.Lib.LaidTab
import Derived.Sort.Grow
import Derived.Test.YtommgpkeicpokaaDoorShelfSc
import Derived.Test.YtommgpkeicpokaaDoorAbsBld
import Derived.Test.YtommgpkeicpokaaDoorShelfBu
import Derived.Laws.Externs
import Derived.Laws.IdiomCopy
import Derived.Shelf.RegionOpenPlain
import Derived.Test.YtommgpkeicpokaaDoorF3
import Derived.Test.YtommgpkeicpokaaDoorProg
namespace Go.Proofs.YtommgpkeicpokaaDoor.Abs
open Go Go.RowKit
set_option linter.unusedVariables false
set_option linter.unusedSectionVars false
set_option linter.unusedSimpArgs false
noncomputable section
def laws_szStringS.a : FnA (Int) := ⟨28, [.tmp 4], .val, [], [⟨16, [0, 1, 5], [.con .str, .val, .val], []⟩], fun x H => match x, H with
  | .v (.int .i64 r), [] => some r
  | _, _ => none⟩
def laws_szStringS.s : Spec := mkS [.con .str, .val] (fun k avs H => match avs, H with
  | [.con .str a0, .v (.int .i64 a1)], [] => some (laws_szStringS.f k a0 a1)
  | _, _ => none) (fun r => (.v (.int .i64 r), []))
def laws_szStringS.E : Env := []
def laws_szStringS.G16 (k : Nat) (avs : List AV) (H : List HE) : Option (Int) := match avs, H with
  | [.con .str x0, .v (.int .i64 x1), .v (.int .i64 x5)], [] => laws_szStringS.p16 k x0 x1 x5
  | _, _ => none
def laws_szStringS.G (k p : Nat) (avs : List AV) (H : List HE) : Option (Int) := (pick1 16 (laws_szStringS.G16 k avs H) none p)
set_option maxRecDepth 100000 in
theorem laws_szStringS.eq (k : Nat) (a0 : List ByteArray) (a1 : Int) : fromTop Tryd.prog laws_szStringS.E k laws_szStringS.a (laws_szStringS.G k) 1000 (bodyOf Tryd.prog 5) [.con .str a0, .v (.int .i64 a1)] [] = laws_szStringS.f k a0 a1 := by kernel_rfl
set_option maxRecDepth 100000 in
theorem laws_szStringS.eq16 (k : Nat) (x0 : List ByteArray) (x1 : Int) (x5 : Int) : fromPt Tryd.prog laws_szStringS.E k laws_szStringS.a (laws_szStringS.G k) 1000 (bodyOf Tryd.prog 5) 16 [.con .str x0, .v (.int .i64 x1), .v (.int .i64 x5)] [] = laws_szStringS.p16 (k + 1) x0 x1 x5 := by kernel_rfl
theorem laws_szStringS.G16_0 {avs : List AV} {H : List HE} : laws_szStringS.G16 0 avs H = none := by unfold laws_szStringS.G16; split <;> rfl
theorem laws_szStringS.G16_s (k : Nat) {avs : List AV} {H : List HE} {x : Int} (h : laws_szStringS.G16 (k + 1) avs H = some x) : fromPt Tryd.prog laws_szStringS.E k laws_szStringS.a (laws_szStringS.G k) 1000 (bodyOf Tryd.prog 5) 16 avs H = some x := by
  unfold laws_szStringS.G16 at h
  split at h
  · rw [← h]; exact laws_szStringS.eq16 _ _ _ _
  · cases h
theorem laws_szStringS.E_ok : EnvOk Tryd.prog laws_szStringS.E := trivial
theorem laws_szStringS.sound : Sound Tryd.prog 5 laws_szStringS.s := by
  refine func_sound (f := laws_szStringS.a) (G := laws_szStringS.G) (fn := Tryd.f5) (body := bodyOf Tryd.prog 5) 1000 (by kernel_rfl) laws_szStringS.E_ok Tryd.func5 (by kernel_rfl) (by kernel_rfl) (by kernel_rfl) (ptsOk_of (by kernel_rfl)) ?_ ?_ ?_ ?_
  · intro r H x h
    unfold laws_szStringS.a at h
    simp only at h
    split at h
    · cases h; rfl
    · cases h
  · exact fun q avs H => pick1_none laws_szStringS.G16_0 (rfl)
  · intro k q pt avs H x _ h
    rcases pick1_some h with ⟨rfl, h⟩ | h
    · exact laws_szStringS.G16_s _ h
    cases h
  · intro k avs H o h
    try dsimp only at h
    split at h
    · cases h; exact laws_szStringS.eq _ _ _
    · cases h

def laws_szInt64S.a : FnA (Int) := ⟨12, [.tmp 4], .val, [], [], fun x H => match x, H with
  | .v (.int .i64 r), [] => some r
  | _, _ => none⟩
def laws_szInt64S.s : Spec := mkS [.con (.int .i64), .val] (fun k avs H => match avs, H with
  | [.con (.int .i64) a0, .v (.int .i64 a1)], [] => some (laws_szInt64S.f a0 a1)
  | _, _ => none) (fun r => (.v (.int .i64 r), []))
def laws_szInt64S.E : Env := []
def laws_szInt64S.G (k p : Nat) (avs : List AV) (H : List HE) : Option (Int) := none
set_option maxRecDepth 100000 in
theorem laws_szInt64S.eq (k : Nat) (a0 : List Int) (a1 : Int) : fromTop Tryd.prog laws_szInt64S.E k laws_szInt64S.a (laws_szInt64S.G k) 1000 (bodyOf Tryd.prog 20) [.con (.int .i64) a0, .v (.int .i64 a1)] [] = laws_szInt64S.f a0 a1 := by kernel_rfl
theorem laws_szInt64S.E_ok : EnvOk Tryd.prog laws_szInt64S.E := trivial
theorem laws_szInt64S.sound : Sound Tryd.prog 20 laws_szInt64S.s := by
  refine func_sound (f := laws_szInt64S.a) (G := laws_szInt64S.G) (fn := Tryd.f20) (body := bodyOf Tryd.prog 20) 1000 (by kernel_rfl) laws_szInt64S.E_ok Tryd.func20 (by kernel_rfl) (by kernel_rfl) (by kernel_rfl) (ptsOk_of (by kernel_rfl)) ?_ ?_ ?_ ?_
  · intro r H x h
    unfold laws_szInt64S.a at h
    simp only at h
    split at h
    · cases h; rfl
    · cases h
  · intro q avs H; rfl
  · intro k q pt avs H x _ h; cases h
  · intro k avs H o h
    try dsimp only at h
    split at h
    · cases h; exact laws_szInt64S.eq _ _ _
    · cases h

def laws_szObj.a : FnA (Int) := ⟨12, [.tmp 4], .val, [], [], fun x H => match x, H with
  | .v (.int .i64 r), [] => some r
  | _, _ => none⟩
def laws_szObj.s : Spec := mkS [.agg [.val, .con (.int .i64)], .val] (fun k avs H => match avs, H with
  | [.agg [.v (.int .i64 a0_0), .con (.int .i64) a0_1], .v (.int .i64 a1)], [] => some (laws_szObj.f a0_0 a0_1 a1)
  | _, _ => none) (fun r => (.v (.int .i64 r), []))
def laws_szObj.E : Env := [((20, []), laws_szInt64S.s)]
def laws_szObj.G (k p : Nat) (avs : List AV) (H : List HE) : Option (Int) := none
set_option maxRecDepth 100000 in
theorem laws_szObj.eq (k : Nat) (a0_0 : Int) (a0_1 : List Int) (a1 : Int) : fromTop Tryd.prog laws_szObj.E k laws_szObj.a (laws_szObj.G k) 1000 (bodyOf Tryd.prog 42) [.agg [.v (.int .i64 a0_0), .con (.int .i64) a0_1], .v (.int .i64 a1)] [] = laws_szObj.f a0_0 a0_1 a1 := by kernel_rfl
theorem laws_szObj.E_ok : EnvOk Tryd.prog laws_szObj.E := ⟨⟨laws_szInt64S.sound, callable_of (by kernel_rfl)⟩, trivial⟩
theorem laws_szObj.sound : Sound Tryd.prog 42 laws_szObj.s := by
  refine func_sound (f := laws_szObj.a) (G := laws_szObj.G) (fn := Tryd.f42) (body := bodyOf Tryd.prog 42) 1000 (by kernel_rfl) laws_szObj.E_ok Tryd.func42 (by kernel_rfl) (by kernel_rfl) (by kernel_rfl) (ptsOk_of (by kernel_rfl)) ?_ ?_ ?_ ?_
  · intro r H x h
    unfold laws_szObj.a at h
    simp only at h
    split at h
    · cases h; rfl
    · cases h
  · intro q avs H; rfl
  · intro k q pt avs H x _ h; cases h
  · intro k avs H o h
    try dsimp only at h
    split at h
    · cases h; exact laws_szObj.eq _ _ _ _
    · cases h

def laws_szObjS.a : FnA (Int) := ⟨27, [.tmp 4], .val, [], [⟨16, [0, 1, 5], [.con (.pair (.int .i64) (.sl (.int .i64))), .val, .val], []⟩], fun x H => match x, H with
  | .v (.int .i64 r), [] => some r
  | _, _ => none⟩
def laws_szObjS.s : Spec := mkS [.con (.pair (.int .i64) (.sl (.int .i64))), .val] (fun k avs H => match avs, H with
  | [.con (.pair (.int .i64) (.sl (.int .i64))) a0, .v (.int .i64 a1)], [] => some (laws_szObjS.f k a0 a1)
  | _, _ => none) (fun r => (.v (.int .i64 r), []))
def laws_szObjS.E : Env := [((42, []), laws_szObj.s)]
def laws_szObjS.G16 (k : Nat) (avs : List AV) (H : List HE) : Option (Int) := match avs, H with
  | [.con (.pair (.int .i64) (.sl (.int .i64))) x0, .v (.int .i64 x1), .v (.int .i64 x5)], [] => laws_szObjS.p16 k x0 x1 x5
  | _, _ => none
def laws_szObjS.G (k p : Nat) (avs : List AV) (H : List HE) : Option (Int) := (pick1 16 (laws_szObjS.G16 k avs H) none p)
set_option maxRecDepth 100000 in
theorem laws_szObjS.eq (k : Nat) (a0 : List (Int × List Int)) (a1 : Int) : fromTop Tryd.prog laws_szObjS.E k laws_szObjS.a (laws_szObjS.G k) 1000 (bodyOf Tryd.prog 21) [.con (.pair (.int .i64) (.sl (.int .i64))) a0, .v (.int .i64 a1)] [] = laws_szObjS.f k a0 a1 := by kernel_rfl
set_option maxRecDepth 100000 in
theorem laws_szObjS.eq16 (k : Nat) (x0 : List (Int × List Int)) (x1 : Int) (x5 : Int) : fromPt Tryd.prog laws_szObjS.E k laws_szObjS.a (laws_szObjS.G k) 1000 (bodyOf Tryd.prog 21) 16 [.con (.pair (.int .i64) (.sl (.int .i64))) x0, .v (.int .i64 x1), .v (.int .i64 x5)] [] = laws_szObjS.p16 (k + 1) x0 x1 x5 := by kernel_rfl
theorem laws_szObjS.G16_0 {avs : List AV} {H : List HE} : laws_szObjS.G16 0 avs H = none := by unfold laws_szObjS.G16; split <;> rfl
theorem laws_szObjS.G16_s (k : Nat) {avs : List AV} {H : List HE} {x : Int} (h : laws_szObjS.G16 (k + 1) avs H = some x) : fromPt Tryd.prog laws_szObjS.E k laws_szObjS.a (laws_szObjS.G k) 1000 (bodyOf Tryd.prog 21) 16 avs H = some x := by
  unfold laws_szObjS.G16 at h
  split at h
  · rw [← h]; exact laws_szObjS.eq16 _ _ _ _
  · cases h
theorem laws_szObjS.E_ok : EnvOk Tryd.prog laws_szObjS.E := ⟨⟨laws_szObj.sound, callable_of (by kernel_rfl)⟩, trivial⟩
theorem laws_szObjS.sound : Sound Tryd.prog 21 laws_szObjS.s := by
  refine func_sound (f := laws_szObjS.a) (G := laws_szObjS.G) (fn := Tryd.f21) (body := bodyOf Tryd.prog 21) 1000 (by kernel_rfl) laws_szObjS.E_ok Tryd.func21 (by kernel_rfl) (by kernel_rfl) (by kernel_rfl) (ptsOk_of (by kernel_rfl)) ?_ ?_ ?_ ?_
  · intro r H x h
    unfold laws_szObjS.a at h
    simp only at h
    split at h
    · cases h; rfl
    · cases h
  · exact fun q avs H => pick1_none laws_szObjS.G16_0 (rfl)
  · intro k q pt avs H x _ h
    rcases pick1_some h with ⟨rfl, h⟩ | h
    · exact laws_szObjS.G16_s _ h
    cases h
  · intro k avs H o h
    try dsimp only at h
    split at h
    · cases h; exact laws_szObjS.eq _ _ _
    · cases h

def laws_szGraph.a : FnA (Int) := ⟨18, [.tmp 4], .val, [], [], fun x H => match x, H with
  | .v (.int .i64 r), [] => some r
  | _, _ => none⟩
def laws_szGraph.s : Spec := mkS [.agg [.con (.int .i64), .con (.pair (.int .i64) (.sl (.int .i64)))], .val] (fun k avs H => match avs, H with
  | [.agg [.con (.int .i64) a0_0, .con (.pair (.int .i64) (.sl (.int .i64))) a0_1], .v (.int .i64 a1)], [] => some (laws_szGraph.f k a0_0 a0_1 a1)
  | _, _ => none) (fun r => (.v (.int .i64 r), []))
def laws_szGraph.E : Env := [((20, []), laws_szInt64S.s), ((21, []), laws_szObjS.s)]
def laws_szGraph.G (k p : Nat) (avs : List AV) (H : List HE) : Option (Int) := none
set_option maxRecDepth 100000 in
theorem laws_szGraph.eq (k : Nat) (a0_0 : List Int) (a0_1 : List (Int × List Int)) (a1 : Int) : fromTop Tryd.prog laws_szGraph.E k laws_szGraph.a (laws_szGraph.G k) 1000 (bodyOf Tryd.prog 6) [.agg [.con (.int .i64) a0_0, .con (.pair (.int .i64) (.sl (.int .i64))) a0_1], .v (.int .i64 a1)] [] = laws_szGraph.f k a0_0 a0_1 a1 := by kernel_rfl
theorem laws_szGraph.E_ok : EnvOk Tryd.prog laws_szGraph.E := ⟨⟨laws_szInt64S.sound, callable_of (by kernel_rfl)⟩, ⟨laws_szObjS.sound, callable_of (by kernel_rfl)⟩, trivial⟩
theorem laws_szGraph.sound : Sound Tryd.prog 6 laws_szGraph.s := by
  refine func_sound (f := laws_szGraph.a) (G := laws_szGraph.G) (fn := Tryd.f6) (body := bodyOf Tryd.prog 6) 1000 (by kernel_rfl) laws_szGraph.E_ok Tryd.func6 (by kernel_rfl) (by kernel_rfl) (by kernel_rfl) (ptsOk_of (by kernel_rfl)) ?_ ?_ ?_ ?_
  · intro r H x h
    unfold laws_szGraph.a at h
    simp only at h
    split at h
    · cases h; rfl
    · cases h
  · intro q avs H; rfl
  · intro k q pt avs H x _ h; cases h
  · intro k avs H o h
    try dsimp only at h
    split at h
    · cases h; exact laws_szGraph.eq _ _ _ _
    · cases h

def laws_toStringS.a : FnA (List ByteArray) := ⟨22, [.tmp 2], .row 9 .str, [], [⟨8, [0, 3, 4], [.con .str, .row 9 .str, .val], []⟩], fun x H => match x, H with
  | .own 0, [.row 9 .str r] => some r
  | _, _ => none⟩
def laws_toStringS.s : Spec := mkS [.con .str] (fun k avs H => match avs, H with
  | [.con .str a0], [] => some (laws_toStringS.f k a0)
  | _, _ => none) (fun r => (.own 0, [.row 9 .str r]))
def laws_toStringS.E : Env := []
def laws_toStringS.G8 (k : Nat) (avs : List AV) (H : List HE) : Option (List ByteArray) := match avs, H with
  | [.con .str x0, .own 0, .v (.int .i64 x4)], [.row 9 .str x3] => laws_toStringS.p8 k x0 x3 x4
  | _, _ => none
def laws_toStringS.G (k p : Nat) (avs : List AV) (H : List HE) : Option (List ByteArray) := (pick1 8 (laws_toStringS.G8 k avs H) none p)
set_option maxRecDepth 100000 in
theorem laws_toStringS.eq (k : Nat) (a0 : List ByteArray) : fromTop Tryd.prog laws_toStringS.E k laws_toStringS.a (laws_toStringS.G k) 1000 (bodyOf Tryd.prog 8) [.con .str a0] [] = laws_toStringS.f k a0 := by kernel_rfl
set_option maxRecDepth 100000 in
theorem laws_toStringS.eq8 (k : Nat) (x0 : List ByteArray) (x3 : List ByteArray) (x4 : Int) : fromPt Tryd.prog laws_toStringS.E k laws_toStringS.a (laws_toStringS.G k) 1000 (bodyOf Tryd.prog 8) 8 [.con .str x0, .own 0, .v (.int .i64 x4)] [.row 9 .str x3] = laws_toStringS.p8 (k + 1) x0 x3 x4 := by kernel_rfl
theorem laws_toStringS.G8_0 {avs : List AV} {H : List HE} : laws_toStringS.G8 0 avs H = none := by unfold laws_toStringS.G8; split <;> rfl
theorem laws_toStringS.G8_s (k : Nat) {avs : List AV} {H : List HE} {x : List ByteArray} (h : laws_toStringS.G8 (k + 1) avs H = some x) : fromPt Tryd.prog laws_toStringS.E k laws_toStringS.a (laws_toStringS.G k) 1000 (bodyOf Tryd.prog 8) 8 avs H = some x := by
  unfold laws_toStringS.G8 at h
  split at h
  · rw [← h]; exact laws_toStringS.eq8 _ _ _ _
  · cases h
theorem laws_toStringS.E_ok : EnvOk Tryd.prog laws_toStringS.E := trivial
theorem laws_toStringS.sound : Sound Tryd.prog 8 laws_toStringS.s := by
  refine func_sound (f := laws_toStringS.a) (G := laws_toStringS.G) (fn := Tryd.f8) (body := bodyOf Tryd.prog 8) 1000 (by kernel_rfl) laws_toStringS.E_ok Tryd.func8 (by kernel_rfl) (by kernel_rfl) (by kernel_rfl) (ptsOk_of (by kernel_rfl)) ?_ ?_ ?_ ?_
  · intro r H x h
    unfold laws_toStringS.a at h
    simp only at h
    split at h
    · cases h; rfl
    · cases h
  · exact fun q avs H => pick1_none laws_toStringS.G8_0 (rfl)
  · intro k q pt avs H x _ h
    rcases pick1_some h with ⟨rfl, h⟩ | h
    · exact laws_toStringS.G8_s _ h
    cases h
  · intro k avs H o h
    try dsimp only at h
    split at h
    · cases h; exact laws_toStringS.eq _ _
    · cases h

def laws_toInt64S.a : FnA (List Int) := ⟨22, [.tmp 2], .row 2 (.int .i64), [], [⟨8, [0, 3, 4], [.con (.int .i64), .row 2 (.int .i64), .val], []⟩], fun x H => match x, H with
  | .own 0, [.row 2 (.int .i64) r] => some r
  | _, _ => none⟩
def laws_toInt64S.s : Spec := mkS [.con (.int .i64)] (fun k avs H => match avs, H with
  | [.con (.int .i64) a0], [] => some (laws_toInt64S.f k a0)
  | _, _ => none) (fun r => (.own 0, [.row 2 (.int .i64) r]))
def laws_toInt64S.E : Env := []
def laws_toInt64S.G8 (k : Nat) (avs : List AV) (H : List HE) : Option (List Int) := match avs, H with
  | [.con (.int .i64) x0, .own 0, .v (.int .i64 x4)], [.row 2 (.int .i64) x3] => laws_toInt64S.p8 k x0 x3 x4
  | _, _ => none
def laws_toInt64S.G (k p : Nat) (avs : List AV) (H : List HE) : Option (List Int) := (pick1 8 (laws_toInt64S.G8 k avs H) none p)
set_option maxRecDepth 100000 in
theorem laws_toInt64S.eq (k : Nat) (a0 : List Int) : fromTop Tryd.prog laws_toInt64S.E k laws_toInt64S.a (laws_toInt64S.G k) 1000 (bodyOf Tryd.prog 25) [.con (.int .i64) a0] [] = laws_toInt64S.f k a0 := by kernel_rfl
set_option maxRecDepth 100000 in
theorem laws_toInt64S.eq8 (k : Nat) (x0 : List Int) (x3 : List Int) (x4 : Int) : fromPt Tryd.prog laws_toInt64S.E k laws_toInt64S.a (laws_toInt64S.G k) 1000 (bodyOf Tryd.prog 25) 8 [.con (.int .i64) x0, .own 0, .v (.int .i64 x4)] [.row 2 (.int .i64) x3] = laws_toInt64S.p8 (k + 1) x0 x3 x4 := by kernel_rfl
theorem laws_toInt64S.G8_0 {avs : List AV} {H : List HE} : laws_toInt64S.G8 0 avs H = none := by unfold laws_toInt64S.G8; split <;> rfl
theorem laws_toInt64S.G8_s (k : Nat) {avs : List AV} {H : List HE} {x : List Int} (h : laws_toInt64S.G8 (k + 1) avs H = some x) : fromPt Tryd.prog laws_toInt64S.E k laws_toInt64S.a (laws_toInt64S.G k) 1000 (bodyOf Tryd.prog 25) 8 avs H = some x := by
  unfold laws_toInt64S.G8 at h
  split at h
  · rw [← h]; exact laws_toInt64S.eq8 _ _ _ _
  · cases h
theorem laws_toInt64S.E_ok : EnvOk Tryd.prog laws_toInt64S.E := trivial
theorem laws_toInt64S.sound : Sound Tryd.prog 25 laws_toInt64S.s := by
  refine func_sound (f := laws_toInt64S.a) (G := laws_toInt64S.G) (fn := Tryd.f25) (body := bodyOf Tryd.prog 25) 1000 (by kernel_rfl) laws_toInt64S.E_ok Tryd.func25 (by kernel_rfl) (by kernel_rfl) (by kernel_rfl) (ptsOk_of (by kernel_rfl)) ?_ ?_ ?_ ?_
  · intro r H x h
    unfold laws_toInt64S.a at h
    simp only at h
    split at h
    · cases h; rfl
    · cases h
  · exact fun q avs H => pick1_none laws_toInt64S.G8_0 (rfl)
  · intro k q pt avs H x _ h
    rcases pick1_some h with ⟨rfl, h⟩ | h
    · exact laws_toInt64S.G8_s _ h
    cases h
  · intro k avs H o h
    try dsimp only at h
    split at h
    · cases h; exact laws_toInt64S.eq _ _
    · cases h

def laws_toObj.a : FnA (Int × List Int) := ⟨12, [.cell 2 45], .agg [.val, .row 2 (.int .i64)], [], [], fun x H => match x, H with
  | .agg [.v (.int .i64 r_0), .own 0], [.row 2 (.int .i64) r_1] => some (r_0, r_1)
  | _, _ => none⟩
def laws_toObj.s : Spec := mkS [.agg [.val, .con (.int .i64)]] (fun k avs H => match avs, H with
  | [.agg [.v (.int .i64 a0_0), .con (.int .i64) a0_1]], [] => some (laws_toObj.f k a0_0 a0_1)
  | _, _ => none) (fun r => (.agg [.v (.int .i64 r.1), .own 0], [.row 2 (.int .i64) r.2]))
def laws_toObj.E : Env := [((25, []), laws_toInt64S.s)]
def laws_toObj.G (k p : Nat) (avs : List AV) (H : List HE) : Option (Int × List Int) := none
set_option maxRecDepth 100000 in
theorem laws_toObj.eq (k : Nat) (a0_0 : Int) (a0_1 : List Int) : fromTop Tryd.prog laws_toObj.E k laws_toObj.a (laws_toObj.G k) 1000 (bodyOf Tryd.prog 45) [.agg [.v (.int .i64 a0_0), .con (.int .i64) a0_1]] [] = laws_toObj.f k a0_0 a0_1 := by kernel_rfl
theorem laws_toObj.E_ok : EnvOk Tryd.prog laws_toObj.E := ⟨⟨laws_toInt64S.sound, callable_of (by kernel_rfl)⟩, trivial⟩
theorem laws_toObj.sound : Sound Tryd.prog 45 laws_toObj.s := by
  refine func_sound (f := laws_toObj.a) (G := laws_toObj.G) (fn := Tryd.f45) (body := bodyOf Tryd.prog 45) 1000 (by kernel_rfl) laws_toObj.E_ok Tryd.func45 (by kernel_rfl) (by kernel_rfl) (by kernel_rfl) (ptsOk_of (by kernel_rfl)) ?_ ?_ ?_ ?_
  · intro r H x h
    unfold laws_toObj.a at h
    simp only at h
    split at h
    · cases h; rfl
    · cases h
  · intro q avs H; rfl
  · intro k q pt avs H x _ h; cases h
  · intro k avs H o h
    try dsimp only at h
    split at h
    · cases h; exact laws_toObj.eq _ _ _
    · cases h

def laws_toObjS.a : FnA (List (Int × List Int)) := ⟨23, [.tmp 2], .row 45 (.pair (.int .i64) (.sl (.int .i64))), [], [⟨8, [0, 3, 4], [.con (.pair (.int .i64) (.sl (.int .i64))), .row 45 (.pair (.int .i64) (.sl (.int .i64))), .val], []⟩], fun x H => match x, H with
  | .own 0, [.row 45 (.pair (.int .i64) (.sl (.int .i64))) r] => some r
  | _, _ => none⟩
def laws_toObjS.s : Spec := mkS [.con (.pair (.int .i64) (.sl (.int .i64)))] (fun k avs H => match avs, H with
  | [.con (.pair (.int .i64) (.sl (.int .i64))) a0], [] => some (laws_toObjS.f k a0)
  | _, _ => none) (fun r => (.own 0, [.row 45 (.pair (.int .i64) (.sl (.int .i64))) r]))
def laws_toObjS.E : Env := [((45, []), laws_toObj.s)]
def laws_toObjS.G8 (k : Nat) (avs : List AV) (H : List HE) : Option (List (Int × List Int)) := match avs, H with
  | [.con (.pair (.int .i64) (.sl (.int .i64))) x0, .own 0, .v (.int .i64 x4)], [.row 45 (.pair (.int .i64) (.sl (.int .i64))) x3] => laws_toObjS.p8 k x0 x3 x4
  | _, _ => none
def laws_toObjS.G (k p : Nat) (avs : List AV) (H : List HE) : Option (List (Int × List Int)) := (pick1 8 (laws_toObjS.G8 k avs H) none p)
set_option maxRecDepth 100000 in
theorem laws_toObjS.eq (k : Nat) (a0 : List (Int × List Int)) : fromTop Tryd.prog laws_toObjS.E k laws_toObjS.a (laws_toObjS.G k) 1000 (bodyOf Tryd.prog 26) [.con (.pair (.int .i64) (.sl (.int .i64))) a0] [] = laws_toObjS.f k a0 := by kernel_rfl
set_option maxRecDepth 100000 in
theorem laws_toObjS.eq8 (k : Nat) (x0 : List (Int × List Int)) (x3 : List (Int × List Int)) (x4 : Int) : fromPt Tryd.prog laws_toObjS.E k laws_toObjS.a (laws_toObjS.G k) 1000 (bodyOf Tryd.prog 26) 8 [.con (.pair (.int .i64) (.sl (.int .i64))) x0, .own 0, .v (.int .i64 x4)] [.row 45 (.pair (.int .i64) (.sl (.int .i64))) x3] = laws_toObjS.p8 (k + 1) x0 x3 x4 := by kernel_rfl
theorem laws_toObjS.G8_0 {avs : List AV} {H : List HE} : laws_toObjS.G8 0 avs H = none := by unfold laws_toObjS.G8; split <;> rfl
theorem laws_toObjS.G8_s (k : Nat) {avs : List AV} {H : List HE} {x : List (Int × List Int)} (h : laws_toObjS.G8 (k + 1) avs H = some x) : fromPt Tryd.prog laws_toObjS.E k laws_toObjS.a (laws_toObjS.G k) 1000 (bodyOf Tryd.prog 26) 8 avs H = some x := by
  unfold laws_toObjS.G8 at h
  split at h
  · rw [← h]; exact laws_toObjS.eq8 _ _ _ _
  · cases h
theorem laws_toObjS.E_ok : EnvOk Tryd.prog laws_toObjS.E := ⟨⟨laws_toObj.sound, callable_of (by kernel_rfl)⟩, trivial⟩
theorem laws_toObjS.sound : Sound Tryd.prog 26 laws_toObjS.s := by
  refine func_sound (f := laws_toObjS.a) (G := laws_toObjS.G) (fn := Tryd.f26) (body := bodyOf Tryd.prog 26) 1000 (by kernel_rfl) laws_toObjS.E_ok Tryd.func26 (by kernel_rfl) (by kernel_rfl) (by kernel_rfl) (ptsOk_of (by kernel_rfl)) ?_ ?_ ?_ ?_
  · intro r H x h
    unfold laws_toObjS.a at h
    simp only at h
    split at h
    · cases h; rfl
    · cases h
  · exact fun q avs H => pick1_none laws_toObjS.G8_0 (rfl)
  · intro k q pt avs H x _ h
    rcases pick1_some h with ⟨rfl, h⟩ | h
    · exact laws_toObjS.G8_s _ h
    cases h
  · intro k avs H o h
    try dsimp only at h
    split at h
    · cases h; exact laws_toObjS.eq _ _
    · cases h

def laws_toGraph.a : FnA (List Int × List (Int × List Int)) := ⟨13, [.cell 2 33], .agg [.row 2 (.int .i64), .row 45 (.pair (.int .i64) (.sl (.int .i64)))], [], [], fun x H => match x, H with
  | .agg [.own 0, .own 1], [.row 2 (.int .i64) r_0, .row 45 (.pair (.int .i64) (.sl (.int .i64))) r_1] => some (r_0, r_1)
  | _, _ => none⟩
def laws_toGraph.s : Spec := mkS [.agg [.con (.int .i64), .con (.pair (.int .i64) (.sl (.int .i64)))]] (fun k avs H => match avs, H with
  | [.agg [.con (.int .i64) a0_0, .con (.pair (.int .i64) (.sl (.int .i64))) a0_1]], [] => some (laws_toGraph.f k a0_0 a0_1)
  | _, _ => none) (fun r => (.agg [.own 0, .own 1], [.row 2 (.int .i64) r.1, .row 45 (.pair (.int .i64) (.sl (.int .i64))) r.2]))
def laws_toGraph.E : Env := [((25, []), laws_toInt64S.s), ((26, []), laws_toObjS.s)]
def laws_toGraph.G (k p : Nat) (avs : List AV) (H : List HE) : Option (List Int × List (Int × List Int)) := none
set_option maxRecDepth 100000 in
theorem laws_toGraph.eq (k : Nat) (a0_0 : List Int) (a0_1 : List (Int × List Int)) : fromTop Tryd.prog laws_toGraph.E k laws_toGraph.a (laws_toGraph.G k) 1000 (bodyOf Tryd.prog 9) [.agg [.con (.int .i64) a0_0, .con (.pair (.int .i64) (.sl (.int .i64))) a0_1]] [] = laws_toGraph.f k a0_0 a0_1 := by kernel_rfl
theorem laws_toGraph.E_ok : EnvOk Tryd.prog laws_toGraph.E := ⟨⟨laws_toInt64S.sound, callable_of (by kernel_rfl)⟩, ⟨laws_toObjS.sound, callable_of (by kernel_rfl)⟩, trivial⟩
theorem laws_toGraph.sound : Sound Tryd.prog 9 laws_toGraph.s := by
  refine func_sound (f := laws_toGraph.a) (G := laws_toGraph.G) (fn := Tryd.f9) (body := bodyOf Tryd.prog 9) 1000 (by kernel_rfl) laws_toGraph.E_ok Tryd.func9 (by kernel_rfl) (by kernel_rfl) (by kernel_rfl) (ptsOk_of (by kernel_rfl)) ?_ ?_ ?_ ?_
  · intro r H x h
    unfold laws_toGraph.a at h
    simp only at h
    split at h
    · cases h; rfl
    · cases h
  · intro q avs H; rfl
  · intro k q pt avs H x _ h; cases h
  · intro k avs H o h
    try dsimp only at h
    split at h
    · cases h; exact laws_toGraph.eq _ _ _
    · cases h

def spec_l1In.a : FnA (Bool) := ⟨15, [.tmp 6], .bool, [], [], fun x H => match x, H with
  | .bs false r, [] => some r
  | _, _ => none⟩
def spec_l1In.s : Spec := mkS [.val, .val, .val] (fun k avs H => match avs, H with
  | [.v (.int .i64 a0), .v (.int .i64 a1), .v (.int .i64 a2)], [] => some (spec_l1In.f a0 a1 a2)
  | _, _ => none) (fun r => (.bs false r, []))
def spec_l1In.E : Env := []
def spec_l1In.G (k p : Nat) (avs : List AV) (H : List HE) : Option (Bool) := none
set_option maxRecDepth 100000 in
theorem spec_l1In.eq (k : Nat) (a0 : Int) (a1 : Int) (a2 : Int) : fromTop Tryd.prog spec_l1In.E k spec_l1In.a (spec_l1In.G k) 1000 (bodyOf Tryd.prog 23) [.v (.int .i64 a0), .v (.int .i64 a1), .v (.int .i64 a2)] [] = spec_l1In.f a0 a1 a2 := by kernel_rfl
theorem spec_l1In.E_ok : EnvOk Tryd.prog spec_l1In.E := trivial
theorem spec_l1In.sound : Sound Tryd.prog 23 spec_l1In.s := by
  refine func_sound (f := spec_l1In.a) (G := spec_l1In.G) (fn := Tryd.f23) (body := bodyOf Tryd.prog 23) 1000 (by kernel_rfl) spec_l1In.E_ok Tryd.func23 (by kernel_rfl) (by kernel_rfl) (by kernel_rfl) (ptsOk_of (by kernel_rfl)) ?_ ?_ ?_ ?_
  · intro r H x h
    unfold spec_l1In.a at h
    simp only at h
    split at h
    · cases h; rfl
    · cases h
  · intro q avs H; rfl
  · intro k q pt avs H x _ h; cases h
  · intro k avs H o h
    try dsimp only at h
    split at h
    · cases h; exact spec_l1In.eq _ _ _ _
    · cases h

def spec_l3Type.a : FnA (Bool) := ⟨23, [.tmp 2], .bool, [], [⟨6, [0, 3], [.val, .val], []⟩], fun x H => match x, H with
  | .bs false r, [] => some r
  | _, _ => none⟩
def spec_l3Type.s : Spec := mkS [.val] (fun k avs H => match avs, H with
  | [.v (.string a0)], [] => some (spec_l3Type.f k a0)
  | _, _ => none) (fun r => (.bs false r, []))
def spec_l3Type.E : Env := [((23, []), spec_l1In.s)]
def spec_l3Type.G6 (k : Nat) (avs : List AV) (H : List HE) : Option (Bool) := match avs, H with
  | [.v (.string x0), .v (.int .i64 x3)], [] => spec_l3Type.p6 k x0 x3
  | _, _ => none
def spec_l3Type.G (k p : Nat) (avs : List AV) (H : List HE) : Option (Bool) := (pick1 6 (spec_l3Type.G6 k avs H) none p)
set_option maxRecDepth 100000 in
theorem spec_l3Type.eq (k : Nat) (a0 : ByteArray) : fromTop Tryd.prog spec_l3Type.E k spec_l3Type.a (spec_l3Type.G k) 1000 (bodyOf Tryd.prog 59) [.v (.string a0)] [] = spec_l3Type.f k a0 := by kernel_rfl
set_option maxRecDepth 100000 in
theorem spec_l3Type.eq6 (k : Nat) (x0 : ByteArray) (x3 : Int) : fromPt Tryd.prog spec_l3Type.E k spec_l3Type.a (spec_l3Type.G k) 1000 (bodyOf Tryd.prog 59) 6 [.v (.string x0), .v (.int .i64 x3)] [] = spec_l3Type.p6 (k + 1) x0 x3 := by kernel_rfl
theorem spec_l3Type.G6_0 {avs : List AV} {H : List HE} : spec_l3Type.G6 0 avs H = none := by unfold spec_l3Type.G6; split <;> rfl
theorem spec_l3Type.G6_s (k : Nat) {avs : List AV} {H : List HE} {x : Bool} (h : spec_l3Type.G6 (k + 1) avs H = some x) : fromPt Tryd.prog spec_l3Type.E k spec_l3Type.a (spec_l3Type.G k) 1000 (bodyOf Tryd.prog 59) 6 avs H = some x := by
  unfold spec_l3Type.G6 at h
  split at h
  · rw [← h]; exact spec_l3Type.eq6 _ _ _
  · cases h
theorem spec_l3Type.E_ok : EnvOk Tryd.prog spec_l3Type.E := ⟨⟨spec_l1In.sound, callable_of (by kernel_rfl)⟩, trivial⟩
theorem spec_l3Type.sound : Sound Tryd.prog 59 spec_l3Type.s := by
  refine func_sound (f := spec_l3Type.a) (G := spec_l3Type.G) (fn := Tryd.f59) (body := bodyOf Tryd.prog 59) 1000 (by kernel_rfl) spec_l3Type.E_ok Tryd.func59 (by kernel_rfl) (by kernel_rfl) (by kernel_rfl) (ptsOk_of (by kernel_rfl)) ?_ ?_ ?_ ?_
  · intro r H x h
    unfold spec_l3Type.a at h
    simp only at h
    split at h
    · cases h; rfl
    · cases h
  · exact fun q avs H => pick1_none spec_l3Type.G6_0 (rfl)
  · intro k q pt avs H x _ h
    rcases pick1_some h with ⟨rfl, h⟩ | h
    · exact spec_l3Type.G6_s _ h
    cases h
  · intro k avs H o h
    try dsimp only at h
    split at h
    · cases h; exact spec_l3Type.eq _ _
    · cases h

def spec_TypesOk.a : FnA (Bool) := ⟨20, [.tmp 2], .bool, [], [⟨14, [0, 3], [.con .str, .val], []⟩], fun x H => match x, H with
  | .bs false r, [] => some r
  | _, _ => none⟩
def spec_TypesOk.s : Spec := mkS [.con .str] (fun k avs H => match avs, H with
  | [.con .str a0], [] => some (spec_TypesOk.f k a0)
  | _, _ => none) (fun r => (.bs false r, []))
def spec_TypesOk.E : Env := [((23, []), spec_l1In.s), ((59, []), spec_l3Type.s)]
def spec_TypesOk.G14 (k : Nat) (avs : List AV) (H : List HE) : Option (Bool) := match avs, H with
  | [.con .str x0, .v (.int .i64 x3)], [] => spec_TypesOk.p14 k x0 x3
  | _, _ => none
def spec_TypesOk.G (k p : Nat) (avs : List AV) (H : List HE) : Option (Bool) := (pick1 14 (spec_TypesOk.G14 k avs H) none p)
set_option maxRecDepth 100000 in
theorem spec_TypesOk.eq (k : Nat) (a0 : List ByteArray) : fromTop Tryd.prog spec_TypesOk.E k spec_TypesOk.a (spec_TypesOk.G k) 1000 (bodyOf Tryd.prog 43) [.con .str a0] [] = spec_TypesOk.f k a0 := by kernel_rfl
set_option maxRecDepth 100000 in
theorem spec_TypesOk.eq14 (k : Nat) (x0 : List ByteArray) (x3 : Int) : fromPt Tryd.prog spec_TypesOk.E k spec_TypesOk.a (spec_TypesOk.G k) 1000 (bodyOf Tryd.prog 43) 14 [.con .str x0, .v (.int .i64 x3)] [] = spec_TypesOk.p14 (k + 1) x0 x3 := by kernel_rfl
theorem spec_TypesOk.G14_0 {avs : List AV} {H : List HE} : spec_TypesOk.G14 0 avs H = none := by unfold spec_TypesOk.G14; split <;> rfl
theorem spec_TypesOk.G14_s (k : Nat) {avs : List AV} {H : List HE} {x : Bool} (h : spec_TypesOk.G14 (k + 1) avs H = some x) : fromPt Tryd.prog spec_TypesOk.E k spec_TypesOk.a (spec_TypesOk.G k) 1000 (bodyOf Tryd.prog 43) 14 avs H = some x := by
  unfold spec_TypesOk.G14 at h
  split at h
  · rw [← h]; exact spec_TypesOk.eq14 _ _ _
  · cases h
theorem spec_TypesOk.E_ok : EnvOk Tryd.prog spec_TypesOk.E := ⟨⟨spec_l1In.sound, callable_of (by kernel_rfl)⟩, ⟨spec_l3Type.sound, callable_of (by kernel_rfl)⟩, trivial⟩
theorem spec_TypesOk.sound : Sound Tryd.prog 43 spec_TypesOk.s := by
  refine func_sound (f := spec_TypesOk.a) (G := spec_TypesOk.G) (fn := Tryd.f43) (body := bodyOf Tryd.prog 43) 1000 (by kernel_rfl) spec_TypesOk.E_ok Tryd.func43 (by kernel_rfl) (by kernel_rfl) (by kernel_rfl) (ptsOk_of (by kernel_rfl)) ?_ ?_ ?_ ?_
  · intro r H x h
    unfold spec_TypesOk.a at h
    simp only at h
    split at h
    · cases h; rfl
    · cases h
  · exact fun q avs H => pick1_none spec_TypesOk.G14_0 (rfl)
  · intro k q pt avs H x _ h
    rcases pick1_some h with ⟨rfl, h⟩ | h
    · exact spec_TypesOk.G14_s _ h
    cases h
  · intro k avs H o h
    try dsimp only at h
    split at h
    · cases h; exact spec_TypesOk.eq _ _
    · cases h

def spec_GraphOk.a : FnA (Bool) := ⟨99, [.tmp 4], .bool, [], [⟨16, [0, 3, 5, 6], [.con .str, .box [.con (.int .i64), .con (.pair (.int .i64) (.sl (.int .i64)))], .val, .val], []⟩, ⟨37, [0, 3, 5, 7], [.con .str, .box [.con (.int .i64), .con (.pair (.int .i64) (.sl (.int .i64)))], .val, .val], []⟩, ⟨59, [0, 3, 5, 7, 8, 9], [.con .str, .box [.con (.int .i64), .con (.pair (.int .i64) (.sl (.int .i64)))], .val, .val, .box [.val, .con (.int .i64)], .val], []⟩], fun x H => match x, H with
  | .bs false r, [] => some r
  | _, _ => none⟩
def spec_GraphOk.s : Spec := mkS [.con .str, .agg [.con (.int .i64), .con (.pair (.int .i64) (.sl (.int .i64)))]] (fun k avs H => match avs, H with
  | [.con .str a0, .agg [.con (.int .i64) a1_0, .con (.pair (.int .i64) (.sl (.int .i64))) a1_1]], [] => some (spec_GraphOk.f k a0 a1_0 a1_1)
  | _, _ => none) (fun r => (.bs false r, []))
def spec_GraphOk.E : Env := [((43, []), spec_TypesOk.s), ((23, []), spec_l1In.s)]
def spec_GraphOk.G16 (k : Nat) (avs : List AV) (H : List HE) : Option (Bool) := match avs, H with
  | [.con .str x0, .box 0 0, .v (.int .i64 x5), .v (.int .i64 x6)], [.box [.con (.int .i64) x3_0, .con (.pair (.int .i64) (.sl (.int .i64))) x3_1]] => spec_GraphOk.p16 k x0 x3_0 x3_1 x5 x6
  | _, _ => none
def spec_GraphOk.G37 (k : Nat) (avs : List AV) (H : List HE) : Option (Bool) := match avs, H with
  | [.con .str x0, .box 0 0, .v (.int .i64 x5), .v (.int .i64 x7)], [.box [.con (.int .i64) x3_0, .con (.pair (.int .i64) (.sl (.int .i64))) x3_1]] => spec_GraphOk.p37 k x0 x3_0 x3_1 x5 x7
  | _, _ => none
def spec_GraphOk.G59 (k : Nat) (avs : List AV) (H : List HE) : Option (Bool) := match avs, H with
  | [.con .str x0, .box 0 0, .v (.int .i64 x5), .v (.int .i64 x7), .box 1 0, .v (.int .i64 x9)], [.box [.con (.int .i64) x3_0, .con (.pair (.int .i64) (.sl (.int .i64))) x3_1], .box [.v (.int .i64 x8_0), .con (.int .i64) x8_1]] => spec_GraphOk.p59 k x0 x3_0 x3_1 x5 x7 x8_0 x8_1 x9
  | _, _ => none
def spec_GraphOk.G (k p : Nat) (avs : List AV) (H : List HE) : Option (Bool) := (pick1 16 (spec_GraphOk.G16 k avs H) (pick1 37 (spec_GraphOk.G37 k avs H) (pick1 59 (spec_GraphOk.G59 k avs H) none p) p) p)
set_option maxRecDepth 100000 in
theorem spec_GraphOk.eq (k : Nat) (a0 : List ByteArray) (a1_0 : List Int) (a1_1 : List (Int × List Int)) : fromTop Tryd.prog spec_GraphOk.E k spec_GraphOk.a (spec_GraphOk.G k) 1000 (bodyOf Tryd.prog 22) [.con .str a0, .agg [.con (.int .i64) a1_0, .con (.pair (.int .i64) (.sl (.int .i64))) a1_1]] [] = spec_GraphOk.f k a0 a1_0 a1_1 := by kernel_rfl
set_option maxRecDepth 100000 in
theorem spec_GraphOk.eq16 (k : Nat) (x0 : List ByteArray) (x3_0 : List Int) (x3_1 : List (Int × List Int)) (x5 : Int) (x6 : Int) : fromPt Tryd.prog spec_GraphOk.E k spec_GraphOk.a (spec_GraphOk.G k) 1000 (bodyOf Tryd.prog 22) 16 [.con .str x0, .box 0 0, .v (.int .i64 x5), .v (.int .i64 x6)] [.box [.con (.int .i64) x3_0, .con (.pair (.int .i64) (.sl (.int .i64))) x3_1]] = spec_GraphOk.p16 (k + 1) x0 x3_0 x3_1 x5 x6 := by kernel_rfl
theorem spec_GraphOk.G16_0 {avs : List AV} {H : List HE} : spec_GraphOk.G16 0 avs H = none := by unfold spec_GraphOk.G16; split <;> rfl
theorem spec_GraphOk.G16_s (k : Nat) {avs : List AV} {H : List HE} {x : Bool} (h : spec_GraphOk.G16 (k + 1) avs H = some x) : fromPt Tryd.prog spec_GraphOk.E k spec_GraphOk.a (spec_GraphOk.G k) 1000 (bodyOf Tryd.prog 22) 16 avs H = some x := by
  unfold spec_GraphOk.G16 at h
  split at h
  · rw [← h]; exact spec_GraphOk.eq16 _ _ _ _ _ _
  · cases h
set_option maxRecDepth 100000 in
theorem spec_GraphOk.eq37 (k : Nat) (x0 : List ByteArray) (x3_0 : List Int) (x3_1 : List (Int × List Int)) (x5 : Int) (x7 : Int) : fromPt Tryd.prog spec_GraphOk.E k spec_GraphOk.a (spec_GraphOk.G k) 1000 (bodyOf Tryd.prog 22) 37 [.con .str x0, .box 0 0, .v (.int .i64 x5), .v (.int .i64 x7)] [.box [.con (.int .i64) x3_0, .con (.pair (.int .i64) (.sl (.int .i64))) x3_1]] = spec_GraphOk.p37 (k + 1) x0 x3_0 x3_1 x5 x7 := by kernel_rfl
theorem spec_GraphOk.G37_0 {avs : List AV} {H : List HE} : spec_GraphOk.G37 0 avs H = none := by unfold spec_GraphOk.G37; split <;> rfl
theorem spec_GraphOk.G37_s (k : Nat) {avs : List AV} {H : List HE} {x : Bool} (h : spec_GraphOk.G37 (k + 1) avs H = some x) : fromPt Tryd.prog spec_GraphOk.E k spec_GraphOk.a (spec_GraphOk.G k) 1000 (bodyOf Tryd.prog 22) 37 avs H = some x := by
  unfold spec_GraphOk.G37 at h
  split at h
  · rw [← h]; exact spec_GraphOk.eq37 _ _ _ _ _ _
  · cases h
set_option maxRecDepth 100000 in
theorem spec_GraphOk.eq59 (k : Nat) (x0 : List ByteArray) (x3_0 : List Int) (x3_1 : List (Int × List Int)) (x5 : Int) (x7 : Int) (x8_0 : Int) (x8_1 : List Int) (x9 : Int) : fromPt Tryd.prog spec_GraphOk.E k spec_GraphOk.a (spec_GraphOk.G k) 1000 (bodyOf Tryd.prog 22) 59 [.con .str x0, .box 0 0, .v (.int .i64 x5), .v (.int .i64 x7), .box 1 0, .v (.int .i64 x9)] [.box [.con (.int .i64) x3_0, .con (.pair (.int .i64) (.sl (.int .i64))) x3_1], .box [.v (.int .i64 x8_0), .con (.int .i64) x8_1]] = spec_GraphOk.p59 (k + 1) x0 x3_0 x3_1 x5 x7 x8_0 x8_1 x9 := by kernel_rfl
theorem spec_GraphOk.G59_0 {avs : List AV} {H : List HE} : spec_GraphOk.G59 0 avs H = none := by unfold spec_GraphOk.G59; split <;> rfl
theorem spec_GraphOk.G59_s (k : Nat) {avs : List AV} {H : List HE} {x : Bool} (h : spec_GraphOk.G59 (k + 1) avs H = some x) : fromPt Tryd.prog spec_GraphOk.E k spec_GraphOk.a (spec_GraphOk.G k) 1000 (bodyOf Tryd.prog 22) 59 avs H = some x := by
  unfold spec_GraphOk.G59 at h
  split at h
  · rw [← h]; exact spec_GraphOk.eq59 _ _ _ _ _ _ _ _ _
  · cases h
theorem spec_GraphOk.E_ok : EnvOk Tryd.prog spec_GraphOk.E := ⟨⟨spec_TypesOk.sound, callable_of (by kernel_rfl)⟩, ⟨spec_l1In.sound, callable_of (by kernel_rfl)⟩, trivial⟩
theorem spec_GraphOk.sound : Sound Tryd.prog 22 spec_GraphOk.s := by
  refine func_sound (f := spec_GraphOk.a) (G := spec_GraphOk.G) (fn := Tryd.f22) (body := bodyOf Tryd.prog 22) 1000 (by kernel_rfl) spec_GraphOk.E_ok Tryd.func22 (by kernel_rfl) (by kernel_rfl) (by kernel_rfl) (ptsOk_of (by kernel_rfl)) ?_ ?_ ?_ ?_
  · intro r H x h
    unfold spec_GraphOk.a at h
    simp only at h
    split at h
    · cases h; rfl
    · cases h
  · exact fun q avs H => pick1_none spec_GraphOk.G16_0 (pick1_none spec_GraphOk.G37_0 (pick1_none spec_GraphOk.G59_0 (rfl)))
  · intro k q pt avs H x _ h
    rcases pick1_some h with ⟨rfl, h⟩ | h
    · exact spec_GraphOk.G16_s _ h
    rcases pick1_some h with ⟨rfl, h⟩ | h
    · exact spec_GraphOk.G37_s _ h
    rcases pick1_some h with ⟨rfl, h⟩ | h
    · exact spec_GraphOk.G59_s _ h
    cases h
  · intro k avs H o h
    try dsimp only at h
    split at h
    · cases h; exact spec_GraphOk.eq _ _ _ _
    · cases h

def spec_l1Dec_base.a : FnA (ByteArray) := ⟨29, [.tmp 2], .val, [], [⟨14, [0, 3], [.val, .val], []⟩], fun x H => match x, H with
  | .v (.string r), [] => some r
  | _, _ => none⟩
def spec_l1Dec_base.s : Spec := mkS [.val] (fun k avs H => match avs, H with
  | [.v (.int .i64 a0)], [] => some (spec_l1Dec_base.f k a0)
  | _, _ => none) (fun r => (.v (.string r), []))
def spec_l1Dec_base.E : Env := []
def spec_l1Dec_base.G14 (k : Nat) (avs : List AV) (H : List HE) : Option (ByteArray) := match avs, H with
  | [.v (.int .i64 x0), .v (.string x3)], [] => spec_l1Dec_base.p14 k x0 x3
  | _, _ => none
def spec_l1Dec_base.G (k p : Nat) (avs : List AV) (H : List HE) : Option (ByteArray) := (pick1 14 (spec_l1Dec_base.G14 k avs H) none p)
set_option maxRecDepth 100000 in
theorem spec_l1Dec_base.eq (k : Nat) (a0 : Int) : fromTop Tryd.prog spec_l1Dec_base.E k spec_l1Dec_base.a (spec_l1Dec_base.G k) 1000 (bodyOf Tryd.prog 44) [.v (.int .i64 a0)] [] = spec_l1Dec_base.f k a0 := by kernel_rfl
set_option maxRecDepth 100000 in
theorem spec_l1Dec_base.eq14 (k : Nat) (x0 : Int) (x3 : ByteArray) : fromPt Tryd.prog spec_l1Dec_base.E k spec_l1Dec_base.a (spec_l1Dec_base.G k) 1000 (bodyOf Tryd.prog 44) 14 [.v (.int .i64 x0), .v (.string x3)] [] = spec_l1Dec_base.p14 (k + 1) x0 x3 := by kernel_rfl
theorem spec_l1Dec_base.G14_0 {avs : List AV} {H : List HE} : spec_l1Dec_base.G14 0 avs H = none := by unfold spec_l1Dec_base.G14; split <;> rfl
theorem spec_l1Dec_base.G14_s (k : Nat) {avs : List AV} {H : List HE} {x : ByteArray} (h : spec_l1Dec_base.G14 (k + 1) avs H = some x) : fromPt Tryd.prog spec_l1Dec_base.E k spec_l1Dec_base.a (spec_l1Dec_base.G k) 1000 (bodyOf Tryd.prog 44) 14 avs H = some x := by
  unfold spec_l1Dec_base.G14 at h
  split at h
  · rw [← h]; exact spec_l1Dec_base.eq14 _ _ _
  · cases h
theorem spec_l1Dec_base.E_ok : EnvOk Tryd.prog spec_l1Dec_base.E := trivial
theorem spec_l1Dec_base.sound : Sound Tryd.prog 44 spec_l1Dec_base.s := by
  refine func_sound (f := spec_l1Dec_base.a) (G := spec_l1Dec_base.G) (fn := Tryd.f44) (body := bodyOf Tryd.prog 44) 1000 (by kernel_rfl) spec_l1Dec_base.E_ok Tryd.func44 (by kernel_rfl) (by kernel_rfl) (by kernel_rfl) (ptsOk_of (by kernel_rfl)) ?_ ?_ ?_ ?_
  · intro r H x h
    unfold spec_l1Dec_base.a at h
    simp only at h
    split at h
    · cases h; rfl
    · cases h
  · exact fun q avs H => pick1_none spec_l1Dec_base.G14_0 (rfl)
  · intro k q pt avs H x _ h
    rcases pick1_some h with ⟨rfl, h⟩ | h
    · exact spec_l1Dec_base.G14_s _ h
    cases h
  · intro k avs H o h
    try dsimp only at h
    split at h
    · cases h; exact spec_l1Dec_base.eq _ _
    · cases h

def spec_l1Dec.a : FnA (ByteArray) := ⟨29, [.tmp 2], .val, [], [⟨14, [0, 3], [.val, .val], []⟩], fun x H => match x, H with
  | .v (.string r), [] => some r
  | _, _ => none⟩
def spec_l1Dec.s : Spec := mkS [.val] (fun k avs H => match avs, H with
  | [.v (.int .i64 a0)], [] => some (spec_l1Dec.f k a0)
  | _, _ => none) (fun r => (.v (.string r), []))
def spec_l1Dec.E : Env := [((44, []), spec_l1Dec_base.s)]
def spec_l1Dec.G14 (k : Nat) (avs : List AV) (H : List HE) : Option (ByteArray) := match avs, H with
  | [.v (.int .i64 x0), .v (.string x3)], [] => spec_l1Dec.p14 k x0 x3
  | _, _ => none
def spec_l1Dec.G (k p : Nat) (avs : List AV) (H : List HE) : Option (ByteArray) := (pick1 14 (spec_l1Dec.G14 k avs H) none p)
set_option maxRecDepth 100000 in
theorem spec_l1Dec.eq (k : Nat) (a0 : Int) : fromTop Tryd.prog spec_l1Dec.E k spec_l1Dec.a (spec_l1Dec.G k) 1000 (bodyOf Tryd.prog 44) [.v (.int .i64 a0)] [] = spec_l1Dec.f k a0 := by kernel_rfl
set_option maxRecDepth 100000 in
theorem spec_l1Dec.eq14 (k : Nat) (x0 : Int) (x3 : ByteArray) : fromPt Tryd.prog spec_l1Dec.E k spec_l1Dec.a (spec_l1Dec.G k) 1000 (bodyOf Tryd.prog 44) 14 [.v (.int .i64 x0), .v (.string x3)] [] = spec_l1Dec.p14 (k + 1) x0 x3 := by kernel_rfl
theorem spec_l1Dec.G14_0 {avs : List AV} {H : List HE} : spec_l1Dec.G14 0 avs H = none := by unfold spec_l1Dec.G14; split <;> rfl
theorem spec_l1Dec.G14_s (k : Nat) {avs : List AV} {H : List HE} {x : ByteArray} (h : spec_l1Dec.G14 (k + 1) avs H = some x) : fromPt Tryd.prog spec_l1Dec.E k spec_l1Dec.a (spec_l1Dec.G k) 1000 (bodyOf Tryd.prog 44) 14 avs H = some x := by
  unfold spec_l1Dec.G14 at h
  split at h
  · rw [← h]; exact spec_l1Dec.eq14 _ _ _
  · cases h
theorem spec_l1Dec.E_ok : EnvOk Tryd.prog spec_l1Dec.E := ⟨⟨spec_l1Dec_base.sound, callable_of (by kernel_rfl)⟩, trivial⟩
theorem spec_l1Dec.sound : Sound Tryd.prog 44 spec_l1Dec.s := by
  refine func_sound (f := spec_l1Dec.a) (G := spec_l1Dec.G) (fn := Tryd.f44) (body := bodyOf Tryd.prog 44) 1000 (by kernel_rfl) spec_l1Dec.E_ok Tryd.func44 (by kernel_rfl) (by kernel_rfl) (by kernel_rfl) (ptsOk_of (by kernel_rfl)) ?_ ?_ ?_ ?_
  · intro r H x h
    unfold spec_l1Dec.a at h
    simp only at h
    split at h
    · cases h; rfl
    · cases h
  · exact fun q avs H => pick1_none spec_l1Dec.G14_0 (rfl)
  · intro k q pt avs H x _ h
    rcases pick1_some h with ⟨rfl, h⟩ | h
    · exact spec_l1Dec.G14_s _ h
    cases h
  · intro k avs H o h
    try dsimp only at h
    split at h
    · cases h; exact spec_l1Dec.eq _ _
    · cases h

def spec_l7Text.a : FnA (ByteArray) := ⟨74, [.tmp 2], .val, [], [⟨8, [1, 3, 4], [.box [.con (.int .i64), .con (.pair (.int .i64) (.sl (.int .i64)))], .val, .val], []⟩, ⟨25, [1, 5, 6], [.box [.con (.int .i64), .con (.pair (.int .i64) (.sl (.int .i64)))], .row 0 .bool, .val], []⟩, ⟨40, [1, 5, 6, 7, 8], [.box [.con (.int .i64), .con (.pair (.int .i64) (.sl (.int .i64)))], .row 0 .bool, .val, .val, .val], []⟩], fun x H => match x, H with
  | .v (.string r), [] => some r
  | _, _ => none⟩
def spec_l7Text.s : Spec := mkS [.agg [.con (.int .i64), .con (.pair (.int .i64) (.sl (.int .i64)))]] (fun k avs H => match avs, H with
  | [.agg [.con (.int .i64) a0_0, .con (.pair (.int .i64) (.sl (.int .i64))) a0_1]], [] => some (spec_l7Text.f k a0_0 a0_1)
  | _, _ => none) (fun r => (.v (.string r), []))
def spec_l7Text.E : Env := [((44, []), spec_l1Dec.s)]
def spec_l7Text.G8 (k : Nat) (avs : List AV) (H : List HE) : Option (ByteArray) := match avs, H with
  | [.box 0 0, .v (.string x3), .v (.int .i64 x4)], [.box [.con (.int .i64) x1_0, .con (.pair (.int .i64) (.sl (.int .i64))) x1_1]] => spec_l7Text.p8 k x1_0 x1_1 x3 x4
  | _, _ => none
def spec_l7Text.G25 (k : Nat) (avs : List AV) (H : List HE) : Option (ByteArray) := match avs, H with
  | [.box 0 0, .own 1, .v (.int .i64 x6)], [.box [.con (.int .i64) x1_0, .con (.pair (.int .i64) (.sl (.int .i64))) x1_1], .bts x5] => spec_l7Text.p25 k x1_0 x1_1 x5 x6
  | _, _ => none
def spec_l7Text.G40 (k : Nat) (avs : List AV) (H : List HE) : Option (ByteArray) := match avs, H with
  | [.box 0 0, .own 1, .v (.int .i64 x6), .v (.string x7), .v (.int .i64 x8)], [.box [.con (.int .i64) x1_0, .con (.pair (.int .i64) (.sl (.int .i64))) x1_1], .bts x5] => spec_l7Text.p40 k x1_0 x1_1 x5 x6 x7 x8
  | _, _ => none
def spec_l7Text.G (k p : Nat) (avs : List AV) (H : List HE) : Option (ByteArray) := (pick1 8 (spec_l7Text.G8 k avs H) (pick1 25 (spec_l7Text.G25 k avs H) (pick1 40 (spec_l7Text.G40 k avs H) none p) p) p)
set_option maxRecDepth 100000 in
theorem spec_l7Text.eq (k : Nat) (a0_0 : List Int) (a0_1 : List (Int × List Int)) : fromTop Tryd.prog spec_l7Text.E k spec_l7Text.a (spec_l7Text.G k) 1000 (bodyOf Tryd.prog 24) [.agg [.con (.int .i64) a0_0, .con (.pair (.int .i64) (.sl (.int .i64))) a0_1]] [] = spec_l7Text.f k a0_0 a0_1 := by kernel_rfl
set_option maxRecDepth 100000 in
theorem spec_l7Text.eq8 (k : Nat) (x1_0 : List Int) (x1_1 : List (Int × List Int)) (x3 : ByteArray) (x4 : Int) : fromPt Tryd.prog spec_l7Text.E k spec_l7Text.a (spec_l7Text.G k) 1000 (bodyOf Tryd.prog 24) 8 [.box 0 0, .v (.string x3), .v (.int .i64 x4)] [.box [.con (.int .i64) x1_0, .con (.pair (.int .i64) (.sl (.int .i64))) x1_1]] = spec_l7Text.p8 (k + 1) x1_0 x1_1 x3 x4 := by kernel_rfl
theorem spec_l7Text.G8_0 {avs : List AV} {H : List HE} : spec_l7Text.G8 0 avs H = none := by unfold spec_l7Text.G8; split <;> rfl
theorem spec_l7Text.G8_s (k : Nat) {avs : List AV} {H : List HE} {x : ByteArray} (h : spec_l7Text.G8 (k + 1) avs H = some x) : fromPt Tryd.prog spec_l7Text.E k spec_l7Text.a (spec_l7Text.G k) 1000 (bodyOf Tryd.prog 24) 8 avs H = some x := by
  unfold spec_l7Text.G8 at h
  split at h
  · rw [← h]; exact spec_l7Text.eq8 _ _ _ _ _
  · cases h
set_option maxRecDepth 100000 in
theorem spec_l7Text.eq25 (k : Nat) (x1_0 : List Int) (x1_1 : List (Int × List Int)) (x5 : List Int) (x6 : Int) : fromPt Tryd.prog spec_l7Text.E k spec_l7Text.a (spec_l7Text.G k) 1000 (bodyOf Tryd.prog 24) 25 [.box 0 0, .own 1, .v (.int .i64 x6)] [.box [.con (.int .i64) x1_0, .con (.pair (.int .i64) (.sl (.int .i64))) x1_1], .bts x5] = spec_l7Text.p25 (k + 1) x1_0 x1_1 x5 x6 := by kernel_rfl
theorem spec_l7Text.G25_0 {avs : List AV} {H : List HE} : spec_l7Text.G25 0 avs H = none := by unfold spec_l7Text.G25; split <;> rfl
theorem spec_l7Text.G25_s (k : Nat) {avs : List AV} {H : List HE} {x : ByteArray} (h : spec_l7Text.G25 (k + 1) avs H = some x) : fromPt Tryd.prog spec_l7Text.E k spec_l7Text.a (spec_l7Text.G k) 1000 (bodyOf Tryd.prog 24) 25 avs H = some x := by
  unfold spec_l7Text.G25 at h
  split at h
  · rw [← h]; exact spec_l7Text.eq25 _ _ _ _ _
  · cases h
set_option maxRecDepth 100000 in
theorem spec_l7Text.eq40 (k : Nat) (x1_0 : List Int) (x1_1 : List (Int × List Int)) (x5 : List Int) (x6 : Int) (x7 : ByteArray) (x8 : Int) : fromPt Tryd.prog spec_l7Text.E k spec_l7Text.a (spec_l7Text.G k) 1000 (bodyOf Tryd.prog 24) 40 [.box 0 0, .own 1, .v (.int .i64 x6), .v (.string x7), .v (.int .i64 x8)] [.box [.con (.int .i64) x1_0, .con (.pair (.int .i64) (.sl (.int .i64))) x1_1], .bts x5] = spec_l7Text.p40 (k + 1) x1_0 x1_1 x5 x6 x7 x8 := by kernel_rfl
theorem spec_l7Text.G40_0 {avs : List AV} {H : List HE} : spec_l7Text.G40 0 avs H = none := by unfold spec_l7Text.G40; split <;> rfl
theorem spec_l7Text.G40_s (k : Nat) {avs : List AV} {H : List HE} {x : ByteArray} (h : spec_l7Text.G40 (k + 1) avs H = some x) : fromPt Tryd.prog spec_l7Text.E k spec_l7Text.a (spec_l7Text.G k) 1000 (bodyOf Tryd.prog 24) 40 avs H = some x := by
  unfold spec_l7Text.G40 at h
  split at h
  · rw [← h]; exact spec_l7Text.eq40 _ _ _ _ _ _ _
  · cases h
theorem spec_l7Text.E_ok : EnvOk Tryd.prog spec_l7Text.E := ⟨⟨spec_l1Dec.sound, callable_of (by kernel_rfl)⟩, trivial⟩
theorem spec_l7Text.sound : Sound Tryd.prog 24 spec_l7Text.s := by
  refine func_sound (f := spec_l7Text.a) (G := spec_l7Text.G) (fn := Tryd.f24) (body := bodyOf Tryd.prog 24) 1000 (by kernel_rfl) spec_l7Text.E_ok Tryd.func24 (by kernel_rfl) (by kernel_rfl) (by kernel_rfl) (ptsOk_of (by kernel_rfl)) ?_ ?_ ?_ ?_
  · intro r H x h
    unfold spec_l7Text.a at h
    simp only at h
    split at h
    · cases h; rfl
    · cases h
  · exact fun q avs H => pick1_none spec_l7Text.G8_0 (pick1_none spec_l7Text.G25_0 (pick1_none spec_l7Text.G40_0 (rfl)))
  · intro k q pt avs H x _ h
    rcases pick1_some h with ⟨rfl, h⟩ | h
    · exact spec_l7Text.G8_s _ h
    rcases pick1_some h with ⟨rfl, h⟩ | h
    · exact spec_l7Text.G25_s _ h
    rcases pick1_some h with ⟨rfl, h⟩ | h
    · exact spec_l7Text.G40_s _ h
    cases h
  · intro k avs H o h
    try dsimp only at h
    split at h
    · cases h; exact spec_l7Text.eq _ _ _
    · cases h

def spec_GraphText.a : FnA (ByteArray) := ⟨42, [.tmp 4], .val, [], [⟨14, [3, 5], [.box [.con (.int .i64), .con (.pair (.int .i64) (.sl (.int .i64)))], .val], []⟩, ⟨26, [3, 5, 6], [.box [.con (.int .i64), .con (.pair (.int .i64) (.sl (.int .i64)))], .val, .val], []⟩], fun x H => match x, H with
  | .v (.string r), [] => some r
  | _, _ => none⟩
def spec_GraphText.s : Spec := mkS [.con .str, .agg [.con (.int .i64), .con (.pair (.int .i64) (.sl (.int .i64)))]] (fun k avs H => match avs, H with
  | [.con .str a0, .agg [.con (.int .i64) a1_0, .con (.pair (.int .i64) (.sl (.int .i64))) a1_1]], [] => some (spec_GraphText.f k a0 a1_0 a1_1)
  | _, _ => none) (fun r => (.v (.string r), []))
def spec_GraphText.E : Env := [((22, []), spec_GraphOk.s), ((24, []), spec_l7Text.s), ((23, []), spec_l1In.s)]
def spec_GraphText.G14 (k : Nat) (avs : List AV) (H : List HE) : Option (ByteArray) := match avs, H with
  | [.box 0 0, .v (.int .i64 x5)], [.box [.con (.int .i64) x3_0, .con (.pair (.int .i64) (.sl (.int .i64))) x3_1]] => spec_GraphText.p14 k x3_0 x3_1 x5
  | _, _ => none
def spec_GraphText.G26 (k : Nat) (avs : List AV) (H : List HE) : Option (ByteArray) := match avs, H with
  | [.box 0 0, .v (.int .i64 x5), .v (.int .i64 x6)], [.box [.con (.int .i64) x3_0, .con (.pair (.int .i64) (.sl (.int .i64))) x3_1]] => spec_GraphText.p26 k x3_0 x3_1 x5 x6
  | _, _ => none
def spec_GraphText.G (k p : Nat) (avs : List AV) (H : List HE) : Option (ByteArray) := (pick1 14 (spec_GraphText.G14 k avs H) (pick1 26 (spec_GraphText.G26 k avs H) none p) p)
set_option maxRecDepth 100000 in
theorem spec_GraphText.eq (k : Nat) (a0 : List ByteArray) (a1_0 : List Int) (a1_1 : List (Int × List Int)) : fromTop Tryd.prog spec_GraphText.E k spec_GraphText.a (spec_GraphText.G k) 1000 (bodyOf Tryd.prog 7) [.con .str a0, .agg [.con (.int .i64) a1_0, .con (.pair (.int .i64) (.sl (.int .i64))) a1_1]] [] = spec_GraphText.f k a0 a1_0 a1_1 := by kernel_rfl
set_option maxRecDepth 100000 in
theorem spec_GraphText.eq14 (k : Nat) (x3_0 : List Int) (x3_1 : List (Int × List Int)) (x5 : Int) : fromPt Tryd.prog spec_GraphText.E k spec_GraphText.a (spec_GraphText.G k) 1000 (bodyOf Tryd.prog 7) 14 [.box 0 0, .v (.int .i64 x5)] [.box [.con (.int .i64) x3_0, .con (.pair (.int .i64) (.sl (.int .i64))) x3_1]] = spec_GraphText.p14 (k + 1) x3_0 x3_1 x5 := by kernel_rfl
theorem spec_GraphText.G14_0 {avs : List AV} {H : List HE} : spec_GraphText.G14 0 avs H = none := by unfold spec_GraphText.G14; split <;> rfl
theorem spec_GraphText.G14_s (k : Nat) {avs : List AV} {H : List HE} {x : ByteArray} (h : spec_GraphText.G14 (k + 1) avs H = some x) : fromPt Tryd.prog spec_GraphText.E k spec_GraphText.a (spec_GraphText.G k) 1000 (bodyOf Tryd.prog 7) 14 avs H = some x := by
  unfold spec_GraphText.G14 at h
  split at h
  · rw [← h]; exact spec_GraphText.eq14 _ _ _ _
  · cases h
set_option maxRecDepth 100000 in
theorem spec_GraphText.eq26 (k : Nat) (x3_0 : List Int) (x3_1 : List (Int × List Int)) (x5 : Int) (x6 : Int) : fromPt Tryd.prog spec_GraphText.E k spec_GraphText.a (spec_GraphText.G k) 1000 (bodyOf Tryd.prog 7) 26 [.box 0 0, .v (.int .i64 x5), .v (.int .i64 x6)] [.box [.con (.int .i64) x3_0, .con (.pair (.int .i64) (.sl (.int .i64))) x3_1]] = spec_GraphText.p26 (k + 1) x3_0 x3_1 x5 x6 := by kernel_rfl
theorem spec_GraphText.G26_0 {avs : List AV} {H : List HE} : spec_GraphText.G26 0 avs H = none := by unfold spec_GraphText.G26; split <;> rfl
theorem spec_GraphText.G26_s (k : Nat) {avs : List AV} {H : List HE} {x : ByteArray} (h : spec_GraphText.G26 (k + 1) avs H = some x) : fromPt Tryd.prog spec_GraphText.E k spec_GraphText.a (spec_GraphText.G k) 1000 (bodyOf Tryd.prog 7) 26 avs H = some x := by
  unfold spec_GraphText.G26 at h
  split at h
  · rw [← h]; exact spec_GraphText.eq26 _ _ _ _ _
  · cases h
theorem spec_GraphText.E_ok : EnvOk Tryd.prog spec_GraphText.E := ⟨⟨spec_GraphOk.sound, callable_of (by kernel_rfl)⟩, ⟨spec_l7Text.sound, callable_of (by kernel_rfl)⟩, ⟨spec_l1In.sound, callable_of (by kernel_rfl)⟩, trivial⟩
theorem spec_GraphText.sound : Sound Tryd.prog 7 spec_GraphText.s := by
  refine func_sound (f := spec_GraphText.a) (G := spec_GraphText.G) (fn := Tryd.f7) (body := bodyOf Tryd.prog 7) 1000 (by kernel_rfl) spec_GraphText.E_ok Tryd.func7 (by kernel_rfl) (by kernel_rfl) (by kernel_rfl) (ptsOk_of (by kernel_rfl)) ?_ ?_ ?_ ?_
  · intro r H x h
    unfold spec_GraphText.a at h
    simp only at h
    split at h
    · cases h; rfl
    · cases h
  · exact fun q avs H => pick1_none spec_GraphText.G14_0 (pick1_none spec_GraphText.G26_0 (rfl))
  · intro k q pt avs H x _ h
    rcases pick1_some h with ⟨rfl, h⟩ | h
    · exact spec_GraphText.G14_s _ h
    rcases pick1_some h with ⟨rfl, h⟩ | h
    · exact spec_GraphText.G26_s _ h
    cases h
  · intro k avs H o h
    try dsimp only at h
    split at h
    · cases h; exact spec_GraphText.eq _ _ _ _
    · cases h

def impl_size_string.a : FnA (Int) := ⟨5, [.tmp 2], .val, [], [], fun x H => match x, H with
  | .v (.int .i64 r), [] => some r
  | _, _ => none⟩
def impl_size_string.s : Spec := mkS [.con .str] (fun k avs H => match avs, H with
  | [.con .str a0], [] => some (impl_size_string.f a0)
  | _, _ => none) (fun r => (.v (.int .i64 r), []))
def impl_size_string.E : Env := []
def impl_size_string.G (k p : Nat) (avs : List AV) (H : List HE) : Option (Int) := none
set_option maxRecDepth 100000 in
theorem impl_size_string.eq (k : Nat) (a0 : List ByteArray) : fromTop Tryd.prog impl_size_string.E k impl_size_string.a (impl_size_string.G k) 1000 (bodyOf Tryd.prog 60) [.con .str a0] [] = impl_size_string.f a0 := by kernel_rfl
theorem impl_size_string.E_ok : EnvOk Tryd.prog impl_size_string.E := trivial
theorem impl_size_string.sound : Sound Tryd.prog 60 impl_size_string.s := by
  refine func_sound (f := impl_size_string.a) (G := impl_size_string.G) (fn := Tryd.f60) (body := bodyOf Tryd.prog 60) 1000 (by kernel_rfl) impl_size_string.E_ok Tryd.func60 (by kernel_rfl) (by kernel_rfl) (by kernel_rfl) (ptsOk_of (by kernel_rfl)) ?_ ?_ ?_ ?_
  · intro r H x h
    unfold impl_size_string.a at h
    simp only at h
    split at h
    · cases h; rfl
    · cases h
  · intro q avs H; rfl
  · intro k q pt avs H x _ h; cases h
  · intro k avs H o h
    try dsimp only at h
    split at h
    · cases h; exact impl_size_string.eq _ _
    · cases h

def impl_within.a : FnA (Bool) := ⟨15, [.tmp 6], .bool, [], [], fun x H => match x, H with
  | .bs false r, [] => some r
  | _, _ => none⟩
def impl_within.s : Spec := mkS [.val, .val, .val] (fun k avs H => match avs, H with
  | [.v (.int .i64 a0), .v (.int .i64 a1), .v (.int .i64 a2)], [] => some (impl_within.f a0 a1 a2)
  | _, _ => none) (fun r => (.bs false r, []))
def impl_within.E : Env := []
def impl_within.G (k p : Nat) (avs : List AV) (H : List HE) : Option (Bool) := none
set_option maxRecDepth 100000 in
theorem impl_within.eq (k : Nat) (a0 : Int) (a1 : Int) (a2 : Int) : fromTop Tryd.prog impl_within.E k impl_within.a (impl_within.G k) 1000 (bodyOf Tryd.prog 32) [.v (.int .i64 a0), .v (.int .i64 a1), .v (.int .i64 a2)] [] = impl_within.f a0 a1 a2 := by kernel_rfl
theorem impl_within.E_ok : EnvOk Tryd.prog impl_within.E := trivial
theorem impl_within.sound : Sound Tryd.prog 32 impl_within.s := by
  refine func_sound (f := impl_within.a) (G := impl_within.G) (fn := Tryd.f32) (body := bodyOf Tryd.prog 32) 1000 (by kernel_rfl) impl_within.E_ok Tryd.func32 (by kernel_rfl) (by kernel_rfl) (by kernel_rfl) (ptsOk_of (by kernel_rfl)) ?_ ?_ ?_ ?_
  · intro r H x h
    unfold impl_within.a at h
    simp only at h
    split at h
    · cases h; rfl
    · cases h
  · intro q avs H; rfl
  · intro k q pt avs H x _ h; cases h
  · intro k avs H o h
    try dsimp only at h
    split at h
    · cases h; exact impl_within.eq _ _ _ _
    · cases h

def strings_Trim.s : Spec := mkS [.val, .val] (fun _ avs H => match avs, H with
  | [.v (.string a0), .v (.string a1)], [] => some (strings_Trim.f a0 a1)
  | _, _ => none) (fun r => (.v (.string r), []))
theorem strings_Trim.sound : Sound Tryd.prog 80 strings_Trim.s := by
  refine sound_plain (emb := fun r => .v (.string r)) ?_
  intro k avs H o x h hx
  split at h
  case h_2 => cases h
  rename_i a0 a1
  cases h
  refine ⟨rfl, fun M w ρ hp vals hr => ?_⟩
  obtain ⟨v0, q0, rfl, rfl, v1, q1, rfl, rfl, rfl⟩ := hr
  unfold strings_Trim.f at hx
  split at hx
  case isFalse => cases hx
  rename_i h0
  split at hx
  case isFalse => cases hx
  rename_i h1
  split at hx
  case isFalse => cases hx
  rename_i h2
  cases hx
  refine (Go.Proofs.Any.strings_Trim_laid Go.Proofs.Tryd.lays160 (by kernel_rfl) a0 a1 w h0 (by omega) (Go.Proofs.ascii_of_all h2)).mono ?_
  rintro e w' ⟨rfl, hb⟩
  exact ⟨_, rfl, hb, fun _ _ _ _ => rfl⟩

def impl_isType.a : FnA (Bool) := ⟨11, [.tmp 2], .bool, [], [], fun x H => match x, H with
  | .bs false r, [] => some r
  | _, _ => none⟩
def impl_isType.s : Spec := mkS [.val] (fun k avs H => match avs, H with
  | [.v (.string a0)], [] => some (impl_isType.f a0)
  | _, _ => none) (fun r => (.bs false r, []))
def impl_isType.E : Env := [((32, []), impl_within.s), ((80, []), strings_Trim.s)]
def impl_isType.G (k p : Nat) (avs : List AV) (H : List HE) : Option (Bool) := none
set_option maxRecDepth 100000 in
theorem impl_isType.eq (k : Nat) (a0 : ByteArray) : fromTop Tryd.prog impl_isType.E k impl_isType.a (impl_isType.G k) 1000 (bodyOf Tryd.prog 63) [.v (.string a0)] [] = impl_isType.f a0 := by kernel_rfl
theorem impl_isType.E_ok : EnvOk Tryd.prog impl_isType.E := ⟨⟨impl_within.sound, callable_of (by kernel_rfl)⟩, ⟨strings_Trim.sound, callable_of (by kernel_rfl)⟩, trivial⟩
theorem impl_isType.sound : Sound Tryd.prog 63 impl_isType.s := by
  refine func_sound (f := impl_isType.a) (G := impl_isType.G) (fn := Tryd.f63) (body := bodyOf Tryd.prog 63) 1000 (by kernel_rfl) impl_isType.E_ok Tryd.func63 (by kernel_rfl) (by kernel_rfl) (by kernel_rfl) (ptsOk_of (by kernel_rfl)) ?_ ?_ ?_ ?_
  · intro r H x h
    unfold impl_isType.a at h
    simp only at h
    split at h
    · cases h; rfl
    · cases h
  · intro q avs H; rfl
  · intro k q pt avs H x _ h; cases h
  · intro k avs H o h
    try dsimp only at h
    split at h
    · cases h; exact impl_isType.eq _ _
    · cases h

def impl_TypesOk_1.a : FnA (Bool) := ⟨6, [.tmp 2], .bool, [], [], fun x H => match x, H with
  | .bs false r, [] => some r
  | _, _ => none⟩
def impl_TypesOk_1.s : Spec := mkS [.val] (fun k avs H => match avs, H with
  | [.v (.string a0)], [] => some (impl_TypesOk_1.f a0)
  | _, _ => none) (fun r => (.bs false r, []))
def impl_TypesOk_1.E : Env := [((63, []), impl_isType.s)]
def impl_TypesOk_1.G (k p : Nat) (avs : List AV) (H : List HE) : Option (Bool) := none
set_option maxRecDepth 100000 in
theorem impl_TypesOk_1.eq (k : Nat) (a0 : ByteArray) : fromTop Tryd.prog impl_TypesOk_1.E k impl_TypesOk_1.a (impl_TypesOk_1.G k) 1000 (bodyOf Tryd.prog 62) [.v (.string a0)] [] = impl_TypesOk_1.f a0 := by kernel_rfl
theorem impl_TypesOk_1.E_ok : EnvOk Tryd.prog impl_TypesOk_1.E := ⟨⟨impl_isType.sound, callable_of (by kernel_rfl)⟩, trivial⟩
theorem impl_TypesOk_1.sound : Sound Tryd.prog 62 impl_TypesOk_1.s := by
  refine func_sound (f := impl_TypesOk_1.a) (G := impl_TypesOk_1.G) (fn := Tryd.f62) (body := bodyOf Tryd.prog 62) 1000 (by kernel_rfl) impl_TypesOk_1.E_ok Tryd.func62 (by kernel_rfl) (by kernel_rfl) (by kernel_rfl) (ptsOk_of (by kernel_rfl)) ?_ ?_ ?_ ?_
  · intro r H x h
    unfold impl_TypesOk_1.a at h
    simp only at h
    split at h
    · cases h; rfl
    · cases h
  · intro q avs H; rfl
  · intro k q pt avs H x _ h; cases h
  · intro k avs H o h
    try dsimp only at h
    split at h
    · cases h; exact impl_TypesOk_1.eq _ _
    · cases h

def slices_IndexFunc_string_at_impl_TypesOk_1.a : FnA (Int) := ⟨19, [.tmp 4], .val, [], [⟨6, [0, 1, 7, 8], [.con .str, .fn 62 0 [], .val, .val], []⟩], fun x H => match x, H with
  | .v (.int .i64 r), [] => some r
  | _, _ => none⟩
def slices_IndexFunc_string_at_impl_TypesOk_1.s : Spec := mkS [.con .str, .fn 62 0 []] (fun k avs H => match avs, H with
  | [.con .str a0, .fn 62 0 []], [] => some (slices_IndexFunc_string_at_impl_TypesOk_1.f k a0)
  | _, _ => none) (fun r => (.v (.int .i64 r), []))
def slices_IndexFunc_string_at_impl_TypesOk_1.E : Env := [((62, []), impl_TypesOk_1.s)]
def slices_IndexFunc_string_at_impl_TypesOk_1.G6 (k : Nat) (avs : List AV) (H : List HE) : Option (Int) := match avs, H with
  | [.con .str x0, .fn 62 0 [], .v (.int .i64 x7), .v (.int .i64 x8)], [] => slices_IndexFunc_string_at_impl_TypesOk_1.p6 k x0 x7 x8
  | _, _ => none
def slices_IndexFunc_string_at_impl_TypesOk_1.G (k p : Nat) (avs : List AV) (H : List HE) : Option (Int) := (pick1 6 (slices_IndexFunc_string_at_impl_TypesOk_1.G6 k avs H) none p)
set_option maxRecDepth 100000 in
theorem slices_IndexFunc_string_at_impl_TypesOk_1.eq (k : Nat) (a0 : List ByteArray) : fromTop Tryd.prog slices_IndexFunc_string_at_impl_TypesOk_1.E k slices_IndexFunc_string_at_impl_TypesOk_1.a (slices_IndexFunc_string_at_impl_TypesOk_1.G k) 1000 (bodyOf Tryd.prog 79) [.con .str a0, .fn 62 0 []] [] = slices_IndexFunc_string_at_impl_TypesOk_1.f k a0 := by kernel_rfl
set_option maxRecDepth 100000 in
theorem slices_IndexFunc_string_at_impl_TypesOk_1.eq6 (k : Nat) (x0 : List ByteArray) (x7 : Int) (x8 : Int) : fromPt Tryd.prog slices_IndexFunc_string_at_impl_TypesOk_1.E k slices_IndexFunc_string_at_impl_TypesOk_1.a (slices_IndexFunc_string_at_impl_TypesOk_1.G k) 1000 (bodyOf Tryd.prog 79) 6 [.con .str x0, .fn 62 0 [], .v (.int .i64 x7), .v (.int .i64 x8)] [] = slices_IndexFunc_string_at_impl_TypesOk_1.p6 (k + 1) x0 x7 x8 := by kernel_rfl
theorem slices_IndexFunc_string_at_impl_TypesOk_1.G6_0 {avs : List AV} {H : List HE} : slices_IndexFunc_string_at_impl_TypesOk_1.G6 0 avs H = none := by unfold slices_IndexFunc_string_at_impl_TypesOk_1.G6; split <;> rfl
theorem slices_IndexFunc_string_at_impl_TypesOk_1.G6_s (k : Nat) {avs : List AV} {H : List HE} {x : Int} (h : slices_IndexFunc_string_at_impl_TypesOk_1.G6 (k + 1) avs H = some x) : fromPt Tryd.prog slices_IndexFunc_string_at_impl_TypesOk_1.E k slices_IndexFunc_string_at_impl_TypesOk_1.a (slices_IndexFunc_string_at_impl_TypesOk_1.G k) 1000 (bodyOf Tryd.prog 79) 6 avs H = some x := by
  unfold slices_IndexFunc_string_at_impl_TypesOk_1.G6 at h
  split at h
  · rw [← h]; exact slices_IndexFunc_string_at_impl_TypesOk_1.eq6 _ _ _ _
  · cases h
theorem slices_IndexFunc_string_at_impl_TypesOk_1.E_ok : EnvOk Tryd.prog slices_IndexFunc_string_at_impl_TypesOk_1.E := ⟨⟨impl_TypesOk_1.sound, callable_of (by kernel_rfl)⟩, trivial⟩
theorem slices_IndexFunc_string_at_impl_TypesOk_1.sound : Sound Tryd.prog 79 slices_IndexFunc_string_at_impl_TypesOk_1.s := by
  refine func_sound (f := slices_IndexFunc_string_at_impl_TypesOk_1.a) (G := slices_IndexFunc_string_at_impl_TypesOk_1.G) (fn := Tryd.f79) (body := bodyOf Tryd.prog 79) 1000 (by kernel_rfl) slices_IndexFunc_string_at_impl_TypesOk_1.E_ok Tryd.func79 (by kernel_rfl) (by kernel_rfl) (by kernel_rfl) (ptsOk_of (by kernel_rfl)) ?_ ?_ ?_ ?_
  · intro r H x h
    unfold slices_IndexFunc_string_at_impl_TypesOk_1.a at h
    simp only at h
    split at h
    · cases h; rfl
    · cases h
  · exact fun q avs H => pick1_none slices_IndexFunc_string_at_impl_TypesOk_1.G6_0 (rfl)
  · intro k q pt avs H x _ h
    rcases pick1_some h with ⟨rfl, h⟩ | h
    · exact slices_IndexFunc_string_at_impl_TypesOk_1.G6_s _ h
    cases h
  · intro k avs H o h
    try dsimp only at h
    split at h
    · cases h; exact slices_IndexFunc_string_at_impl_TypesOk_1.eq _ _
    · cases h

def slices_ContainsFunc_string_at_impl_TypesOk_1.a : FnA (Bool) := ⟨9, [.tmp 4], .bool, [], [], fun x H => match x, H with
  | .bs false r, [] => some r
  | _, _ => none⟩
def slices_ContainsFunc_string_at_impl_TypesOk_1.s : Spec := mkS [.con .str, .fn 62 0 []] (fun k avs H => match avs, H with
  | [.con .str a0, .fn 62 0 []], [] => some (slices_ContainsFunc_string_at_impl_TypesOk_1.f k a0)
  | _, _ => none) (fun r => (.bs false r, []))
def slices_ContainsFunc_string_at_impl_TypesOk_1.E : Env := [((79, [62]), slices_IndexFunc_string_at_impl_TypesOk_1.s)]
def slices_ContainsFunc_string_at_impl_TypesOk_1.G (k p : Nat) (avs : List AV) (H : List HE) : Option (Bool) := none
set_option maxRecDepth 100000 in
theorem slices_ContainsFunc_string_at_impl_TypesOk_1.eq (k : Nat) (a0 : List ByteArray) : fromTop Tryd.prog slices_ContainsFunc_string_at_impl_TypesOk_1.E k slices_ContainsFunc_string_at_impl_TypesOk_1.a (slices_ContainsFunc_string_at_impl_TypesOk_1.G k) 1000 (bodyOf Tryd.prog 61) [.con .str a0, .fn 62 0 []] [] = slices_ContainsFunc_string_at_impl_TypesOk_1.f k a0 := by kernel_rfl
theorem slices_ContainsFunc_string_at_impl_TypesOk_1.E_ok : EnvOk Tryd.prog slices_ContainsFunc_string_at_impl_TypesOk_1.E := ⟨⟨slices_IndexFunc_string_at_impl_TypesOk_1.sound, callable_of (by kernel_rfl)⟩, trivial⟩
theorem slices_ContainsFunc_string_at_impl_TypesOk_1.sound : Sound Tryd.prog 61 slices_ContainsFunc_string_at_impl_TypesOk_1.s := by
  refine func_sound (f := slices_ContainsFunc_string_at_impl_TypesOk_1.a) (G := slices_ContainsFunc_string_at_impl_TypesOk_1.G) (fn := Tryd.f61) (body := bodyOf Tryd.prog 61) 1000 (by kernel_rfl) slices_ContainsFunc_string_at_impl_TypesOk_1.E_ok Tryd.func61 (by kernel_rfl) (by kernel_rfl) (by kernel_rfl) (ptsOk_of (by kernel_rfl)) ?_ ?_ ?_ ?_
  · intro r H x h
    unfold slices_ContainsFunc_string_at_impl_TypesOk_1.a at h
    simp only at h
    split at h
    · cases h; rfl
    · cases h
  · intro q avs H; rfl
  · intro k q pt avs H x _ h; cases h
  · intro k avs H o h
    try dsimp only at h
    split at h
    · cases h; exact slices_ContainsFunc_string_at_impl_TypesOk_1.eq _ _
    · cases h

def impl_TypesOk.a : FnA (Bool) := ⟨11, [.tmp 2], .bool, [], [], fun x H => match x, H with
  | .bs false r, [] => some r
  | _, _ => none⟩
def impl_TypesOk.s : Spec := mkS [.con .str] (fun k avs H => match avs, H with
  | [.con .str a0], [] => some (impl_TypesOk.f k a0)
  | _, _ => none) (fun r => (.bs false r, []))
def impl_TypesOk.E : Env := [((60, []), impl_size_string.s), ((32, []), impl_within.s), ((61, [62]), slices_ContainsFunc_string_at_impl_TypesOk_1.s)]
def impl_TypesOk.G (k p : Nat) (avs : List AV) (H : List HE) : Option (Bool) := none
set_option maxRecDepth 100000 in
theorem impl_TypesOk.eq (k : Nat) (a0 : List ByteArray) : fromTop Tryd.prog impl_TypesOk.E k impl_TypesOk.a (impl_TypesOk.G k) 1000 (bodyOf Tryd.prog 46) [.con .str a0] [] = impl_TypesOk.f k a0 := by kernel_rfl
theorem impl_TypesOk.E_ok : EnvOk Tryd.prog impl_TypesOk.E := ⟨⟨impl_size_string.sound, callable_of (by kernel_rfl)⟩, ⟨impl_within.sound, callable_of (by kernel_rfl)⟩, ⟨slices_ContainsFunc_string_at_impl_TypesOk_1.sound, callable_of (by kernel_rfl)⟩, trivial⟩
theorem impl_TypesOk.sound : Sound Tryd.prog 46 impl_TypesOk.s := by
  refine func_sound (f := impl_TypesOk.a) (G := impl_TypesOk.G) (fn := Tryd.f46) (body := bodyOf Tryd.prog 46) 1000 (by kernel_rfl) impl_TypesOk.E_ok Tryd.func46 (by kernel_rfl) (by kernel_rfl) (by kernel_rfl) (ptsOk_of (by kernel_rfl)) ?_ ?_ ?_ ?_
  · intro r H x h
    unfold impl_TypesOk.a at h
    simp only at h
    split at h
    · cases h; rfl
    · cases h
  · intro q avs H; rfl
  · intro k q pt avs H x _ h; cases h
  · intro k avs H o h
    try dsimp only at h
    split at h
    · cases h; exact impl_TypesOk.eq _ _
    · cases h

def impl_size_implObj.a : FnA (Int) := ⟨5, [.tmp 2], .val, [], [], fun x H => match x, H with
  | .v (.int .i64 r), [] => some r
  | _, _ => none⟩
def impl_size_implObj.s : Spec := mkS [.con (.pair (.int .i64) (.sl (.int .i64)))] (fun k avs H => match avs, H with
  | [.con (.pair (.int .i64) (.sl (.int .i64))) a0], [] => some (impl_size_implObj.f a0)
  | _, _ => none) (fun r => (.v (.int .i64 r), []))
def impl_size_implObj.E : Env := []
def impl_size_implObj.G (k p : Nat) (avs : List AV) (H : List HE) : Option (Int) := none
set_option maxRecDepth 100000 in
theorem impl_size_implObj.eq (k : Nat) (a0 : List (Int × List Int)) : fromTop Tryd.prog impl_size_implObj.E k impl_size_implObj.a (impl_size_implObj.G k) 1000 (bodyOf Tryd.prog 64) [.con (.pair (.int .i64) (.sl (.int .i64))) a0] [] = impl_size_implObj.f a0 := by kernel_rfl
theorem impl_size_implObj.E_ok : EnvOk Tryd.prog impl_size_implObj.E := trivial
theorem impl_size_implObj.sound : Sound Tryd.prog 64 impl_size_implObj.s := by
  refine func_sound (f := impl_size_implObj.a) (G := impl_size_implObj.G) (fn := Tryd.f64) (body := bodyOf Tryd.prog 64) 1000 (by kernel_rfl) impl_size_implObj.E_ok Tryd.func64 (by kernel_rfl) (by kernel_rfl) (by kernel_rfl) (ptsOk_of (by kernel_rfl)) ?_ ?_ ?_ ?_
  · intro r H x h
    unfold impl_size_implObj.a at h
    simp only at h
    split at h
    · cases h; rfl
    · cases h
  · intro q avs H; rfl
  · intro k q pt avs H x _ h; cases h
  · intro k avs H o h
    try dsimp only at h
    split at h
    · cases h; exact impl_size_implObj.eq _ _
    · cases h

def _impl_Graph_isNode.a : FnA (Bool) := ⟨10, [.tmp 4], .bool, [], [], fun x H => match x, H with
  | .bs false r, [] => some r
  | _, _ => none⟩
def _impl_Graph_isNode.s : Spec := mkS [.agg [.con (.int .i64), .con (.pair (.int .i64) (.sl (.int .i64)))], .val] (fun k avs H => match avs, H with
  | [.agg [.con (.int .i64) a0_0, .con (.pair (.int .i64) (.sl (.int .i64))) a0_1], .v (.int .i64 a1)], [] => some (_impl_Graph_isNode.f a0_0 a0_1 a1)
  | _, _ => none) (fun r => (.bs false r, []))
def _impl_Graph_isNode.E : Env := [((64, []), impl_size_implObj.s), ((32, []), impl_within.s)]
def _impl_Graph_isNode.G (k p : Nat) (avs : List AV) (H : List HE) : Option (Bool) := none
set_option maxRecDepth 100000 in
theorem _impl_Graph_isNode.eq (k : Nat) (a0_0 : List Int) (a0_1 : List (Int × List Int)) (a1 : Int) : fromTop Tryd.prog _impl_Graph_isNode.E k _impl_Graph_isNode.a (_impl_Graph_isNode.G k) 1000 (bodyOf Tryd.prog 48) [.agg [.con (.int .i64) a0_0, .con (.pair (.int .i64) (.sl (.int .i64))) a0_1], .v (.int .i64 a1)] [] = _impl_Graph_isNode.f a0_0 a0_1 a1 := by kernel_rfl
theorem _impl_Graph_isNode.E_ok : EnvOk Tryd.prog _impl_Graph_isNode.E := ⟨⟨impl_size_implObj.sound, callable_of (by kernel_rfl)⟩, ⟨impl_within.sound, callable_of (by kernel_rfl)⟩, trivial⟩
theorem _impl_Graph_isNode.sound : Sound Tryd.prog 48 _impl_Graph_isNode.s := by
  refine func_sound (f := _impl_Graph_isNode.a) (G := _impl_Graph_isNode.G) (fn := Tryd.f48) (body := bodyOf Tryd.prog 48) 1000 (by kernel_rfl) _impl_Graph_isNode.E_ok Tryd.func48 (by kernel_rfl) (by kernel_rfl) (by kernel_rfl) (ptsOk_of (by kernel_rfl)) ?_ ?_ ?_ ?_
  · intro r H x h
    unfold _impl_Graph_isNode.a at h
    simp only at h
    split at h
    · cases h; rfl
    · cases h
  · intro q avs H; rfl
  · intro k q pt avs H x _ h; cases h
  · intro k avs H o h
    try dsimp only at h
    split at h
    · cases h; exact _impl_Graph_isNode.eq _ _ _ _
    · cases h

def impl_GraphOk_1.a : FnA (Bool) := ⟨8, [.tmp 3], .bool, [], [], fun x H => match x, H with
  | .bs false r, [] => some r
  | _, _ => none⟩
def impl_GraphOk_1.s : Spec := mkS [.val, .elt (.pair (.sl (.int .i64)) (.sl (.pair (.int .i64) (.sl (.int .i64)))))] (fun k avs H => match avs, H with
  | [.v (.int .i64 a0), .elt (.pair (.sl (.int .i64)) (.sl (.pair (.int .i64) (.sl (.int .i64))))) a1 0], [] => some (impl_GraphOk_1.f a0 a1)
  | _, _ => none) (fun r => (.bs false r, []))
def impl_GraphOk_1.E : Env := [((48, []), _impl_Graph_isNode.s)]
def impl_GraphOk_1.G (k p : Nat) (avs : List AV) (H : List HE) : Option (Bool) := none
set_option maxRecDepth 100000 in
theorem impl_GraphOk_1.eq (k : Nat) (a0 : Int) (a1 : (List Int) × List (Int × List Int)) : fromTop Tryd.prog impl_GraphOk_1.E k impl_GraphOk_1.a (impl_GraphOk_1.G k) 1000 (bodyOf Tryd.prog 47) [.v (.int .i64 a0), .elt (.pair (.sl (.int .i64)) (.sl (.pair (.int .i64) (.sl (.int .i64))))) a1 0] [] = impl_GraphOk_1.f a0 a1 := by kernel_rfl
theorem impl_GraphOk_1.E_ok : EnvOk Tryd.prog impl_GraphOk_1.E := ⟨⟨_impl_Graph_isNode.sound, callable_of (by kernel_rfl)⟩, trivial⟩
theorem impl_GraphOk_1.sound : Sound Tryd.prog 47 impl_GraphOk_1.s := by
  refine func_sound (f := impl_GraphOk_1.a) (G := impl_GraphOk_1.G) (fn := Tryd.f47) (body := bodyOf Tryd.prog 47) 1000 (by kernel_rfl) impl_GraphOk_1.E_ok Tryd.func47 (by kernel_rfl) (by kernel_rfl) (by kernel_rfl) (ptsOk_of (by kernel_rfl)) ?_ ?_ ?_ ?_
  · intro r H x h
    unfold impl_GraphOk_1.a at h
    simp only at h
    split at h
    · cases h; rfl
    · cases h
  · intro q avs H; rfl
  · intro k q pt avs H x _ h; cases h
  · intro k avs H o h
    try dsimp only at h
    split at h
    · cases h; exact impl_GraphOk_1.eq _ _ _
    · cases h

def slices_IndexFunc_int64_at_impl_GraphOk_1.a : FnA (Int) := ⟨19, [.tmp 4], .val, [], [⟨6, [0, 1, 7, 8], [.con (.int .i64), .fn 47 0 [.elt (.pair (.sl (.int .i64)) (.sl (.pair (.int .i64) (.sl (.int .i64)))))], .val, .val], []⟩], fun x H => match x, H with
  | .v (.int .i64 r), [] => some r
  | _, _ => none⟩
def slices_IndexFunc_int64_at_impl_GraphOk_1.s : Spec := mkS [.con (.int .i64), .fn 47 0 [.elt (.pair (.sl (.int .i64)) (.sl (.pair (.int .i64) (.sl (.int .i64)))))]] (fun k avs H => match avs, H with
  | [.con (.int .i64) a0, .fn 47 0 [.elt (.pair (.sl (.int .i64)) (.sl (.pair (.int .i64) (.sl (.int .i64))))) a1_0 0]], [] => some (slices_IndexFunc_int64_at_impl_GraphOk_1.f k a0 a1_0)
  | _, _ => none) (fun r => (.v (.int .i64 r), []))
def slices_IndexFunc_int64_at_impl_GraphOk_1.E : Env := [((47, []), impl_GraphOk_1.s)]
def slices_IndexFunc_int64_at_impl_GraphOk_1.G6 (k : Nat) (avs : List AV) (H : List HE) : Option (Int) := match avs, H with
  | [.con (.int .i64) x0, .fn 47 0 [.elt (.pair (.sl (.int .i64)) (.sl (.pair (.int .i64) (.sl (.int .i64))))) x1_0 0], .v (.int .i64 x7), .v (.int .i64 x8)], [] => slices_IndexFunc_int64_at_impl_GraphOk_1.p6 k x0 x1_0 x7 x8
  | _, _ => none
def slices_IndexFunc_int64_at_impl_GraphOk_1.G (k p : Nat) (avs : List AV) (H : List HE) : Option (Int) := (pick1 6 (slices_IndexFunc_int64_at_impl_GraphOk_1.G6 k avs H) none p)
set_option maxRecDepth 100000 in
theorem slices_IndexFunc_int64_at_impl_GraphOk_1.eq (k : Nat) (a0 : List Int) (a1_0 : (List Int) × List (Int × List Int)) : fromTop Tryd.prog slices_IndexFunc_int64_at_impl_GraphOk_1.E k slices_IndexFunc_int64_at_impl_GraphOk_1.a (slices_IndexFunc_int64_at_impl_GraphOk_1.G k) 1000 (bodyOf Tryd.prog 53) [.con (.int .i64) a0, .fn 47 0 [.elt (.pair (.sl (.int .i64)) (.sl (.pair (.int .i64) (.sl (.int .i64))))) a1_0 0]] [] = slices_IndexFunc_int64_at_impl_GraphOk_1.f k a0 a1_0 := by kernel_rfl
set_option maxRecDepth 100000 in
theorem slices_IndexFunc_int64_at_impl_GraphOk_1.eq6 (k : Nat) (x0 : List Int) (x1_0 : (List Int) × List (Int × List Int)) (x7 : Int) (x8 : Int) : fromPt Tryd.prog slices_IndexFunc_int64_at_impl_GraphOk_1.E k slices_IndexFunc_int64_at_impl_GraphOk_1.a (slices_IndexFunc_int64_at_impl_GraphOk_1.G k) 1000 (bodyOf Tryd.prog 53) 6 [.con (.int .i64) x0, .fn 47 0 [.elt (.pair (.sl (.int .i64)) (.sl (.pair (.int .i64) (.sl (.int .i64))))) x1_0 0], .v (.int .i64 x7), .v (.int .i64 x8)] [] = slices_IndexFunc_int64_at_impl_GraphOk_1.p6 (k + 1) x0 x1_0 x7 x8 := by kernel_rfl
theorem slices_IndexFunc_int64_at_impl_GraphOk_1.G6_0 {avs : List AV} {H : List HE} : slices_IndexFunc_int64_at_impl_GraphOk_1.G6 0 avs H = none := by unfold slices_IndexFunc_int64_at_impl_GraphOk_1.G6; split <;> rfl
theorem slices_IndexFunc_int64_at_impl_GraphOk_1.G6_s (k : Nat) {avs : List AV} {H : List HE} {x : Int} (h : slices_IndexFunc_int64_at_impl_GraphOk_1.G6 (k + 1) avs H = some x) : fromPt Tryd.prog slices_IndexFunc_int64_at_impl_GraphOk_1.E k slices_IndexFunc_int64_at_impl_GraphOk_1.a (slices_IndexFunc_int64_at_impl_GraphOk_1.G k) 1000 (bodyOf Tryd.prog 53) 6 avs H = some x := by
  unfold slices_IndexFunc_int64_at_impl_GraphOk_1.G6 at h
  split at h
  · rw [← h]; exact slices_IndexFunc_int64_at_impl_GraphOk_1.eq6 _ _ _ _ _
  · cases h
theorem slices_IndexFunc_int64_at_impl_GraphOk_1.E_ok : EnvOk Tryd.prog slices_IndexFunc_int64_at_impl_GraphOk_1.E := ⟨⟨impl_GraphOk_1.sound, callable_of (by kernel_rfl)⟩, trivial⟩
theorem slices_IndexFunc_int64_at_impl_GraphOk_1.sound : Sound Tryd.prog 53 slices_IndexFunc_int64_at_impl_GraphOk_1.s := by
  refine func_sound (f := slices_IndexFunc_int64_at_impl_GraphOk_1.a) (G := slices_IndexFunc_int64_at_impl_GraphOk_1.G) (fn := Tryd.f53) (body := bodyOf Tryd.prog 53) 1000 (by kernel_rfl) slices_IndexFunc_int64_at_impl_GraphOk_1.E_ok Tryd.func53 (by kernel_rfl) (by kernel_rfl) (by kernel_rfl) (ptsOk_of (by kernel_rfl)) ?_ ?_ ?_ ?_
  · intro r H x h
    unfold slices_IndexFunc_int64_at_impl_GraphOk_1.a at h
    simp only at h
    split at h
    · cases h; rfl
    · cases h
  · exact fun q avs H => pick1_none slices_IndexFunc_int64_at_impl_GraphOk_1.G6_0 (rfl)
  · intro k q pt avs H x _ h
    rcases pick1_some h with ⟨rfl, h⟩ | h
    · exact slices_IndexFunc_int64_at_impl_GraphOk_1.G6_s _ h
    cases h
  · intro k avs H o h
    try dsimp only at h
    split at h
    · cases h; exact slices_IndexFunc_int64_at_impl_GraphOk_1.eq _ _ _
    · cases h

def slices_ContainsFunc_int64_at_impl_GraphOk_1.a : FnA (Bool) := ⟨9, [.tmp 4], .bool, [], [], fun x H => match x, H with
  | .bs false r, [] => some r
  | _, _ => none⟩
def slices_ContainsFunc_int64_at_impl_GraphOk_1.s : Spec := mkS [.con (.int .i64), .fn 47 0 [.elt (.pair (.sl (.int .i64)) (.sl (.pair (.int .i64) (.sl (.int .i64)))))]] (fun k avs H => match avs, H with
  | [.con (.int .i64) a0, .fn 47 0 [.elt (.pair (.sl (.int .i64)) (.sl (.pair (.int .i64) (.sl (.int .i64))))) a1_0 0]], [] => some (slices_ContainsFunc_int64_at_impl_GraphOk_1.f k a0 a1_0)
  | _, _ => none) (fun r => (.bs false r, []))
def slices_ContainsFunc_int64_at_impl_GraphOk_1.E : Env := [((53, [47]), slices_IndexFunc_int64_at_impl_GraphOk_1.s)]
def slices_ContainsFunc_int64_at_impl_GraphOk_1.G (k p : Nat) (avs : List AV) (H : List HE) : Option (Bool) := none
set_option maxRecDepth 100000 in
theorem slices_ContainsFunc_int64_at_impl_GraphOk_1.eq (k : Nat) (a0 : List Int) (a1_0 : (List Int) × List (Int × List Int)) : fromTop Tryd.prog slices_ContainsFunc_int64_at_impl_GraphOk_1.E k slices_ContainsFunc_int64_at_impl_GraphOk_1.a (slices_ContainsFunc_int64_at_impl_GraphOk_1.G k) 1000 (bodyOf Tryd.prog 30) [.con (.int .i64) a0, .fn 47 0 [.elt (.pair (.sl (.int .i64)) (.sl (.pair (.int .i64) (.sl (.int .i64))))) a1_0 0]] [] = slices_ContainsFunc_int64_at_impl_GraphOk_1.f k a0 a1_0 := by kernel_rfl
theorem slices_ContainsFunc_int64_at_impl_GraphOk_1.E_ok : EnvOk Tryd.prog slices_ContainsFunc_int64_at_impl_GraphOk_1.E := ⟨⟨slices_IndexFunc_int64_at_impl_GraphOk_1.sound, callable_of (by kernel_rfl)⟩, trivial⟩
theorem slices_ContainsFunc_int64_at_impl_GraphOk_1.sound : Sound Tryd.prog 30 slices_ContainsFunc_int64_at_impl_GraphOk_1.s := by
  refine func_sound (f := slices_ContainsFunc_int64_at_impl_GraphOk_1.a) (G := slices_ContainsFunc_int64_at_impl_GraphOk_1.G) (fn := Tryd.f30) (body := bodyOf Tryd.prog 30) 1000 (by kernel_rfl) slices_ContainsFunc_int64_at_impl_GraphOk_1.E_ok Tryd.func30 (by kernel_rfl) (by kernel_rfl) (by kernel_rfl) (ptsOk_of (by kernel_rfl)) ?_ ?_ ?_ ?_
  · intro r H x h
    unfold slices_ContainsFunc_int64_at_impl_GraphOk_1.a at h
    simp only at h
    split at h
    · cases h; rfl
    · cases h
  · intro q avs H; rfl
  · intro k q pt avs H x _ h; cases h
  · intro k avs H o h
    try dsimp only at h
    split at h
    · cases h; exact slices_ContainsFunc_int64_at_impl_GraphOk_1.eq _ _ _
    · cases h

def impl_isObject_at__impl_Graph_isNode.a : FnA (Bool) := ⟨51, [.tmp 6], .bool, [], [⟨14, [0, 2, 4, 29, 30, 31], [.con .str, .fn 48 1 [.agg [.con (.int .i64), .con (.pair (.int .i64) (.sl (.int .i64)))]], .box [.val, .con (.int .i64)], .con (.int .i64), .val, .val], []⟩], fun x H => match x, H with
  | .bs false r, [] => some r
  | _, _ => none⟩
def impl_isObject_at__impl_Graph_isNode.s : Spec := mkS [.con .str, .agg [.val, .con (.int .i64)], .fn 48 1 [.agg [.con (.int .i64), .con (.pair (.int .i64) (.sl (.int .i64)))]]] (fun k avs H => match avs, H with
  | [.con .str a0, .agg [.v (.int .i64 a1_0), .con (.int .i64) a1_1], .fn 48 1 [.agg [.con (.int .i64) a2_0_0, .con (.pair (.int .i64) (.sl (.int .i64))) a2_0_1]]], [] => some (impl_isObject_at__impl_Graph_isNode.f k a0 a1_0 a1_1 a2_0_0 a2_0_1)
  | _, _ => none) (fun r => (.bs false r, []))
def impl_isObject_at__impl_Graph_isNode.E : Env := [((60, []), impl_size_string.s), ((32, []), impl_within.s), ((48, []), _impl_Graph_isNode.s)]
def impl_isObject_at__impl_Graph_isNode.G14 (k : Nat) (avs : List AV) (H : List HE) : Option (Bool) := match avs, H with
  | [.con .str x0, .fn 48 1 [.agg [.con (.int .i64) x2_0_0, .con (.pair (.int .i64) (.sl (.int .i64))) x2_0_1]], .box 0 0, .con (.int .i64) x29, .v (.int .i64 x30), .v (.int .i64 x31)], [.box [.v (.int .i64 x4_0), .con (.int .i64) x4_1]] => impl_isObject_at__impl_Graph_isNode.p14 k x0 x2_0_0 x2_0_1 x4_0 x4_1 x29 x30 x31
  | _, _ => none
def impl_isObject_at__impl_Graph_isNode.G (k p : Nat) (avs : List AV) (H : List HE) : Option (Bool) := (pick1 14 (impl_isObject_at__impl_Graph_isNode.G14 k avs H) none p)
set_option maxRecDepth 100000 in
theorem impl_isObject_at__impl_Graph_isNode.eq (k : Nat) (a0 : List ByteArray) (a1_0 : Int) (a1_1 : List Int) (a2_0_0 : List Int) (a2_0_1 : List (Int × List Int)) : fromTop Tryd.prog impl_isObject_at__impl_Graph_isNode.E k impl_isObject_at__impl_Graph_isNode.a (impl_isObject_at__impl_Graph_isNode.G k) 1000 (bodyOf Tryd.prog 51) [.con .str a0, .agg [.v (.int .i64 a1_0), .con (.int .i64) a1_1], .fn 48 1 [.agg [.con (.int .i64) a2_0_0, .con (.pair (.int .i64) (.sl (.int .i64))) a2_0_1]]] [] = impl_isObject_at__impl_Graph_isNode.f k a0 a1_0 a1_1 a2_0_0 a2_0_1 := by kernel_rfl
set_option maxRecDepth 100000 in
theorem impl_isObject_at__impl_Graph_isNode.eq14 (k : Nat) (x0 : List ByteArray) (x2_0_0 : List Int) (x2_0_1 : List (Int × List Int)) (x4_0 : Int) (x4_1 : List Int) (x29 : List Int) (x30 : Int) (x31 : Int) : fromPt Tryd.prog impl_isObject_at__impl_Graph_isNode.E k impl_isObject_at__impl_Graph_isNode.a (impl_isObject_at__impl_Graph_isNode.G k) 1000 (bodyOf Tryd.prog 51) 14 [.con .str x0, .fn 48 1 [.agg [.con (.int .i64) x2_0_0, .con (.pair (.int .i64) (.sl (.int .i64))) x2_0_1]], .box 0 0, .con (.int .i64) x29, .v (.int .i64 x30), .v (.int .i64 x31)] [.box [.v (.int .i64 x4_0), .con (.int .i64) x4_1]] = impl_isObject_at__impl_Graph_isNode.p14 (k + 1) x0 x2_0_0 x2_0_1 x4_0 x4_1 x29 x30 x31 := by kernel_rfl
theorem impl_isObject_at__impl_Graph_isNode.G14_0 {avs : List AV} {H : List HE} : impl_isObject_at__impl_Graph_isNode.G14 0 avs H = none := by unfold impl_isObject_at__impl_Graph_isNode.G14; split <;> rfl
theorem impl_isObject_at__impl_Graph_isNode.G14_s (k : Nat) {avs : List AV} {H : List HE} {x : Bool} (h : impl_isObject_at__impl_Graph_isNode.G14 (k + 1) avs H = some x) : fromPt Tryd.prog impl_isObject_at__impl_Graph_isNode.E k impl_isObject_at__impl_Graph_isNode.a (impl_isObject_at__impl_Graph_isNode.G k) 1000 (bodyOf Tryd.prog 51) 14 avs H = some x := by
  unfold impl_isObject_at__impl_Graph_isNode.G14 at h
  split at h
  · rw [← h]; exact impl_isObject_at__impl_Graph_isNode.eq14 _ _ _ _ _ _ _ _ _
  · cases h
theorem impl_isObject_at__impl_Graph_isNode.E_ok : EnvOk Tryd.prog impl_isObject_at__impl_Graph_isNode.E := ⟨⟨impl_size_string.sound, callable_of (by kernel_rfl)⟩, ⟨impl_within.sound, callable_of (by kernel_rfl)⟩, ⟨_impl_Graph_isNode.sound, callable_of (by kernel_rfl)⟩, trivial⟩
theorem impl_isObject_at__impl_Graph_isNode.sound : Sound Tryd.prog 51 impl_isObject_at__impl_Graph_isNode.s := by
  refine func_sound (f := impl_isObject_at__impl_Graph_isNode.a) (G := impl_isObject_at__impl_Graph_isNode.G) (fn := Tryd.f51) (body := bodyOf Tryd.prog 51) 1000 (by kernel_rfl) impl_isObject_at__impl_Graph_isNode.E_ok Tryd.func51 (by kernel_rfl) (by kernel_rfl) (by kernel_rfl) (ptsOk_of (by kernel_rfl)) ?_ ?_ ?_ ?_
  · intro r H x h
    unfold impl_isObject_at__impl_Graph_isNode.a at h
    simp only at h
    split at h
    · cases h; rfl
    · cases h
  · exact fun q avs H => pick1_none impl_isObject_at__impl_Graph_isNode.G14_0 (rfl)
  · intro k q pt avs H x _ h
    rcases pick1_some h with ⟨rfl, h⟩ | h
    · exact impl_isObject_at__impl_Graph_isNode.G14_s _ h
    cases h
  · intro k avs H o h
    try dsimp only at h
    split at h
    · cases h; exact impl_isObject_at__impl_Graph_isNode.eq _ _ _ _ _ _
    · cases h

def impl_GraphOk_2.a : FnA (Bool) := ⟨11, [.tmp 4], .bool, [], [], fun x H => match x, H with
  | .bs false r, [] => some r
  | _, _ => none⟩
def impl_GraphOk_2.s : Spec := mkS [.agg [.val, .con (.int .i64)], .elt (.sl .str), .elt (.pair (.sl (.int .i64)) (.sl (.pair (.int .i64) (.sl (.int .i64)))))] (fun k avs H => match avs, H with
  | [.agg [.v (.int .i64 a0_0), .con (.int .i64) a0_1], .elt (.sl .str) a1 0, .elt (.pair (.sl (.int .i64)) (.sl (.pair (.int .i64) (.sl (.int .i64))))) a2 0], [] => some (impl_GraphOk_2.f k a0_0 a0_1 a1 a2)
  | _, _ => none) (fun r => (.bs false r, []))
def impl_GraphOk_2.E : Env := [((51, [48]), impl_isObject_at__impl_Graph_isNode.s)]
def impl_GraphOk_2.G (k p : Nat) (avs : List AV) (H : List HE) : Option (Bool) := none
set_option maxRecDepth 100000 in
theorem impl_GraphOk_2.eq (k : Nat) (a0_0 : Int) (a0_1 : List Int) (a1 : List ByteArray) (a2 : (List Int) × List (Int × List Int)) : fromTop Tryd.prog impl_GraphOk_2.E k impl_GraphOk_2.a (impl_GraphOk_2.G k) 1000 (bodyOf Tryd.prog 50) [.agg [.v (.int .i64 a0_0), .con (.int .i64) a0_1], .elt (.sl .str) a1 0, .elt (.pair (.sl (.int .i64)) (.sl (.pair (.int .i64) (.sl (.int .i64))))) a2 0] [] = impl_GraphOk_2.f k a0_0 a0_1 a1 a2 := by kernel_rfl
theorem impl_GraphOk_2.E_ok : EnvOk Tryd.prog impl_GraphOk_2.E := ⟨⟨impl_isObject_at__impl_Graph_isNode.sound, callable_of (by kernel_rfl)⟩, trivial⟩
theorem impl_GraphOk_2.sound : Sound Tryd.prog 50 impl_GraphOk_2.s := by
  refine func_sound (f := impl_GraphOk_2.a) (G := impl_GraphOk_2.G) (fn := Tryd.f50) (body := bodyOf Tryd.prog 50) 1000 (by kernel_rfl) impl_GraphOk_2.E_ok Tryd.func50 (by kernel_rfl) (by kernel_rfl) (by kernel_rfl) (ptsOk_of (by kernel_rfl)) ?_ ?_ ?_ ?_
  · intro r H x h
    unfold impl_GraphOk_2.a at h
    simp only at h
    split at h
    · cases h; rfl
    · cases h
  · intro q avs H; rfl
  · intro k q pt avs H x _ h; cases h
  · intro k avs H o h
    try dsimp only at h
    split at h
    · cases h; exact impl_GraphOk_2.eq _ _ _ _ _
    · cases h

def slices_IndexFunc_implObj_at_impl_GraphOk_2.a : FnA (Int) := ⟨19, [.tmp 4], .val, [], [⟨6, [0, 1, 7, 8], [.con (.pair (.int .i64) (.sl (.int .i64))), .fn 50 0 [.elt (.sl .str), .elt (.pair (.sl (.int .i64)) (.sl (.pair (.int .i64) (.sl (.int .i64)))))], .val, .val], []⟩], fun x H => match x, H with
  | .v (.int .i64 r), [] => some r
  | _, _ => none⟩
def slices_IndexFunc_implObj_at_impl_GraphOk_2.s : Spec := mkS [.con (.pair (.int .i64) (.sl (.int .i64))), .fn 50 0 [.elt (.sl .str), .elt (.pair (.sl (.int .i64)) (.sl (.pair (.int .i64) (.sl (.int .i64)))))]] (fun k avs H => match avs, H with
  | [.con (.pair (.int .i64) (.sl (.int .i64))) a0, .fn 50 0 [.elt (.sl .str) a1_0 0, .elt (.pair (.sl (.int .i64)) (.sl (.pair (.int .i64) (.sl (.int .i64))))) a1_1 0]], [] => some (slices_IndexFunc_implObj_at_impl_GraphOk_2.f k a0 a1_0 a1_1)
  | _, _ => none) (fun r => (.v (.int .i64 r), []))
def slices_IndexFunc_implObj_at_impl_GraphOk_2.E : Env := [((50, []), impl_GraphOk_2.s)]
def slices_IndexFunc_implObj_at_impl_GraphOk_2.G6 (k : Nat) (avs : List AV) (H : List HE) : Option (Int) := match avs, H with
  | [.con (.pair (.int .i64) (.sl (.int .i64))) x0, .fn 50 0 [.elt (.sl .str) x1_0 0, .elt (.pair (.sl (.int .i64)) (.sl (.pair (.int .i64) (.sl (.int .i64))))) x1_1 0], .v (.int .i64 x7), .v (.int .i64 x8)], [] => slices_IndexFunc_implObj_at_impl_GraphOk_2.p6 k x0 x1_0 x1_1 x7 x8
  | _, _ => none
def slices_IndexFunc_implObj_at_impl_GraphOk_2.G (k p : Nat) (avs : List AV) (H : List HE) : Option (Int) := (pick1 6 (slices_IndexFunc_implObj_at_impl_GraphOk_2.G6 k avs H) none p)
set_option maxRecDepth 100000 in
theorem slices_IndexFunc_implObj_at_impl_GraphOk_2.eq (k : Nat) (a0 : List (Int × List Int)) (a1_0 : List ByteArray) (a1_1 : (List Int) × List (Int × List Int)) : fromTop Tryd.prog slices_IndexFunc_implObj_at_impl_GraphOk_2.E k slices_IndexFunc_implObj_at_impl_GraphOk_2.a (slices_IndexFunc_implObj_at_impl_GraphOk_2.G k) 1000 (bodyOf Tryd.prog 65) [.con (.pair (.int .i64) (.sl (.int .i64))) a0, .fn 50 0 [.elt (.sl .str) a1_0 0, .elt (.pair (.sl (.int .i64)) (.sl (.pair (.int .i64) (.sl (.int .i64))))) a1_1 0]] [] = slices_IndexFunc_implObj_at_impl_GraphOk_2.f k a0 a1_0 a1_1 := by kernel_rfl
set_option maxRecDepth 100000 in
theorem slices_IndexFunc_implObj_at_impl_GraphOk_2.eq6 (k : Nat) (x0 : List (Int × List Int)) (x1_0 : List ByteArray) (x1_1 : (List Int) × List (Int × List Int)) (x7 : Int) (x8 : Int) : fromPt Tryd.prog slices_IndexFunc_implObj_at_impl_GraphOk_2.E k slices_IndexFunc_implObj_at_impl_GraphOk_2.a (slices_IndexFunc_implObj_at_impl_GraphOk_2.G k) 1000 (bodyOf Tryd.prog 65) 6 [.con (.pair (.int .i64) (.sl (.int .i64))) x0, .fn 50 0 [.elt (.sl .str) x1_0 0, .elt (.pair (.sl (.int .i64)) (.sl (.pair (.int .i64) (.sl (.int .i64))))) x1_1 0], .v (.int .i64 x7), .v (.int .i64 x8)] [] = slices_IndexFunc_implObj_at_impl_GraphOk_2.p6 (k + 1) x0 x1_0 x1_1 x7 x8 := by kernel_rfl
theorem slices_IndexFunc_implObj_at_impl_GraphOk_2.G6_0 {avs : List AV} {H : List HE} : slices_IndexFunc_implObj_at_impl_GraphOk_2.G6 0 avs H = none := by unfold slices_IndexFunc_implObj_at_impl_GraphOk_2.G6; split <;> rfl
theorem slices_IndexFunc_implObj_at_impl_GraphOk_2.G6_s (k : Nat) {avs : List AV} {H : List HE} {x : Int} (h : slices_IndexFunc_implObj_at_impl_GraphOk_2.G6 (k + 1) avs H = some x) : fromPt Tryd.prog slices_IndexFunc_implObj_at_impl_GraphOk_2.E k slices_IndexFunc_implObj_at_impl_GraphOk_2.a (slices_IndexFunc_implObj_at_impl_GraphOk_2.G k) 1000 (bodyOf Tryd.prog 65) 6 avs H = some x := by
  unfold slices_IndexFunc_implObj_at_impl_GraphOk_2.G6 at h
  split at h
  · rw [← h]; exact slices_IndexFunc_implObj_at_impl_GraphOk_2.eq6 _ _ _ _ _ _
  · cases h
theorem slices_IndexFunc_implObj_at_impl_GraphOk_2.E_ok : EnvOk Tryd.prog slices_IndexFunc_implObj_at_impl_GraphOk_2.E := ⟨⟨impl_GraphOk_2.sound, callable_of (by kernel_rfl)⟩, trivial⟩
theorem slices_IndexFunc_implObj_at_impl_GraphOk_2.sound : Sound Tryd.prog 65 slices_IndexFunc_implObj_at_impl_GraphOk_2.s := by
  refine func_sound (f := slices_IndexFunc_implObj_at_impl_GraphOk_2.a) (G := slices_IndexFunc_implObj_at_impl_GraphOk_2.G) (fn := Tryd.f65) (body := bodyOf Tryd.prog 65) 1000 (by kernel_rfl) slices_IndexFunc_implObj_at_impl_GraphOk_2.E_ok Tryd.func65 (by kernel_rfl) (by kernel_rfl) (by kernel_rfl) (ptsOk_of (by kernel_rfl)) ?_ ?_ ?_ ?_
  · intro r H x h
    unfold slices_IndexFunc_implObj_at_impl_GraphOk_2.a at h
    simp only at h
    split at h
    · cases h; rfl
    · cases h
  · exact fun q avs H => pick1_none slices_IndexFunc_implObj_at_impl_GraphOk_2.G6_0 (rfl)
  · intro k q pt avs H x _ h
    rcases pick1_some h with ⟨rfl, h⟩ | h
    · exact slices_IndexFunc_implObj_at_impl_GraphOk_2.G6_s _ h
    cases h
  · intro k avs H o h
    try dsimp only at h
    split at h
    · cases h; exact slices_IndexFunc_implObj_at_impl_GraphOk_2.eq _ _ _ _
    · cases h

def slices_ContainsFunc_implObj_at_impl_GraphOk_2.a : FnA (Bool) := ⟨9, [.tmp 4], .bool, [], [], fun x H => match x, H with
  | .bs false r, [] => some r
  | _, _ => none⟩
def slices_ContainsFunc_implObj_at_impl_GraphOk_2.s : Spec := mkS [.con (.pair (.int .i64) (.sl (.int .i64))), .fn 50 0 [.elt (.sl .str), .elt (.pair (.sl (.int .i64)) (.sl (.pair (.int .i64) (.sl (.int .i64)))))]] (fun k avs H => match avs, H with
  | [.con (.pair (.int .i64) (.sl (.int .i64))) a0, .fn 50 0 [.elt (.sl .str) a1_0 0, .elt (.pair (.sl (.int .i64)) (.sl (.pair (.int .i64) (.sl (.int .i64))))) a1_1 0]], [] => some (slices_ContainsFunc_implObj_at_impl_GraphOk_2.f k a0 a1_0 a1_1)
  | _, _ => none) (fun r => (.bs false r, []))
def slices_ContainsFunc_implObj_at_impl_GraphOk_2.E : Env := [((65, [50]), slices_IndexFunc_implObj_at_impl_GraphOk_2.s)]
def slices_ContainsFunc_implObj_at_impl_GraphOk_2.G (k p : Nat) (avs : List AV) (H : List HE) : Option (Bool) := none
set_option maxRecDepth 100000 in
theorem slices_ContainsFunc_implObj_at_impl_GraphOk_2.eq (k : Nat) (a0 : List (Int × List Int)) (a1_0 : List ByteArray) (a1_1 : (List Int) × List (Int × List Int)) : fromTop Tryd.prog slices_ContainsFunc_implObj_at_impl_GraphOk_2.E k slices_ContainsFunc_implObj_at_impl_GraphOk_2.a (slices_ContainsFunc_implObj_at_impl_GraphOk_2.G k) 1000 (bodyOf Tryd.prog 49) [.con (.pair (.int .i64) (.sl (.int .i64))) a0, .fn 50 0 [.elt (.sl .str) a1_0 0, .elt (.pair (.sl (.int .i64)) (.sl (.pair (.int .i64) (.sl (.int .i64))))) a1_1 0]] [] = slices_ContainsFunc_implObj_at_impl_GraphOk_2.f k a0 a1_0 a1_1 := by kernel_rfl
theorem slices_ContainsFunc_implObj_at_impl_GraphOk_2.E_ok : EnvOk Tryd.prog slices_ContainsFunc_implObj_at_impl_GraphOk_2.E := ⟨⟨slices_IndexFunc_implObj_at_impl_GraphOk_2.sound, callable_of (by kernel_rfl)⟩, trivial⟩
theorem slices_ContainsFunc_implObj_at_impl_GraphOk_2.sound : Sound Tryd.prog 49 slices_ContainsFunc_implObj_at_impl_GraphOk_2.s := by
  refine func_sound (f := slices_ContainsFunc_implObj_at_impl_GraphOk_2.a) (G := slices_ContainsFunc_implObj_at_impl_GraphOk_2.G) (fn := Tryd.f49) (body := bodyOf Tryd.prog 49) 1000 (by kernel_rfl) slices_ContainsFunc_implObj_at_impl_GraphOk_2.E_ok Tryd.func49 (by kernel_rfl) (by kernel_rfl) (by kernel_rfl) (ptsOk_of (by kernel_rfl)) ?_ ?_ ?_ ?_
  · intro r H x h
    unfold slices_ContainsFunc_implObj_at_impl_GraphOk_2.a at h
    simp only at h
    split at h
    · cases h; rfl
    · cases h
  · intro q avs H; rfl
  · intro k q pt avs H x _ h; cases h
  · intro k avs H o h
    try dsimp only at h
    split at h
    · cases h; exact slices_ContainsFunc_implObj_at_impl_GraphOk_2.eq _ _ _ _
    · cases h

def impl_GraphOk.a : FnA (Bool) := ⟨34, [.tmp 4], .bool, [], [⟨5, [2, 3, 20], [.box [.con .str], .box [.con (.int .i64), .con (.pair (.int .i64) (.sl (.int .i64)))], .bool], []⟩], fun x H => match x, H with
  | .bs false r, [] => some r
  | _, _ => none⟩
def impl_GraphOk.s : Spec := mkS [.con .str, .agg [.con (.int .i64), .con (.pair (.int .i64) (.sl (.int .i64)))]] (fun k avs H => match avs, H with
  | [.con .str a0, .agg [.con (.int .i64) a1_0, .con (.pair (.int .i64) (.sl (.int .i64))) a1_1]], [] => some (impl_GraphOk.f k a0 a1_0 a1_1)
  | _, _ => none) (fun r => (.bs false r, []))
def impl_GraphOk.E : Env := [((46, []), impl_TypesOk.s), ((30, [47]), slices_ContainsFunc_int64_at_impl_GraphOk_1.s), ((49, [50]), slices_ContainsFunc_implObj_at_impl_GraphOk_2.s)]
def impl_GraphOk.G5 (k : Nat) (avs : List AV) (H : List HE) : Option (Bool) := match avs, H with
  | [.box 0 0, .box 1 0, .bs false x20], [.box [.con .str x2_0], .box [.con (.int .i64) x3_0, .con (.pair (.int .i64) (.sl (.int .i64))) x3_1]] => impl_GraphOk.p5 k x2_0 x3_0 x3_1 x20
  | _, _ => none
def impl_GraphOk.G (k p : Nat) (avs : List AV) (H : List HE) : Option (Bool) := (pick1 5 (impl_GraphOk.G5 k avs H) none p)
set_option maxRecDepth 100000 in
theorem impl_GraphOk.eq (k : Nat) (a0 : List ByteArray) (a1_0 : List Int) (a1_1 : List (Int × List Int)) : fromTop Tryd.prog impl_GraphOk.E k impl_GraphOk.a (impl_GraphOk.G k) 1000 (bodyOf Tryd.prog 27) [.con .str a0, .agg [.con (.int .i64) a1_0, .con (.pair (.int .i64) (.sl (.int .i64))) a1_1]] [] = impl_GraphOk.f k a0 a1_0 a1_1 := by kernel_rfl
set_option maxRecDepth 100000 in
theorem impl_GraphOk.eq5 (k : Nat) (x2_0 : List ByteArray) (x3_0 : List Int) (x3_1 : List (Int × List Int)) (x20 : Bool) : fromPt Tryd.prog impl_GraphOk.E k impl_GraphOk.a (impl_GraphOk.G k) 1000 (bodyOf Tryd.prog 27) 5 [.box 0 0, .box 1 0, .bs false x20] [.box [.con .str x2_0], .box [.con (.int .i64) x3_0, .con (.pair (.int .i64) (.sl (.int .i64))) x3_1]] = impl_GraphOk.p5 (k + 1) x2_0 x3_0 x3_1 x20 := by kernel_rfl
theorem impl_GraphOk.G5_0 {avs : List AV} {H : List HE} : impl_GraphOk.G5 0 avs H = none := by unfold impl_GraphOk.G5; split <;> rfl
theorem impl_GraphOk.G5_s (k : Nat) {avs : List AV} {H : List HE} {x : Bool} (h : impl_GraphOk.G5 (k + 1) avs H = some x) : fromPt Tryd.prog impl_GraphOk.E k impl_GraphOk.a (impl_GraphOk.G k) 1000 (bodyOf Tryd.prog 27) 5 avs H = some x := by
  unfold impl_GraphOk.G5 at h
  split at h
  · rw [← h]; exact impl_GraphOk.eq5 _ _ _ _ _
  · cases h
theorem impl_GraphOk.E_ok : EnvOk Tryd.prog impl_GraphOk.E := ⟨⟨impl_TypesOk.sound, callable_of (by kernel_rfl)⟩, ⟨slices_ContainsFunc_int64_at_impl_GraphOk_1.sound, callable_of (by kernel_rfl)⟩, ⟨slices_ContainsFunc_implObj_at_impl_GraphOk_2.sound, callable_of (by kernel_rfl)⟩, trivial⟩
theorem impl_GraphOk.sound : Sound Tryd.prog 27 impl_GraphOk.s := by
  refine func_sound (f := impl_GraphOk.a) (G := impl_GraphOk.G) (fn := Tryd.f27) (body := bodyOf Tryd.prog 27) 1000 (by kernel_rfl) impl_GraphOk.E_ok Tryd.func27 (by kernel_rfl) (by kernel_rfl) (by kernel_rfl) (ptsOk_of (by kernel_rfl)) ?_ ?_ ?_ ?_
  · intro r H x h
    unfold impl_GraphOk.a at h
    simp only at h
    split at h
    · cases h; rfl
    · cases h
  · exact fun q avs H => pick1_none impl_GraphOk.G5_0 (rfl)
  · intro k q pt avs H x _ h
    rcases pick1_some h with ⟨rfl, h⟩ | h
    · exact impl_GraphOk.G5_s _ h
    cases h
  · intro k avs H o h
    try dsimp only at h
    split at h
    · cases h; exact impl_GraphOk.eq _ _ _ _
    · cases h

def strconv_FormatInt.s : Spec := mkS [.val, .val] (fun _ avs H => match avs, H with
  | [.v (.int .i64 a0), .v (.int .i64 a1)], [] => some (strconv_FormatInt.f a0 a1)
  | _, _ => none) (fun r => (.v (.string r), []))
theorem strconv_FormatInt.sound : Sound Tryd.prog 54 strconv_FormatInt.s := by
  refine sound_tab (emb := fun r => .v (.string r)) ?_
  intro k avs H o x h hx
  split at h
  case h_2 => cases h
  rename_i a0 a1
  cases h
  refine ⟨rfl, fun M L w ρ hp vals htb hr => ?_⟩
  obtain ⟨v0, q0, rfl, rfl, v1, q1, rfl, rfl, rfl⟩ := hr
  unfold strconv_FormatInt.f at hx
  split at hx
  case isFalse => cases hx
  rename_i h0
  split at hx
  case isFalse => cases hx
  rename_i h1
  split at hx
  case isFalse => cases hx
  rename_i h2
  cases hx
  subst h0
  have htab : Lib.TabIs Tryd.prog w "internal/strconv.uint64pow10" .u64 Lib.pow10Tab := by
    obtain ⟨⟨T, fz, hb⟩, _⟩ := htb (0, (Lib.pow10Tab.map fun z => Value.int .u64 z).toArray) (.head _)
    unfold Lib.TabIs World.var?
    rw [show Tryd.prog.globalNamed "internal/strconv.uint64pow10" = some 0 by kernel_rfl]
    simp only [Option.bind_some]
    rw [hb]
  refine (Go.Proofs.Tryd.strconv_FormatInt_10 a0 h1 h2 w htab).mono ?_
  rintro e w' ⟨rfl, k, os, rfl⟩
  exact ⟨_, rfl, ⟨rfl, rfl, rfl, by show w.heap.size ≤ (w.heap ++ os).size; rw [Array.size_append]; omega, fun b hb => by show (w.heap ++ os)[b]? = _; rw [Array.getElem?_append_left hb]⟩, fun _ _ _ _ => rfl⟩

def impl_decimal.a : FnA (ByteArray) := ⟨5, [.tmp 2], .val, [], [], fun x H => match x, H with
  | .v (.string r), [] => some r
  | _, _ => none⟩
def impl_decimal.s : Spec := mkS [.val] (fun k avs H => match avs, H with
  | [.v (.int .i64 a0)], [] => some (impl_decimal.f a0)
  | _, _ => none) (fun r => (.v (.string r), []))
def impl_decimal.E : Env := [((54, []), strconv_FormatInt.s)]
def impl_decimal.G (k p : Nat) (avs : List AV) (H : List HE) : Option (ByteArray) := none
set_option maxRecDepth 100000 in
theorem impl_decimal.eq (k : Nat) (a0 : Int) : fromTop Tryd.prog impl_decimal.E k impl_decimal.a (impl_decimal.G k) 1000 (bodyOf Tryd.prog 33) [.v (.int .i64 a0)] [] = impl_decimal.f a0 := by kernel_rfl
theorem impl_decimal.E_ok : EnvOk Tryd.prog impl_decimal.E := ⟨⟨strconv_FormatInt.sound, callable_of (by kernel_rfl)⟩, trivial⟩
theorem impl_decimal.sound : Sound Tryd.prog 33 impl_decimal.s := by
  refine func_sound (f := impl_decimal.a) (G := impl_decimal.G) (fn := Tryd.f33) (body := bodyOf Tryd.prog 33) 1000 (by kernel_rfl) impl_decimal.E_ok Tryd.func33 (by kernel_rfl) (by kernel_rfl) (by kernel_rfl) (ptsOk_of (by kernel_rfl)) ?_ ?_ ?_ ?_
  · intro r H x h
    unfold impl_decimal.a at h
    simp only at h
    split at h
    · cases h; rfl
    · cases h
  · intro q avs H; rfl
  · intro k q pt avs H x _ h; cases h
  · intro k avs H o h
    try dsimp only at h
    split at h
    · cases h; exact impl_decimal.eq _ _
    · cases h

def impl_spaced.a : FnA (ByteArray) := ⟨19, [.tmp 2], .val, [], [⟨8, [3, 6, 7, 8], [.val, .con (.int .i64), .val, .val], []⟩], fun x H => match x, H with
  | .v (.string r), [] => some r
  | _, _ => none⟩
def impl_spaced.s : Spec := mkS [.con (.int .i64)] (fun k avs H => match avs, H with
  | [.con (.int .i64) a0], [] => some (impl_spaced.f k a0)
  | _, _ => none) (fun r => (.v (.string r), []))
def impl_spaced.E : Env := [((33, []), impl_decimal.s)]
def impl_spaced.G8 (k : Nat) (avs : List AV) (H : List HE) : Option (ByteArray) := match avs, H with
  | [.v (.string x3), .con (.int .i64) x6, .v (.int .i64 x7), .v (.int .i64 x8)], [] => impl_spaced.p8 k x3 x6 x7 x8
  | _, _ => none
def impl_spaced.G (k p : Nat) (avs : List AV) (H : List HE) : Option (ByteArray) := (pick1 8 (impl_spaced.G8 k avs H) none p)
set_option maxRecDepth 100000 in
theorem impl_spaced.eq (k : Nat) (a0 : List Int) : fromTop Tryd.prog impl_spaced.E k impl_spaced.a (impl_spaced.G k) 1000 (bodyOf Tryd.prog 29) [.con (.int .i64) a0] [] = impl_spaced.f k a0 := by kernel_rfl
set_option maxRecDepth 100000 in
theorem impl_spaced.eq8 (k : Nat) (x3 : ByteArray) (x6 : List Int) (x7 : Int) (x8 : Int) : fromPt Tryd.prog impl_spaced.E k impl_spaced.a (impl_spaced.G k) 1000 (bodyOf Tryd.prog 29) 8 [.v (.string x3), .con (.int .i64) x6, .v (.int .i64 x7), .v (.int .i64 x8)] [] = impl_spaced.p8 (k + 1) x3 x6 x7 x8 := by kernel_rfl
theorem impl_spaced.G8_0 {avs : List AV} {H : List HE} : impl_spaced.G8 0 avs H = none := by unfold impl_spaced.G8; split <;> rfl
theorem impl_spaced.G8_s (k : Nat) {avs : List AV} {H : List HE} {x : ByteArray} (h : impl_spaced.G8 (k + 1) avs H = some x) : fromPt Tryd.prog impl_spaced.E k impl_spaced.a (impl_spaced.G k) 1000 (bodyOf Tryd.prog 29) 8 avs H = some x := by
  unfold impl_spaced.G8 at h
  split at h
  · rw [← h]; exact impl_spaced.eq8 _ _ _ _ _
  · cases h
theorem impl_spaced.E_ok : EnvOk Tryd.prog impl_spaced.E := ⟨⟨impl_decimal.sound, callable_of (by kernel_rfl)⟩, trivial⟩
theorem impl_spaced.sound : Sound Tryd.prog 29 impl_spaced.s := by
  refine func_sound (f := impl_spaced.a) (G := impl_spaced.G) (fn := Tryd.f29) (body := bodyOf Tryd.prog 29) 1000 (by kernel_rfl) impl_spaced.E_ok Tryd.func29 (by kernel_rfl) (by kernel_rfl) (by kernel_rfl) (ptsOk_of (by kernel_rfl)) ?_ ?_ ?_ ?_
  · intro r H x h
    unfold impl_spaced.a at h
    simp only at h
    split at h
    · cases h; rfl
    · cases h
  · exact fun q avs H => pick1_none impl_spaced.G8_0 (rfl)
  · intro k q pt avs H x _ h
    rcases pick1_some h with ⟨rfl, h⟩ | h
    · exact impl_spaced.G8_s _ h
    cases h
  · intro k avs H o h
    try dsimp only at h
    split at h
    · cases h; exact impl_spaced.eq _ _
    · cases h

def strings_Builder_WriteString.s : Spec := mkS [.bld 53 (.row 5 (.int .u8)), .val] (fun _ avs H => match avs, H with
  | [.box 0 0, .v (.string a1)], [.bld 53 (.own 1), .row 5 (.int .u8) a0] => some (strings_Builder_WriteString.f a0 a1)
  | _, _ => none) (writeX 53 5)
set_option maxHeartbeats 1000000 in
set_option maxRecDepth 100000 in
theorem strings_Builder_WriteString.used (b : Nat) (w : World) (h0 : w.cell? ⟨b, 0, none⟩ = some (.pointer (some ⟨b, 0, none⟩))) :
    Calls Tryd.prog 52 #[.pointer (some ⟨b, 0, none⟩)] w fun e w' => e = .returned (.tuple #[]) ∧ w' = w := by
  obtain ⟨j, hj, _⟩ := Option.map_eq_some_iff.1 (show (Tryd.prog.info? 53).map (·.size) = some 2 by kernel_rfl)
  have mixed : Tryd.prog.follows .mixedOrders = true := by kernel_rfl
  go_enter Tryd.func52, Tryd.ntmps52
  go_wp2
  rw [Lib.run_neq_ptr_same w _ Tryd.underlying50 hj]
  go_wp2
  go_end0
  exact ⟨rfl, rfl⟩
set_option maxHeartbeats 1000000 in
set_option maxRecDepth 100000 in
theorem strings_Builder_WriteString.fresh (b : Nat) (w : World) (h0 : w.cell? ⟨b, 0, none⟩ = some (.pointer none)) (hsh : w.shape? b = some (53, 2)) (hfz : w.frozen? ⟨b, 0, none⟩ = false) :
    Calls Tryd.prog 52 #[.pointer (some ⟨b, 0, none⟩)] w fun e w' => e = .returned (.tuple #[]) ∧ w' = w.setCell ⟨b, 0, none⟩ (.pointer (some ⟨b, 0, none⟩)) := by
  obtain ⟨j, hj, hjs⟩ := Option.map_eq_some_iff.1 (show (Tryd.prog.info? 53).map (·.size) = some 2 by kernel_rfl)
  have mixed : Tryd.prog.follows .mixedOrders = true := by kernel_rfl
  go_enter Tryd.func52, Tryd.ntmps52
  go_wp2
  rw [Lib.run_to_unsafe w ⟨b, 0, none⟩ Tryd.underlying50 Tryd.underlying89 hj (by rw [hjs]; decide) hsh (Nat.zero_lt_succ 1)]
  simp only [Result.andThen]
  rw [Oper.upon_value]
  go_wp2
  rw [run_callFunc_extern Tryd.func66 (by kernel_rfl) (by kernel_rfl) (by kernel_rfl) (e := Extern.AbiNoEscape.same) (by kernel_rfl)]
  rw [Lib.run_noEscape]
  simp only [Result.andThen]
  rw [Oper.upon_value]
  go_wp2
  rw [Lib.run_from_unsafe w ⟨b, 0, none⟩ Tryd.underlying89 Tryd.underlying50 hj hsh (by kernel_rfl)]
  simp only [Result.andThen]
  rw [Oper.upon_value]
  go_wp2
  go_end0
  exact ⟨rfl, rfl⟩
theorem strings_Builder_WriteString.check (b : Nat) (p v : Value) (w : World) (hb : w.heap[b]? = some (.cells #[p, v] 53 (0, 0))) (hp : p = .pointer none ∨ p = .pointer (some ⟨b, 0, none⟩)) :
    Calls Tryd.prog 52 #[.pointer (some ⟨b, 0, none⟩)] w fun e w' => e = .returned (.tuple #[]) ∧ w'.heap[b]? = some (.cells #[.pointer (some ⟨b, 0, none⟩), v] 53 (0, 0)) ∧ Off (fun x => x = b) w w' := by
  have c0 : w.cell? ⟨b, 0, none⟩ = some p := by rw [Lib.cell_of_heap hb]; rfl
  rcases hp with rfl | rfl
  · refine (strings_Builder_WriteString.fresh b w c0 (by simp [World.shape?, hb]) (by simp [World.frozen?, hb])).mono ?_
    rintro e w' ⟨rfl, rfl⟩
    refine ⟨rfl, ?_, ⟨rfl, rfl, rfl, by rw [setCell_size]; exact Nat.le_refl _, fun k _ hk => setCell_other _ _ _ _ hk⟩⟩
    have := Z.blk_set hb 0 (.pointer (some ⟨b, 0, none⟩))
    simpa using this
  · refine (strings_Builder_WriteString.used b w c0).mono ?_
    rintro e w' ⟨rfl, rfl⟩
    exact ⟨rfl, hb, Off.refl _ _⟩
set_option maxHeartbeats 2000000 in
set_option maxRecDepth 100000 in
theorem strings_Builder_WriteString.calls (b : Nat) (p v : Value) (n : Nat) (xs : List Value) (s : ByteArray) (w : World) (hb : w.heap[b]? = some (.cells #[p, v] 53 (0, 0))) (hp : p = .pointer none ∨ p = .pointer (some ⟨b, 0, none⟩)) (hown : w.ownsRow 0 5 1 v n xs) (hne : v.ownBlock ≠ some b) (hlen : n + s.size ≤ 140737488355328) :
    Calls Tryd.prog 28 #[.pointer (some ⟨b, 0, none⟩), .string s] w fun en w' => en = .returned (.tuple #[.int .i64 s.size, .nilIface]) ∧ ∃ v', w'.heap[b]? = some (.cells #[.pointer (some ⟨b, 0, none⟩), v'] 53 (0, 0)) ∧ w'.ownsRow 0 5 1 v' (n + s.size) (xs ++ Lib.strCells s) ∧ Off (fun x => x = b ∨ v.ownBlock = some x) w w' ∧ (v'.ownBlock = v.ownBlock ∨ ∀ g, v'.ownBlock = some g → w.heap.size ≤ g) := by
  obtain ⟨i0, hi, hz0, hz1, hz2⟩ : ∃ i0, Tryd.prog.info? 5 = some i0 ∧ i0.zero = some (.int .u8 0) ∧ i0.size = 1 ∧ i0.bytes = 1 := by
    have h := show (Tryd.prog.info? 5).map (fun i => (i.zero, i.size, i.bytes)) = some (some (.int .u8 0), 1, 1) by kernel_rfl
    rw [Option.map_eq_some_iff] at h
    obtain ⟨i0, h1, h2⟩ := h
    simp only [Prod.mk.injEq] at h2
    exact ⟨i0, h1, h2.1, h2.2.1, h2.2.2⟩
  have mixed : Tryd.prog.follows .mixedOrders = true := by kernel_rfl
  have hchk := strings_Builder_WriteString.check b p v w hb hp
  have hlt0 : b < w.heap.size := (Array.getElem?_eq_some_iff.1 hb).1
  have echk : ∀ args w, (callFunc 52 args).run Tryd.prog w = .ok (.enter 52 args) w := enters_of Tryd.func52 (by kernel_rfl) rfl
  go_enter Tryd.func28, Tryd.ntmps28
  go_wp2_with (go_at_fn 52; refine hchk.mono ?_)
  rintro e w1 ⟨rfl, h1, ho1⟩
  have hown1 : w1.ownsRow 0 5 1 v n xs := own_kept hown fun g hg hlt => ho1.block g hlt (fun e => by
    subst e
    rcases hown.2 with ⟨q, _⟩ | ⟨g2, cap, cur, q, _⟩
    · rw [q] at hg; cases hg
    · rw [q] at hg hne; exact hne hg)
  have c1 : w1.cell? ⟨b, 1, none⟩ = some v := by rw [Lib.cell_of_heap h1]; rfl
  have hlt : b < w1.heap.size := (Array.getElem?_eq_some_iff.1 h1).1
  go_wp2_with (at_builtin; refine wpList_append_str rfl _ _ 51 9 rfl 5 i0 Tryd.underlying51 Tryd.underlying9 hi hz0 hz1 hz2 _ _ _ rfl hown1 s rfl hlen ?_)
  intro v' w2 hown' hgrow hat
  have hb2 : w2.heap[b]? = some (.cells #[.pointer (some ⟨b, 0, none⟩), v] 53 (0, 0)) := by
    rw [hgrow.block b hlt (fun e => hne e.symm)]
    exact h1
  have d1 : w2.cell? ⟨b, 1, none⟩ = some v := by rw [Lib.cell_of_heap hb2]; rfl
  have f1 : w2.frozen? ⟨b, 1, none⟩ = false := Lib.frozen_of_heap hb2 1
  obtain ⟨ao, n', cap, rfl⟩ : ∃ ao n' cap, v' = .slice ao n' cap := by
    rcases hown'.2 with ⟨hv, _⟩ | ⟨g, cap, cur, hv, _⟩
    · exact ⟨_, _, _, hv⟩
    · exact ⟨_, _, _, hv⟩
  go_wp2
  go_ret2
  refine ⟨rfl, .slice ao n' cap, ?_, ?_, ?_, ?_⟩
  · have := Z.blk_set hb2 1 (.slice ao n' cap)
    simpa using this
  · refine own_kept hown' fun g hg hlt2 => setCell_other _ _ _ _ (fun e => ?_)
    have e : g = b := e
    subst e
    rcases hat with h4 | h4
    · have h5 : (Value.slice ao n' cap).ownBlock = some g := by
        cases ao with
        | none => cases hg
        | some a => simpa [blk, Value.ownBlock] using hg
      rw [h4] at h5
      exact hne h5
    · have h5 : (Value.slice ao n' cap).ownBlock = some g := by
        cases ao with
        | none => cases hg
        | some a => simpa [blk, Value.ownBlock] using hg
      have := h4 g h5
      omega
  · refine ((ho1.mono (N := fun x => x = b ∨ v.ownBlock = some x) fun _ _ h => .inl h).trans ((Off.grown hgrow).mono (N := fun x => x = b ∨ v.ownBlock = some x) fun _ _ h => .inr h) fun _ _ h => h).trans (N := fun x => x = b) ⟨rfl, rfl, rfl, by rw [setCell_size]; exact Nat.le_refl _, fun k _ hk => setCell_other _ _ _ _ hk⟩ fun _ _ h => .inl h
  · exact hat.imp id fun h g hg => Nat.le_trans ho1.size (h g hg)
theorem strings_Builder_WriteString.sound : Sound Tryd.prog 28 strings_Builder_WriteString.s := by
  refine sound_write (T := 53) (e := 5) ?_ strings_Builder_WriteString.calls
  intro k avs H o x h hx
  split at h
  case h_2 => cases h
  rename_i a1 a0
  cases h
  unfold strings_Builder_WriteString.f at hx
  split at hx
  case isFalse => cases hx
  rename_i h0
  cases hx
  exact ⟨a0, a1, rfl, rfl, h0, rfl⟩

def impl_GraphText_1.a : FnA (Bool) := ⟨6, [.tmp 2], .bool, [], [], fun x H => match x, H with
  | .bs false r, [] => some r
  | _, _ => none⟩
def impl_GraphText_1.s : Spec := mkS [.val] (fun k avs H => match avs, H with
  | [.v (.int .i64 a0)], [] => some (impl_GraphText_1.f a0)
  | _, _ => none) (fun r => (.bs false r, []))
def impl_GraphText_1.E : Env := [((32, []), impl_within.s)]
def impl_GraphText_1.G (k p : Nat) (avs : List AV) (H : List HE) : Option (Bool) := none
set_option maxRecDepth 100000 in
theorem impl_GraphText_1.eq (k : Nat) (a0 : Int) : fromTop Tryd.prog impl_GraphText_1.E k impl_GraphText_1.a (impl_GraphText_1.G k) 1000 (bodyOf Tryd.prog 31) [.v (.int .i64 a0)] [] = impl_GraphText_1.f a0 := by kernel_rfl
theorem impl_GraphText_1.E_ok : EnvOk Tryd.prog impl_GraphText_1.E := ⟨⟨impl_within.sound, callable_of (by kernel_rfl)⟩, trivial⟩
theorem impl_GraphText_1.sound : Sound Tryd.prog 31 impl_GraphText_1.s := by
  refine func_sound (f := impl_GraphText_1.a) (G := impl_GraphText_1.G) (fn := Tryd.f31) (body := bodyOf Tryd.prog 31) 1000 (by kernel_rfl) impl_GraphText_1.E_ok Tryd.func31 (by kernel_rfl) (by kernel_rfl) (by kernel_rfl) (ptsOk_of (by kernel_rfl)) ?_ ?_ ?_ ?_
  · intro r H x h
    unfold impl_GraphText_1.a at h
    simp only at h
    split at h
    · cases h; rfl
    · cases h
  · intro q avs H; rfl
  · intro k q pt avs H x _ h; cases h
  · intro k avs H o h
    try dsimp only at h
    split at h
    · cases h; exact impl_GraphText_1.eq _ _
    · cases h

def slices_IndexFunc_int64_at_impl_GraphText_1.a : FnA (Int) := ⟨19, [.tmp 4], .val, [], [⟨6, [0, 1, 7, 8], [.con (.int .i64), .fn 31 0 [], .val, .val], []⟩], fun x H => match x, H with
  | .v (.int .i64 r), [] => some r
  | _, _ => none⟩
def slices_IndexFunc_int64_at_impl_GraphText_1.s : Spec := mkS [.con (.int .i64), .fn 31 0 []] (fun k avs H => match avs, H with
  | [.con (.int .i64) a0, .fn 31 0 []], [] => some (slices_IndexFunc_int64_at_impl_GraphText_1.f k a0)
  | _, _ => none) (fun r => (.v (.int .i64 r), []))
def slices_IndexFunc_int64_at_impl_GraphText_1.E : Env := [((31, []), impl_GraphText_1.s)]
def slices_IndexFunc_int64_at_impl_GraphText_1.G6 (k : Nat) (avs : List AV) (H : List HE) : Option (Int) := match avs, H with
  | [.con (.int .i64) x0, .fn 31 0 [], .v (.int .i64 x7), .v (.int .i64 x8)], [] => slices_IndexFunc_int64_at_impl_GraphText_1.p6 k x0 x7 x8
  | _, _ => none
def slices_IndexFunc_int64_at_impl_GraphText_1.G (k p : Nat) (avs : List AV) (H : List HE) : Option (Int) := (pick1 6 (slices_IndexFunc_int64_at_impl_GraphText_1.G6 k avs H) none p)
set_option maxRecDepth 100000 in
theorem slices_IndexFunc_int64_at_impl_GraphText_1.eq (k : Nat) (a0 : List Int) : fromTop Tryd.prog slices_IndexFunc_int64_at_impl_GraphText_1.E k slices_IndexFunc_int64_at_impl_GraphText_1.a (slices_IndexFunc_int64_at_impl_GraphText_1.G k) 1000 (bodyOf Tryd.prog 53) [.con (.int .i64) a0, .fn 31 0 []] [] = slices_IndexFunc_int64_at_impl_GraphText_1.f k a0 := by kernel_rfl
set_option maxRecDepth 100000 in
theorem slices_IndexFunc_int64_at_impl_GraphText_1.eq6 (k : Nat) (x0 : List Int) (x7 : Int) (x8 : Int) : fromPt Tryd.prog slices_IndexFunc_int64_at_impl_GraphText_1.E k slices_IndexFunc_int64_at_impl_GraphText_1.a (slices_IndexFunc_int64_at_impl_GraphText_1.G k) 1000 (bodyOf Tryd.prog 53) 6 [.con (.int .i64) x0, .fn 31 0 [], .v (.int .i64 x7), .v (.int .i64 x8)] [] = slices_IndexFunc_int64_at_impl_GraphText_1.p6 (k + 1) x0 x7 x8 := by kernel_rfl
theorem slices_IndexFunc_int64_at_impl_GraphText_1.G6_0 {avs : List AV} {H : List HE} : slices_IndexFunc_int64_at_impl_GraphText_1.G6 0 avs H = none := by unfold slices_IndexFunc_int64_at_impl_GraphText_1.G6; split <;> rfl
theorem slices_IndexFunc_int64_at_impl_GraphText_1.G6_s (k : Nat) {avs : List AV} {H : List HE} {x : Int} (h : slices_IndexFunc_int64_at_impl_GraphText_1.G6 (k + 1) avs H = some x) : fromPt Tryd.prog slices_IndexFunc_int64_at_impl_GraphText_1.E k slices_IndexFunc_int64_at_impl_GraphText_1.a (slices_IndexFunc_int64_at_impl_GraphText_1.G k) 1000 (bodyOf Tryd.prog 53) 6 avs H = some x := by
  unfold slices_IndexFunc_int64_at_impl_GraphText_1.G6 at h
  split at h
  · rw [← h]; exact slices_IndexFunc_int64_at_impl_GraphText_1.eq6 _ _ _ _
  · cases h
theorem slices_IndexFunc_int64_at_impl_GraphText_1.E_ok : EnvOk Tryd.prog slices_IndexFunc_int64_at_impl_GraphText_1.E := ⟨⟨impl_GraphText_1.sound, callable_of (by kernel_rfl)⟩, trivial⟩
theorem slices_IndexFunc_int64_at_impl_GraphText_1.sound : Sound Tryd.prog 53 slices_IndexFunc_int64_at_impl_GraphText_1.s := by
  refine func_sound (f := slices_IndexFunc_int64_at_impl_GraphText_1.a) (G := slices_IndexFunc_int64_at_impl_GraphText_1.G) (fn := Tryd.f53) (body := bodyOf Tryd.prog 53) 1000 (by kernel_rfl) slices_IndexFunc_int64_at_impl_GraphText_1.E_ok Tryd.func53 (by kernel_rfl) (by kernel_rfl) (by kernel_rfl) (ptsOk_of (by kernel_rfl)) ?_ ?_ ?_ ?_
  · intro r H x h
    unfold slices_IndexFunc_int64_at_impl_GraphText_1.a at h
    simp only at h
    split at h
    · cases h; rfl
    · cases h
  · exact fun q avs H => pick1_none slices_IndexFunc_int64_at_impl_GraphText_1.G6_0 (rfl)
  · intro k q pt avs H x _ h
    rcases pick1_some h with ⟨rfl, h⟩ | h
    · exact slices_IndexFunc_int64_at_impl_GraphText_1.G6_s _ h
    cases h
  · intro k avs H o h
    try dsimp only at h
    split at h
    · cases h; exact slices_IndexFunc_int64_at_impl_GraphText_1.eq _ _
    · cases h

def slices_ContainsFunc_int64_at_impl_GraphText_1.a : FnA (Bool) := ⟨9, [.tmp 4], .bool, [], [], fun x H => match x, H with
  | .bs false r, [] => some r
  | _, _ => none⟩
def slices_ContainsFunc_int64_at_impl_GraphText_1.s : Spec := mkS [.con (.int .i64), .fn 31 0 []] (fun k avs H => match avs, H with
  | [.con (.int .i64) a0, .fn 31 0 []], [] => some (slices_ContainsFunc_int64_at_impl_GraphText_1.f k a0)
  | _, _ => none) (fun r => (.bs false r, []))
def slices_ContainsFunc_int64_at_impl_GraphText_1.E : Env := [((53, [31]), slices_IndexFunc_int64_at_impl_GraphText_1.s)]
def slices_ContainsFunc_int64_at_impl_GraphText_1.G (k p : Nat) (avs : List AV) (H : List HE) : Option (Bool) := none
set_option maxRecDepth 100000 in
theorem slices_ContainsFunc_int64_at_impl_GraphText_1.eq (k : Nat) (a0 : List Int) : fromTop Tryd.prog slices_ContainsFunc_int64_at_impl_GraphText_1.E k slices_ContainsFunc_int64_at_impl_GraphText_1.a (slices_ContainsFunc_int64_at_impl_GraphText_1.G k) 1000 (bodyOf Tryd.prog 30) [.con (.int .i64) a0, .fn 31 0 []] [] = slices_ContainsFunc_int64_at_impl_GraphText_1.f k a0 := by kernel_rfl
theorem slices_ContainsFunc_int64_at_impl_GraphText_1.E_ok : EnvOk Tryd.prog slices_ContainsFunc_int64_at_impl_GraphText_1.E := ⟨⟨slices_IndexFunc_int64_at_impl_GraphText_1.sound, callable_of (by kernel_rfl)⟩, trivial⟩
theorem slices_ContainsFunc_int64_at_impl_GraphText_1.sound : Sound Tryd.prog 30 slices_ContainsFunc_int64_at_impl_GraphText_1.s := by
  refine func_sound (f := slices_ContainsFunc_int64_at_impl_GraphText_1.a) (G := slices_ContainsFunc_int64_at_impl_GraphText_1.G) (fn := Tryd.f30) (body := bodyOf Tryd.prog 30) 1000 (by kernel_rfl) slices_ContainsFunc_int64_at_impl_GraphText_1.E_ok Tryd.func30 (by kernel_rfl) (by kernel_rfl) (by kernel_rfl) (ptsOk_of (by kernel_rfl)) ?_ ?_ ?_ ?_
  · intro r H x h
    unfold slices_ContainsFunc_int64_at_impl_GraphText_1.a at h
    simp only at h
    split at h
    · cases h; rfl
    · cases h
  · intro q avs H; rfl
  · intro k q pt avs H x _ h; cases h
  · intro k avs H o h
    try dsimp only at h
    split at h
    · cases h; exact slices_ContainsFunc_int64_at_impl_GraphText_1.eq _ _
    · cases h

def strings_Builder_String.s : Spec := mkS [.bld 53 (.row 5 (.int .u8))] (fun _ avs H => match avs, H with
  | [.box 0 0], [.bld 53 (.own 1), .row 5 (.int .u8) a0] => some (strings_Builder_String.f a0)
  | _, _ => none) (fun r => (.v (.string r), [.gone, .gone]))
set_option maxHeartbeats 2000000 in
set_option maxRecDepth 100000 in
theorem strings_Builder_String.full (b g cap : Nat) (p : Value) (cur : Array Value) (l : List UInt8) (w : World) (h0 : l ≠ []) (hbk : w.heap[b]? = some (.cells #[p, .slice (some ⟨g, 0, none⟩) l.length cap] 53 (0, 0)))
    (hg : w.heap[g]? = some (.cells cur 5 (0, 0))) (hnc : l.length ≤ cap) (hcm : cap ≤ maxLen) (hcs : cur.size = cap) (hcells : ∀ j u, (Lib.byteCells l)[j]? = some u → w.cell? ((⟨g, 0, none⟩ : Addr).add j) = some u) :
    Calls Tryd.prog 34 #[.pointer (some ⟨b, 0, none⟩)] w fun e w' => e = .returned (.string ⟨l.toArray⟩) ∧ w' = w.drew.freeze ⟨g, 0, none⟩ l.length := by
  have hl0 : l.length ≠ 0 := by simpa using h0
  have c1 : w.drew.cell? ⟨b, 1, none⟩ = some (.slice (some ⟨g, 0, none⟩) l.length cap) := by
    have : w.drew.heap[b]? = some (.cells #[p, .slice (some ⟨g, 0, none⟩) l.length cap] 53 (0, 0)) := hbk
    rw [Lib.cell_of_heap this]; rfl
  have hSD : (Builtin.unsafeSliceData_ #[51] 77 #[.slice (some ⟨g, 0, none⟩) l.length cap]).run Tryd.prog w.drew = .ok (.pointer (some ⟨g, 0, none⟩)) w.drew :=
    Lib.run_unsafeSliceData_row _ _ _ _ _ _ (by omega)
  have hUS : (Builtin.unsafeString_ #[77, 3] 9 #[.pointer (some ⟨g, 0, none⟩), .int .i64 l.length]).run Tryd.prog w.drew = .ok (.string ⟨l.toArray⟩) (w.drew.freeze ⟨g, 0, none⟩ l.length) := by
    refine Lib.run_unsafeString_row w.drew 77 3 9 5 Tryd.underlying77 (by kernel_rfl) g cur.size (by have hg' : w.drew.heap[g]? = some (.cells cur 5 (0, 0)) := hg; simp [World.shape?, hg']) l h0 (by omega) (by unfold maxLen at hcm; omega) ?_
    intro j x hx
    have := hcells j (.int .u8 x.toNat) (by simp [Lib.byteCells, hx])
    exact this
  clear hcells
  have mixed : Tryd.prog.follows .mixedOrders = true := by kernel_rfl
  go_enter Tryd.func34, Tryd.ntmps34
  go_wp2
  go_region_o
  all_goals (go_wp2; go_ret; exact ⟨rfl, rfl⟩)
theorem strings_Builder_String.calls (b : Nat) (p v : Value) (l : List UInt8) (w : World) (hbk : w.heap[b]? = some (.cells #[p, v] 53 (0, 0))) (hown : w.ownsRow 0 5 1 v l.length (Lib.byteCells l)) :
    Calls Tryd.prog 34 #[.pointer (some ⟨b, 0, none⟩)] w fun en w' => en = .returned (.string ⟨l.toArray⟩) ∧ Off (fun x => v.ownBlock = some x) w w' := by
  have hc := fun g hg => hown.cells (g := g) hg
  rcases hown.2 with ⟨rfl, h0⟩ | ⟨g, cap, cur, rfl, _, hg, hnc, hcm, hcs, _⟩
  · obtain rfl := List.eq_nil_of_length_eq_zero h0
    refine (Any.Builder_String_nil Go.Proofs.Tryd.lays169 Go.Proofs.Tryd.Builder_Extra_169 w.heap.size b p w hbk).mono ?_
    rintro e w' ⟨rfl, hb⟩
    exact ⟨rfl, Off.below hb _⟩
  · by_cases hl : l = []
    · subst hl
      by_cases hc0 : cap = 0
      · subst hc0
        refine (Any.Builder_String_noroom Go.Proofs.Tryd.lays169 Go.Proofs.Tryd.Builder_Extra_169 w.heap.size b g p cur w (Nat.le_refl _) hbk hg).mono ?_
        rintro e w' ⟨rfl, hb⟩
        exact ⟨rfl, Off.below hb _⟩
      · refine (Any.Builder_String_room Go.Proofs.Tryd.lays169 Go.Proofs.Tryd.Builder_Extra_169 w.heap.size b g cap p w hc0 hbk).mono ?_
        rintro e w' ⟨rfl, hb⟩
        exact ⟨rfl, Off.below hb _⟩
    · refine (strings_Builder_String.full b g cap p cur l w hl hbk hg hnc hcm (by simpa using hcs) (hc g rfl)).mono ?_
      rintro e w' ⟨rfl, rfl⟩
      refine ⟨rfl, ((Off.drew (fun x => (Value.slice (some ⟨g, 0, none⟩) l.length cap).ownBlock = some x) w).trans (N := fun x => x = g) (Off.freeze _ _ _) fun x _ hx => ?_)⟩
      subst hx
      rfl
theorem strings_Builder_String.sound : Sound Tryd.prog 34 strings_Builder_String.s := by
  refine sound_str (T := 53) (e := 5) ?_ strings_Builder_String.calls
  intro k avs H o x h hx
  split at h
  case h_2 => cases h
  rename_i a0
  cases h
  unfold strings_Builder_String.f at hx
  split at hx
  case isFalse => cases hx
  rename_i h0
  cases hx
  exact ⟨a0, rfl, rfl, h0, rfl⟩

def impl_GraphText.a : FnA (ByteArray) := ⟨39, [.tmp 4], .val, [], [⟨18, [5, 19, 20, 21], [.bld 53 (.row 5 (.int .u8)), .con (.pair (.int .i64) (.sl (.int .i64))), .val, .val], []⟩], fun x H => match x, H with
  | .v (.string r), [] => some r
  | _, _ => none⟩
def impl_GraphText.s : Spec := mkS [.con .str, .agg [.con (.int .i64), .con (.pair (.int .i64) (.sl (.int .i64)))]] (fun k avs H => match avs, H with
  | [.con .str a0, .agg [.con (.int .i64) a1_0, .con (.pair (.int .i64) (.sl (.int .i64))) a1_1]], [] => some (impl_GraphText.f k a0 a1_0 a1_1)
  | _, _ => none) (fun r => (.v (.string r), []))
def impl_GraphText.E : Env := [((27, []), impl_GraphOk.s), ((29, []), impl_spaced.s), ((28, []), strings_Builder_WriteString.s), ((30, [31]), slices_ContainsFunc_int64_at_impl_GraphText_1.s), ((33, []), impl_decimal.s), ((34, []), strings_Builder_String.s)]
def impl_GraphText.G18 (k : Nat) (avs : List AV) (H : List HE) : Option (ByteArray) := match avs, H with
  | [.box 0 0, .con (.pair (.int .i64) (.sl (.int .i64))) x19, .v (.int .i64 x20), .v (.int .i64 x21)], [.bld 53 (.own 1), .row 5 (.int .u8) x5] => impl_GraphText.p18 k x5 x19 x20 x21
  | _, _ => none
def impl_GraphText.G (k p : Nat) (avs : List AV) (H : List HE) : Option (ByteArray) := (pick1 18 (impl_GraphText.G18 k avs H) none p)
set_option maxRecDepth 100000 in
theorem impl_GraphText.eq (k : Nat) (a0 : List ByteArray) (a1_0 : List Int) (a1_1 : List (Int × List Int)) : fromTop Tryd.prog impl_GraphText.E k impl_GraphText.a (impl_GraphText.G k) 1000 (bodyOf Tryd.prog 10) [.con .str a0, .agg [.con (.int .i64) a1_0, .con (.pair (.int .i64) (.sl (.int .i64))) a1_1]] [] = impl_GraphText.f k a0 a1_0 a1_1 := by kernel_rfl
set_option maxRecDepth 100000 in
theorem impl_GraphText.eq18 (k : Nat) (x5 : List Int) (x19 : List (Int × List Int)) (x20 : Int) (x21 : Int) : fromPt Tryd.prog impl_GraphText.E k impl_GraphText.a (impl_GraphText.G k) 1000 (bodyOf Tryd.prog 10) 18 [.box 0 0, .con (.pair (.int .i64) (.sl (.int .i64))) x19, .v (.int .i64 x20), .v (.int .i64 x21)] [.bld 53 (.own 1), .row 5 (.int .u8) x5] = impl_GraphText.p18 (k + 1) x5 x19 x20 x21 := by kernel_rfl
theorem impl_GraphText.G18_0 {avs : List AV} {H : List HE} : impl_GraphText.G18 0 avs H = none := by unfold impl_GraphText.G18; split <;> rfl
theorem impl_GraphText.G18_s (k : Nat) {avs : List AV} {H : List HE} {x : ByteArray} (h : impl_GraphText.G18 (k + 1) avs H = some x) : fromPt Tryd.prog impl_GraphText.E k impl_GraphText.a (impl_GraphText.G k) 1000 (bodyOf Tryd.prog 10) 18 avs H = some x := by
  unfold impl_GraphText.G18 at h
  split at h
  · rw [← h]; exact impl_GraphText.eq18 _ _ _ _ _
  · cases h
theorem impl_GraphText.E_ok : EnvOk Tryd.prog impl_GraphText.E := ⟨⟨impl_GraphOk.sound, callable_of (by kernel_rfl)⟩, ⟨impl_spaced.sound, callable_of (by kernel_rfl)⟩, ⟨strings_Builder_WriteString.sound, callable_of (by kernel_rfl)⟩, ⟨slices_ContainsFunc_int64_at_impl_GraphText_1.sound, callable_of (by kernel_rfl)⟩, ⟨impl_decimal.sound, callable_of (by kernel_rfl)⟩, ⟨strings_Builder_String.sound, callable_of (by kernel_rfl)⟩, trivial⟩
theorem impl_GraphText.sound : Sound Tryd.prog 10 impl_GraphText.s := by
  refine func_sound (f := impl_GraphText.a) (G := impl_GraphText.G) (fn := Tryd.f10) (body := bodyOf Tryd.prog 10) 1000 (by kernel_rfl) impl_GraphText.E_ok Tryd.func10 (by kernel_rfl) (by kernel_rfl) (by kernel_rfl) (ptsOk_of (by kernel_rfl)) ?_ ?_ ?_ ?_
  · intro r H x h
    unfold impl_GraphText.a at h
    simp only at h
    split at h
    · cases h; rfl
    · cases h
  · exact fun q avs H => pick1_none impl_GraphText.G18_0 (rfl)
  · intro k q pt avs H x _ h
    rcases pick1_some h with ⟨rfl, h⟩ | h
    · exact impl_GraphText.G18_s _ h
    cases h
  · intro k avs H o h
    try dsimp only at h
    split at h
    · cases h; exact impl_GraphText.eq _ _ _ _
    · cases h

def laws_eqStringS.a : FnA (Bool) := ⟨26, [.tmp 4], .bool, [], [⟨14, [0, 1, 5], [.con .str, .con .str, .val], []⟩], fun x H => match x, H with
  | .bs false r, [] => some r
  | _, _ => none⟩
def laws_eqStringS.s : Spec := mkS [.con .str, .con .str] (fun k avs H => match avs, H with
  | [.con .str a0, .con .str a1], [] => some (laws_eqStringS.f k a0 a1)
  | _, _ => none) (fun r => (.bs false r, []))
def laws_eqStringS.E : Env := []
def laws_eqStringS.G14 (k : Nat) (avs : List AV) (H : List HE) : Option (Bool) := match avs, H with
  | [.con .str x0, .con .str x1, .v (.int .i64 x5)], [] => laws_eqStringS.p14 k x0 x1 x5
  | _, _ => none
def laws_eqStringS.G (k p : Nat) (avs : List AV) (H : List HE) : Option (Bool) := (pick1 14 (laws_eqStringS.G14 k avs H) none p)
set_option maxRecDepth 100000 in
theorem laws_eqStringS.eq (k : Nat) (a0 : List ByteArray) (a1 : List ByteArray) : fromTop Tryd.prog laws_eqStringS.E k laws_eqStringS.a (laws_eqStringS.G k) 1000 (bodyOf Tryd.prog 11) [.con .str a0, .con .str a1] [] = laws_eqStringS.f k a0 a1 := by kernel_rfl
set_option maxRecDepth 100000 in
theorem laws_eqStringS.eq14 (k : Nat) (x0 : List ByteArray) (x1 : List ByteArray) (x5 : Int) : fromPt Tryd.prog laws_eqStringS.E k laws_eqStringS.a (laws_eqStringS.G k) 1000 (bodyOf Tryd.prog 11) 14 [.con .str x0, .con .str x1, .v (.int .i64 x5)] [] = laws_eqStringS.p14 (k + 1) x0 x1 x5 := by kernel_rfl
theorem laws_eqStringS.G14_0 {avs : List AV} {H : List HE} : laws_eqStringS.G14 0 avs H = none := by unfold laws_eqStringS.G14; split <;> rfl
theorem laws_eqStringS.G14_s (k : Nat) {avs : List AV} {H : List HE} {x : Bool} (h : laws_eqStringS.G14 (k + 1) avs H = some x) : fromPt Tryd.prog laws_eqStringS.E k laws_eqStringS.a (laws_eqStringS.G k) 1000 (bodyOf Tryd.prog 11) 14 avs H = some x := by
  unfold laws_eqStringS.G14 at h
  split at h
  · rw [← h]; exact laws_eqStringS.eq14 _ _ _ _
  · cases h
theorem laws_eqStringS.E_ok : EnvOk Tryd.prog laws_eqStringS.E := trivial
theorem laws_eqStringS.sound : Sound Tryd.prog 11 laws_eqStringS.s := by
  refine func_sound (f := laws_eqStringS.a) (G := laws_eqStringS.G) (fn := Tryd.f11) (body := bodyOf Tryd.prog 11) 1000 (by kernel_rfl) laws_eqStringS.E_ok Tryd.func11 (by kernel_rfl) (by kernel_rfl) (by kernel_rfl) (ptsOk_of (by kernel_rfl)) ?_ ?_ ?_ ?_
  · intro r H x h
    unfold laws_eqStringS.a at h
    simp only at h
    split at h
    · cases h; rfl
    · cases h
  · exact fun q avs H => pick1_none laws_eqStringS.G14_0 (rfl)
  · intro k q pt avs H x _ h
    rcases pick1_some h with ⟨rfl, h⟩ | h
    · exact laws_eqStringS.G14_s _ h
    cases h
  · intro k avs H o h
    try dsimp only at h
    split at h
    · cases h; exact laws_eqStringS.eq _ _ _
    · cases h

def laws_eqInt64S.a : FnA (Bool) := ⟨26, [.tmp 4], .bool, [], [⟨14, [0, 1, 5], [.con (.int .i64), .con (.int .i64), .val], []⟩], fun x H => match x, H with
  | .bs false r, [] => some r
  | _, _ => none⟩
def laws_eqInt64S.s : Spec := mkS [.con (.int .i64), .con (.int .i64)] (fun k avs H => match avs, H with
  | [.con (.int .i64) a0, .con (.int .i64) a1], [] => some (laws_eqInt64S.f k a0 a1)
  | _, _ => none) (fun r => (.bs false r, []))
def laws_eqInt64S.E : Env := []
def laws_eqInt64S.G14 (k : Nat) (avs : List AV) (H : List HE) : Option (Bool) := match avs, H with
  | [.con (.int .i64) x0, .con (.int .i64) x1, .v (.int .i64 x5)], [] => laws_eqInt64S.p14 k x0 x1 x5
  | _, _ => none
def laws_eqInt64S.G (k p : Nat) (avs : List AV) (H : List HE) : Option (Bool) := (pick1 14 (laws_eqInt64S.G14 k avs H) none p)
set_option maxRecDepth 100000 in
theorem laws_eqInt64S.eq (k : Nat) (a0 : List Int) (a1 : List Int) : fromTop Tryd.prog laws_eqInt64S.E k laws_eqInt64S.a (laws_eqInt64S.G k) 1000 (bodyOf Tryd.prog 15) [.con (.int .i64) a0, .con (.int .i64) a1] [] = laws_eqInt64S.f k a0 a1 := by kernel_rfl
set_option maxRecDepth 100000 in
theorem laws_eqInt64S.eq14 (k : Nat) (x0 : List Int) (x1 : List Int) (x5 : Int) : fromPt Tryd.prog laws_eqInt64S.E k laws_eqInt64S.a (laws_eqInt64S.G k) 1000 (bodyOf Tryd.prog 15) 14 [.con (.int .i64) x0, .con (.int .i64) x1, .v (.int .i64 x5)] [] = laws_eqInt64S.p14 (k + 1) x0 x1 x5 := by kernel_rfl
theorem laws_eqInt64S.G14_0 {avs : List AV} {H : List HE} : laws_eqInt64S.G14 0 avs H = none := by unfold laws_eqInt64S.G14; split <;> rfl
theorem laws_eqInt64S.G14_s (k : Nat) {avs : List AV} {H : List HE} {x : Bool} (h : laws_eqInt64S.G14 (k + 1) avs H = some x) : fromPt Tryd.prog laws_eqInt64S.E k laws_eqInt64S.a (laws_eqInt64S.G k) 1000 (bodyOf Tryd.prog 15) 14 avs H = some x := by
  unfold laws_eqInt64S.G14 at h
  split at h
  · rw [← h]; exact laws_eqInt64S.eq14 _ _ _ _
  · cases h
theorem laws_eqInt64S.E_ok : EnvOk Tryd.prog laws_eqInt64S.E := trivial
theorem laws_eqInt64S.sound : Sound Tryd.prog 15 laws_eqInt64S.s := by
  refine func_sound (f := laws_eqInt64S.a) (G := laws_eqInt64S.G) (fn := Tryd.f15) (body := bodyOf Tryd.prog 15) 1000 (by kernel_rfl) laws_eqInt64S.E_ok Tryd.func15 (by kernel_rfl) (by kernel_rfl) (by kernel_rfl) (ptsOk_of (by kernel_rfl)) ?_ ?_ ?_ ?_
  · intro r H x h
    unfold laws_eqInt64S.a at h
    simp only at h
    split at h
    · cases h; rfl
    · cases h
  · exact fun q avs H => pick1_none laws_eqInt64S.G14_0 (rfl)
  · intro k q pt avs H x _ h
    rcases pick1_some h with ⟨rfl, h⟩ | h
    · exact laws_eqInt64S.G14_s _ h
    cases h
  · intro k avs H o h
    try dsimp only at h
    split at h
    · cases h; exact laws_eqInt64S.eq _ _ _
    · cases h

def laws_eqObj.a : FnA (Bool) := ⟨16, [.tmp 4], .bool, [], [], fun x H => match x, H with
  | .bs false r, [] => some r
  | _, _ => none⟩
def laws_eqObj.s : Spec := mkS [.agg [.val, .con (.int .i64)], .agg [.val, .con (.int .i64)]] (fun k avs H => match avs, H with
  | [.agg [.v (.int .i64 a0_0), .con (.int .i64) a0_1], .agg [.v (.int .i64 a1_0), .con (.int .i64) a1_1]], [] => some (laws_eqObj.f k a0_0 a0_1 a1_0 a1_1)
  | _, _ => none) (fun r => (.bs false r, []))
def laws_eqObj.E : Env := [((15, []), laws_eqInt64S.s)]
def laws_eqObj.G (k p : Nat) (avs : List AV) (H : List HE) : Option (Bool) := none
set_option maxRecDepth 100000 in
theorem laws_eqObj.eq (k : Nat) (a0_0 : Int) (a0_1 : List Int) (a1_0 : Int) (a1_1 : List Int) : fromTop Tryd.prog laws_eqObj.E k laws_eqObj.a (laws_eqObj.G k) 1000 (bodyOf Tryd.prog 55) [.agg [.v (.int .i64 a0_0), .con (.int .i64) a0_1], .agg [.v (.int .i64 a1_0), .con (.int .i64) a1_1]] [] = laws_eqObj.f k a0_0 a0_1 a1_0 a1_1 := by kernel_rfl
theorem laws_eqObj.E_ok : EnvOk Tryd.prog laws_eqObj.E := ⟨⟨laws_eqInt64S.sound, callable_of (by kernel_rfl)⟩, trivial⟩
theorem laws_eqObj.sound : Sound Tryd.prog 55 laws_eqObj.s := by
  refine func_sound (f := laws_eqObj.a) (G := laws_eqObj.G) (fn := Tryd.f55) (body := bodyOf Tryd.prog 55) 1000 (by kernel_rfl) laws_eqObj.E_ok Tryd.func55 (by kernel_rfl) (by kernel_rfl) (by kernel_rfl) (ptsOk_of (by kernel_rfl)) ?_ ?_ ?_ ?_
  · intro r H x h
    unfold laws_eqObj.a at h
    simp only at h
    split at h
    · cases h; rfl
    · cases h
  · intro q avs H; rfl
  · intro k q pt avs H x _ h; cases h
  · intro k avs H o h
    try dsimp only at h
    split at h
    · cases h; exact laws_eqObj.eq _ _ _ _ _
    · cases h

def laws_eqObjS.a : FnA (Bool) := ⟨27, [.tmp 4], .bool, [], [⟨14, [0, 1, 5], [.con (.pair (.int .i64) (.sl (.int .i64))), .con (.pair (.int .i64) (.sl (.int .i64))), .val], []⟩], fun x H => match x, H with
  | .bs false r, [] => some r
  | _, _ => none⟩
def laws_eqObjS.s : Spec := mkS [.con (.pair (.int .i64) (.sl (.int .i64))), .con (.pair (.int .i64) (.sl (.int .i64)))] (fun k avs H => match avs, H with
  | [.con (.pair (.int .i64) (.sl (.int .i64))) a0, .con (.pair (.int .i64) (.sl (.int .i64))) a1], [] => some (laws_eqObjS.f k a0 a1)
  | _, _ => none) (fun r => (.bs false r, []))
def laws_eqObjS.E : Env := [((55, []), laws_eqObj.s)]
def laws_eqObjS.G14 (k : Nat) (avs : List AV) (H : List HE) : Option (Bool) := match avs, H with
  | [.con (.pair (.int .i64) (.sl (.int .i64))) x0, .con (.pair (.int .i64) (.sl (.int .i64))) x1, .v (.int .i64 x5)], [] => laws_eqObjS.p14 k x0 x1 x5
  | _, _ => none
def laws_eqObjS.G (k p : Nat) (avs : List AV) (H : List HE) : Option (Bool) := (pick1 14 (laws_eqObjS.G14 k avs H) none p)
set_option maxRecDepth 100000 in
theorem laws_eqObjS.eq (k : Nat) (a0 : List (Int × List Int)) (a1 : List (Int × List Int)) : fromTop Tryd.prog laws_eqObjS.E k laws_eqObjS.a (laws_eqObjS.G k) 1000 (bodyOf Tryd.prog 35) [.con (.pair (.int .i64) (.sl (.int .i64))) a0, .con (.pair (.int .i64) (.sl (.int .i64))) a1] [] = laws_eqObjS.f k a0 a1 := by kernel_rfl
set_option maxRecDepth 100000 in
theorem laws_eqObjS.eq14 (k : Nat) (x0 : List (Int × List Int)) (x1 : List (Int × List Int)) (x5 : Int) : fromPt Tryd.prog laws_eqObjS.E k laws_eqObjS.a (laws_eqObjS.G k) 1000 (bodyOf Tryd.prog 35) 14 [.con (.pair (.int .i64) (.sl (.int .i64))) x0, .con (.pair (.int .i64) (.sl (.int .i64))) x1, .v (.int .i64 x5)] [] = laws_eqObjS.p14 (k + 1) x0 x1 x5 := by kernel_rfl
theorem laws_eqObjS.G14_0 {avs : List AV} {H : List HE} : laws_eqObjS.G14 0 avs H = none := by unfold laws_eqObjS.G14; split <;> rfl
theorem laws_eqObjS.G14_s (k : Nat) {avs : List AV} {H : List HE} {x : Bool} (h : laws_eqObjS.G14 (k + 1) avs H = some x) : fromPt Tryd.prog laws_eqObjS.E k laws_eqObjS.a (laws_eqObjS.G k) 1000 (bodyOf Tryd.prog 35) 14 avs H = some x := by
  unfold laws_eqObjS.G14 at h
  split at h
  · rw [← h]; exact laws_eqObjS.eq14 _ _ _ _
  · cases h
theorem laws_eqObjS.E_ok : EnvOk Tryd.prog laws_eqObjS.E := ⟨⟨laws_eqObj.sound, callable_of (by kernel_rfl)⟩, trivial⟩
theorem laws_eqObjS.sound : Sound Tryd.prog 35 laws_eqObjS.s := by
  refine func_sound (f := laws_eqObjS.a) (G := laws_eqObjS.G) (fn := Tryd.f35) (body := bodyOf Tryd.prog 35) 1000 (by kernel_rfl) laws_eqObjS.E_ok Tryd.func35 (by kernel_rfl) (by kernel_rfl) (by kernel_rfl) (ptsOk_of (by kernel_rfl)) ?_ ?_ ?_ ?_
  · intro r H x h
    unfold laws_eqObjS.a at h
    simp only at h
    split at h
    · cases h; rfl
    · cases h
  · exact fun q avs H => pick1_none laws_eqObjS.G14_0 (rfl)
  · intro k q pt avs H x _ h
    rcases pick1_some h with ⟨rfl, h⟩ | h
    · exact laws_eqObjS.G14_s _ h
    cases h
  · intro k avs H o h
    try dsimp only at h
    split at h
    · cases h; exact laws_eqObjS.eq _ _ _
    · cases h

def laws_eqGraph.a : FnA (Bool) := ⟨17, [.tmp 4], .bool, [], [], fun x H => match x, H with
  | .bs false r, [] => some r
  | _, _ => none⟩
def laws_eqGraph.s : Spec := mkS [.agg [.con (.int .i64), .con (.pair (.int .i64) (.sl (.int .i64)))], .agg [.con (.int .i64), .con (.pair (.int .i64) (.sl (.int .i64)))]] (fun k avs H => match avs, H with
  | [.agg [.con (.int .i64) a0_0, .con (.pair (.int .i64) (.sl (.int .i64))) a0_1], .agg [.con (.int .i64) a1_0, .con (.pair (.int .i64) (.sl (.int .i64))) a1_1]], [] => some (laws_eqGraph.f k a0_0 a0_1 a1_0 a1_1)
  | _, _ => none) (fun r => (.bs false r, []))
def laws_eqGraph.E : Env := [((15, []), laws_eqInt64S.s), ((35, []), laws_eqObjS.s)]
def laws_eqGraph.G (k p : Nat) (avs : List AV) (H : List HE) : Option (Bool) := none
set_option maxRecDepth 100000 in
theorem laws_eqGraph.eq (k : Nat) (a0_0 : List Int) (a0_1 : List (Int × List Int)) (a1_0 : List Int) (a1_1 : List (Int × List Int)) : fromTop Tryd.prog laws_eqGraph.E k laws_eqGraph.a (laws_eqGraph.G k) 1000 (bodyOf Tryd.prog 12) [.agg [.con (.int .i64) a0_0, .con (.pair (.int .i64) (.sl (.int .i64))) a0_1], .agg [.con (.int .i64) a1_0, .con (.pair (.int .i64) (.sl (.int .i64))) a1_1]] [] = laws_eqGraph.f k a0_0 a0_1 a1_0 a1_1 := by kernel_rfl
theorem laws_eqGraph.E_ok : EnvOk Tryd.prog laws_eqGraph.E := ⟨⟨laws_eqInt64S.sound, callable_of (by kernel_rfl)⟩, ⟨laws_eqObjS.sound, callable_of (by kernel_rfl)⟩, trivial⟩
theorem laws_eqGraph.sound : Sound Tryd.prog 12 laws_eqGraph.s := by
  refine func_sound (f := laws_eqGraph.a) (G := laws_eqGraph.G) (fn := Tryd.f12) (body := bodyOf Tryd.prog 12) 1000 (by kernel_rfl) laws_eqGraph.E_ok Tryd.func12 (by kernel_rfl) (by kernel_rfl) (by kernel_rfl) (ptsOk_of (by kernel_rfl)) ?_ ?_ ?_ ?_
  · intro r H x h
    unfold laws_eqGraph.a at h
    simp only at h
    split at h
    · cases h; rfl
    · cases h
  · intro q avs H; rfl
  · intro k q pt avs H x _ h; cases h
  · intro k avs H o h
    try dsimp only at h
    split at h
    · cases h; exact laws_eqGraph.eq _ _ _ _ _
    · cases h

def laws_FnExactGraphText.a : FnA (Bool) := ⟨45, [.tmp 4], .bool, [], [], fun x H => match x, H with
  | .bs false r, [] => some r
  | _, _ => none⟩
def laws_FnExactGraphText.s : Spec := mkS [.con .str, .agg [.con (.int .i64), .con (.pair (.int .i64) (.sl (.int .i64)))]] (fun k avs H => match avs, H with
  | [.con .str a0, .agg [.con (.int .i64) a1_0, .con (.pair (.int .i64) (.sl (.int .i64))) a1_1]], [] => some (laws_FnExactGraphText.f k a0 a1_0 a1_1)
  | _, _ => none) (fun r => (.bs false r, []))
def laws_FnExactGraphText.E : Env := [((5, []), laws_szStringS.s), ((6, []), laws_szGraph.s), ((8, []), laws_toStringS.s), ((9, []), laws_toGraph.s), ((7, []), spec_GraphText.s), ((10, []), impl_GraphText.s), ((11, []), laws_eqStringS.s), ((12, []), laws_eqGraph.s)]
def laws_FnExactGraphText.G (k p : Nat) (avs : List AV) (H : List HE) : Option (Bool) := none
set_option maxRecDepth 100000 in
theorem laws_FnExactGraphText.eq (k : Nat) (a0 : List ByteArray) (a1_0 : List Int) (a1_1 : List (Int × List Int)) : fromTop Tryd.prog laws_FnExactGraphText.E k laws_FnExactGraphText.a (laws_FnExactGraphText.G k) 1000 (bodyOf Tryd.prog 3) [.con .str a0, .agg [.con (.int .i64) a1_0, .con (.pair (.int .i64) (.sl (.int .i64))) a1_1]] [] = laws_FnExactGraphText.f k a0 a1_0 a1_1 := by kernel_rfl
theorem laws_FnExactGraphText.E_ok : EnvOk Tryd.prog laws_FnExactGraphText.E := ⟨⟨laws_szStringS.sound, callable_of (by kernel_rfl)⟩, ⟨laws_szGraph.sound, callable_of (by kernel_rfl)⟩, ⟨laws_toStringS.sound, callable_of (by kernel_rfl)⟩, ⟨laws_toGraph.sound, callable_of (by kernel_rfl)⟩, ⟨spec_GraphText.sound, callable_of (by kernel_rfl)⟩, ⟨impl_GraphText.sound, callable_of (by kernel_rfl)⟩, ⟨laws_eqStringS.sound, callable_of (by kernel_rfl)⟩, ⟨laws_eqGraph.sound, callable_of (by kernel_rfl)⟩, trivial⟩
theorem laws_FnExactGraphText.sound : Sound Tryd.prog 3 laws_FnExactGraphText.s := by
  refine func_sound (f := laws_FnExactGraphText.a) (G := laws_FnExactGraphText.G) (fn := Tryd.f3) (body := bodyOf Tryd.prog 3) 1000 (by kernel_rfl) laws_FnExactGraphText.E_ok Tryd.func3 (by kernel_rfl) (by kernel_rfl) (by kernel_rfl) (ptsOk_of (by kernel_rfl)) ?_ ?_ ?_ ?_
  · intro r H x h
    unfold laws_FnExactGraphText.a at h
    simp only at h
    split at h
    · cases h; rfl
    · cases h
  · intro q avs H; rfl
  · intro k q pt avs H x _ h; cases h
  · intro k avs H o h
    try dsimp only at h
    split at h
    · cases h; exact laws_FnExactGraphText.eq _ _ _ _
    · cases h
end
end Go.Proofs.YtommgpkeicpokaaDoor.Abs
