/- They are sound. -/
import Derived.Test.YtommgpkeicpokaaDoorShelfSt
import Derived.Shelf.Strings.SlTrimAscii
import Derived.Test.YtommgpkeicpokaaDoorAbsSrt
import Derived.Test.YtommgpkeicpokaaDoorShelfSl
import Derived.Test.YtommgpkeicpokaaDoorF3
import Derived.Test.YtommgpkeicpokaaDoorProg
namespace Go.Proofs.YtommgpkeicpokaaDoor.Abs
open Go Go.RowKit
set_option linter.unusedVariables false
set_option linter.unusedSectionVars false
set_option linter.unusedSimpArgs false
noncomputable section
def laws_szStringS.a : FnA (Int) := ⟨28, [.tmp 4], .val, [], [⟨16, [0, 1, 5], [.con .str, .val, .val], []⟩], fun x H => match x, H with
  | .v (.int .i64 r), [] => some r
  | _, _ => none⟩
def laws_szStringS.s : Spec := mkS [.con .str, .val] (fun k avs H => match avs, H with
  | [.con .str a0, .v (.int .i64 a1)], [] => some (laws_szStringS.f k a0 a1)
  | _, _ => none) (fun r => (.v (.int .i64 r), []))
def laws_szStringS.E : Env := []
def laws_szStringS.G16 (k : Nat) (avs : List AV) (H : List HE) : Option (Int) := match avs, H with
  | [.con .str x0, .v (.int .i64 x1), .v (.int .i64 x5)], [] => laws_szStringS.p16 k x0 x1 x5
  | _, _ => none
def laws_szStringS.G (k p : Nat) (avs : List AV) (H : List HE) : Option (Int) := (pick1 16 (laws_szStringS.G16 k avs H) none p)
set_option maxRecDepth 100000 in
theorem laws_szStringS.eq (k : Nat) (a0 : List ByteArray) (a1 : Int) : fromTop Tryd.prog laws_szStringS.E k laws_szStringS.a (laws_szStringS.G k) 1000 (bodyOf Tryd.prog 5) [.con .str a0, .v (.int .i64 a1)] [] = laws_szStringS.f k a0 a1 := by kernel_rfl
set_option maxRecDepth 100000 in
theorem laws_szStringS.eq16 (k : Nat) (x0 : List ByteArray) (x1 : Int) (x5 : Int) : fromPt Tryd.prog laws_szStringS.E k laws_szStringS.a (laws_szStringS.G k) 1000 (bodyOf Tryd.prog 5) 16 [.con .str x0, .v (.int .i64 x1), .v (.int .i64 x5)] [] = laws_szStringS.p16 (k + 1) x0 x1 x5 := by kernel_rfl
theorem laws_szStringS.G16_0 {avs : List AV} {H : List HE} : laws_szStringS.G16 0 avs H = none := by unfold laws_szStringS.G16; split <;> rfl
theorem laws_szStringS.G16_s (k : Nat) {avs : List AV} {H : List HE} {x : Int} (h : laws_szStringS.G16 (k + 1) avs H = some x) : fromPt Tryd.prog laws_szStringS.E k laws_szStringS.a (laws_szStringS.G k) 1000 (bodyOf Tryd.prog 5) 16 avs H = some x := by
  unfold laws_szStringS.G16 at h
  split at h
  · rw [← h]; exact laws_szStringS.eq16 _ _ _ _
  · cases h
theorem laws_szStringS.E_ok : EnvOk Tryd.prog laws_szStringS.E := trivial
theorem laws_szStringS.sound : Sound Tryd.prog 5 laws_szStringS.s := by
  refine func_sound (f := laws_szStringS.a) (G := laws_szStringS.G) (fn := Tryd.f5) (body := bodyOf Tryd.prog 5) 1000 (by kernel_rfl) laws_szStringS.E_ok Tryd.func5 (by kernel_rfl) (by kernel_rfl) (by kernel_rfl) (ptsOk_of (by kernel_rfl)) ?_ ?_ ?_ ?_
  · intro r H x h
    unfold laws_szStringS.a at h
    simp only at h
    split at h
    · cases h; rfl
    · cases h
  · exact fun q avs H => pick1_none laws_szStringS.G16_0 (rfl)
  · intro k q pt avs H x _ h
    rcases pick1_some h with ⟨rfl, h⟩ | h
    · exact laws_szStringS.G16_s _ h
    cases h
  · intro k avs H o h
    try dsimp only at h
    split at h
    · cases h; exact laws_szStringS.eq _ _ _
    · cases h

def laws_szInt64S.a : FnA (Int) := ⟨12, [.tmp 4], .val, [], [], fun x H => match x, H with
  | .v (.int .i64 r), [] => some r
  | _, _ => none⟩
def laws_szInt64S.s : Spec := mkS [.con (.int .i64), .val] (fun k avs H => match avs, H with
  | [.con (.int .i64) a0, .v (.int .i64 a1)], [] => some (laws_szInt64S.f a0 a1)
  | _, _ => none) (fun r => (.v (.int .i64 r), []))
def laws_szInt64S.E : Env := []
def laws_szInt64S.G (k p : Nat) (avs : List AV) (H : List HE) : Option (Int) := none
set_option maxRecDepth 100000 in
theorem laws_szInt64S.eq (k : Nat) (a0 : List Int) (a1 : Int) : fromTop Tryd.prog laws_szInt64S.E k laws_szInt64S.a (laws_szInt64S.G k) 1000 (bodyOf Tryd.prog 20) [.con (.int .i64) a0, .v (.int .i64 a1)] [] = laws_szInt64S.f a0 a1 := by kernel_rfl
theorem laws_szInt64S.E_ok : EnvOk Tryd.prog laws_szInt64S.E := trivial
theorem laws_szInt64S.sound : Sound Tryd.prog 20 laws_szInt64S.s := by
  refine func_sound (f := laws_szInt64S.a) (G := laws_szInt64S.G) (fn := Tryd.f20) (body := bodyOf Tryd.prog 20) 1000 (by kernel_rfl) laws_szInt64S.E_ok Tryd.func20 (by kernel_rfl) (by kernel_rfl) (by kernel_rfl) (ptsOk_of (by kernel_rfl)) ?_ ?_ ?_ ?_
  · intro r H x h
    unfold laws_szInt64S.a at h
    simp only at h
    split at h
    · cases h; rfl
    · cases h
  · intro q avs H; rfl
  · intro k q pt avs H x _ h; cases h
  · intro k avs H o h
    try dsimp only at h
    split at h
    · cases h; exact laws_szInt64S.eq _ _ _
    · cases h

def laws_szObj.a : FnA (Int) := ⟨12, [.tmp 4], .val, [], [], fun x H => match x, H with
  | .v (.int .i64 r), [] => some r
  | _, _ => none⟩
def laws_szObj.s : Spec := mkS [.agg [.val, .con (.int .i64)], .val] (fun k avs H => match avs, H with
  | [.agg [.v (.int .i64 a0_0), .con (.int .i64) a0_1], .v (.int .i64 a1)], [] => some (laws_szObj.f a0_0 a0_1 a1)
  | _, _ => none) (fun r => (.v (.int .i64 r), []))
def laws_szObj.E : Env := [((20, []), laws_szInt64S.s)]
def laws_szObj.G (k p : Nat) (avs : List AV) (H : List HE) : Option (Int) := none
set_option maxRecDepth 100000 in
theorem laws_szObj.eq (k : Nat) (a0_0 : Int) (a0_1 : List Int) (a1 : Int) : fromTop Tryd.prog laws_szObj.E k laws_szObj.a (laws_szObj.G k) 1000 (bodyOf Tryd.prog 42) [.agg [.v (.int .i64 a0_0), .con (.int .i64) a0_1], .v (.int .i64 a1)] [] = laws_szObj.f a0_0 a0_1 a1 := by kernel_rfl
theorem laws_szObj.E_ok : EnvOk Tryd.prog laws_szObj.E := ⟨⟨laws_szInt64S.sound, callable_of (by kernel_rfl)⟩, trivial⟩
theorem laws_szObj.sound : Sound Tryd.prog 42 laws_szObj.s := by
  refine func_sound (f := laws_szObj.a) (G := laws_szObj.G) (fn := Tryd.f42) (body := bodyOf Tryd.prog 42) 1000 (by kernel_rfl) laws_szObj.E_ok Tryd.func42 (by kernel_rfl) (by kernel_rfl) (by kernel_rfl) (ptsOk_of (by kernel_rfl)) ?_ ?_ ?_ ?_
  · intro r H x h
    unfold laws_szObj.a at h
    simp only at h
    split at h
    · cases h; rfl
    · cases h
  · intro q avs H; rfl
  · intro k q pt avs H x _ h; cases h
  · intro k avs H o h
    try dsimp only at h
    split at h
    · cases h; exact laws_szObj.eq _ _ _ _
    · cases h

def laws_szObjS.a : FnA (Int) := ⟨27, [.tmp 4], .val, [], [⟨16, [0, 1, 5], [.con (.pair (.int .i64) (.sl (.int .i64))), .val, .val], []⟩], fun x H => match x, H with
  | .v (.int .i64 r), [] => some r
  | _, _ => none⟩
def laws_szObjS.s : Spec := mkS [.con (.pair (.int .i64) (.sl (.int .i64))), .val] (fun k avs H => match avs, H with
  | [.con (.pair (.int .i64) (.sl (.int .i64))) a0, .v (.int .i64 a1)], [] => some (laws_szObjS.f k a0 a1)
  | _, _ => none) (fun r => (.v (.int .i64 r), []))
def laws_szObjS.E : Env := [((42, []), laws_szObj.s)]
def laws_szObjS.G16 (k : Nat) (avs : List AV) (H : List HE) : Option (Int) := match avs, H with
  | [.con (.pair (.int .i64) (.sl (.int .i64))) x0, .v (.int .i64 x1), .v (.int .i64 x5)], [] => laws_szObjS.p16 k x0 x1 x5
  | _, _ => none
def laws_szObjS.G (k p : Nat) (avs : List AV) (H : List HE) : Option (Int) := (pick1 16 (laws_szObjS.G16 k avs H) none p)
set_option maxRecDepth 100000 in
theorem laws_szObjS.eq (k : Nat) (a0 : List (Int × List Int)) (a1 : Int) : fromTop Tryd.prog laws_szObjS.E k laws_szObjS.a (laws_szObjS.G k) 1000 (bodyOf Tryd.prog 21) [.con (.pair (.int .i64) (.sl (.int .i64))) a0, .v (.int .i64 a1)] [] = laws_szObjS.f k a0 a1 := by kernel_rfl
set_option maxRecDepth 100000 in
theorem laws_szObjS.eq16 (k : Nat) (x0 : List (Int × List Int)) (x1 : Int) (x5 : Int) : fromPt Tryd.prog laws_szObjS.E k laws_szObjS.a (laws_szObjS.G k) 1000 (bodyOf Tryd.prog 21) 16 [.con (.pair (.int .i64) (.sl (.int .i64))) x0, .v (.int .i64 x1), .v (.int .i64 x5)] [] = laws_szObjS.p16 (k + 1) x0 x1 x5 := by kernel_rfl
theorem laws_szObjS.G16_0 {avs : List AV} {H : List HE} : laws_szObjS.G16 0 avs H = none := by unfold laws_szObjS.G16; split <;> rfl
theorem laws_szObjS.G16_s (k : Nat) {avs : List AV} {H : List HE} {x : Int} (h : laws_szObjS.G16 (k + 1) avs H = some x) : fromPt Tryd.prog laws_szObjS.E k laws_szObjS.a (laws_szObjS.G k) 1000 (bodyOf Tryd.prog 21) 16 avs H = some x := by
  unfold laws_szObjS.G16 at h
  split at h
  · rw [← h]; exact laws_szObjS.eq16 _ _ _ _
  · cases h
theorem laws_szObjS.E_ok : EnvOk Tryd.prog laws_szObjS.E := ⟨⟨laws_szObj.sound, callable_of (by kernel_rfl)⟩, trivial⟩
theorem laws_szObjS.sound : Sound Tryd.prog 21 laws_szObjS.s := by
  refine func_sound (f := laws_szObjS.a) (G := laws_szObjS.G) (fn := Tryd.f21) (body := bodyOf Tryd.prog 21) 1000 (by kernel_rfl) laws_szObjS.E_ok Tryd.func21 (by kernel_rfl) (by kernel_rfl) (by kernel_rfl) (ptsOk_of (by kernel_rfl)) ?_ ?_ ?_ ?_
  · intro r H x h
    unfold laws_szObjS.a at h
    simp only at h
    split at h
    · cases h; rfl
    · cases h
  · exact fun q avs H => pick1_none laws_szObjS.G16_0 (rfl)
  · intro k q pt avs H x _ h
    rcases pick1_some h with ⟨rfl, h⟩ | h
    · exact laws_szObjS.G16_s _ h
    cases h
  · intro k avs H o h
    try dsimp only at h
    split at h
    · cases h; exact laws_szObjS.eq _ _ _
    · cases h

def laws_szGraph.a : FnA (Int) := ⟨18, [.tmp 4], .val, [], [], fun x H => match x, H with
  | .v (.int .i64 r), [] => some r
  | _, _ => none⟩
def laws_szGraph.s : Spec := mkS [.agg [.con (.int .i64), .con (.pair (.int .i64) (.sl (.int .i64)))], .val] (fun k avs H => match avs, H with
  | [.agg [.con (.int .i64) a0_0, .con (.pair (.int .i64) (.sl (.int .i64))) a0_1], .v (.int .i64 a1)], [] => some (laws_szGraph.f k a0_0 a0_1 a1)
  | _, _ => none) (fun r => (.v (.int .i64 r), []))
def laws_szGraph.E : Env := [((20, []), laws_szInt64S.s), ((21, []), laws_szObjS.s)]
def laws_szGraph.G (k p : Nat) (avs : List AV) (H : List HE) : Option (Int) := none
set_option maxRecDepth 100000 in
theorem laws_szGraph.eq (k : Nat) (a0_0 : List Int) (a0_1 : List (Int × List Int)) (a1 : Int) : fromTop Tryd.prog laws_szGraph.E k laws_szGraph.a (laws_szGraph.G k) 1000 (bodyOf Tryd.prog 6) [.agg [.con (.int .i64) a0_0, .con (.pair (.int .i64) (.sl (.int .i64))) a0_1], .v (.int .i64 a1)] [] = laws_szGraph.f k a0_0 a0_1 a1 := by kernel_rfl
theorem laws_szGraph.E_ok : EnvOk Tryd.prog laws_szGraph.E := ⟨⟨laws_szInt64S.sound, callable_of (by kernel_rfl)⟩, ⟨laws_szObjS.sound, callable_of (by kernel_rfl)⟩, trivial⟩
theorem laws_szGraph.sound : Sound Tryd.prog 6 laws_szGraph.s := by
  refine func_sound (f := laws_szGraph.a) (G := laws_szGraph.G) (fn := Tryd.f6) (body := bodyOf Tryd.prog 6) 1000 (by kernel_rfl) laws_szGraph.E_ok Tryd.func6 (by kernel_rfl) (by kernel_rfl) (by kernel_rfl) (ptsOk_of (by kernel_rfl)) ?_ ?_ ?_ ?_
  · intro r H x h
    unfold laws_szGraph.a at h
    simp only at h
    split at h
    · cases h; rfl
    · cases h
  · intro q avs H; rfl
  · intro k q pt avs H x _ h; cases h
  · intro k avs H o h
    try dsimp only at h
    split at h
    · cases h; exact laws_szGraph.eq _ _ _ _
    · cases h

def laws_toStringS.a : FnA (List ByteArray) := ⟨22, [.tmp 2], .row 9 .str, [], [⟨8, [0, 3, 4], [.con .str, .row 9 .str, .val], []⟩], fun x H => match x, H with
  | .own 0, [.row 9 .str r] => some r
  | _, _ => none⟩
def laws_toStringS.s : Spec := mkS [.con .str] (fun k avs H => match avs, H with
  | [.con .str a0], [] => some (laws_toStringS.f k a0)
  | _, _ => none) (fun r => (.own 0, [.row 9 .str r]))
def laws_toStringS.E : Env := []
def laws_toStringS.G8 (k : Nat) (avs : List AV) (H : List HE) : Option (List ByteArray) := match avs, H with
  | [.con .str x0, .own 0, .v (.int .i64 x4)], [.row 9 .str x3] => laws_toStringS.p8 k x0 x3 x4
  | _, _ => none
def laws_toStringS.G (k p : Nat) (avs : List AV) (H : List HE) : Option (List ByteArray) := (pick1 8 (laws_toStringS.G8 k avs H) none p)
set_option maxRecDepth 100000 in
theorem laws_toStringS.eq (k : Nat) (a0 : List ByteArray) : fromTop Tryd.prog laws_toStringS.E k laws_toStringS.a (laws_toStringS.G k) 1000 (bodyOf Tryd.prog 8) [.con .str a0] [] = laws_toStringS.f k a0 := by kernel_rfl
set_option maxRecDepth 100000 in
theorem laws_toStringS.eq8 (k : Nat) (x0 : List ByteArray) (x3 : List ByteArray) (x4 : Int) : fromPt Tryd.prog laws_toStringS.E k laws_toStringS.a (laws_toStringS.G k) 1000 (bodyOf Tryd.prog 8) 8 [.con .str x0, .own 0, .v (.int .i64 x4)] [.row 9 .str x3] = laws_toStringS.p8 (k + 1) x0 x3 x4 := by kernel_rfl
theorem laws_toStringS.G8_0 {avs : List AV} {H : List HE} : laws_toStringS.G8 0 avs H = none := by unfold laws_toStringS.G8; split <;> rfl
theorem laws_toStringS.G8_s (k : Nat) {avs : List AV} {H : List HE} {x : List ByteArray} (h : laws_toStringS.G8 (k + 1) avs H = some x) : fromPt Tryd.prog laws_toStringS.E k laws_toStringS.a (laws_toStringS.G k) 1000 (bodyOf Tryd.prog 8) 8 avs H = some x := by
  unfold laws_toStringS.G8 at h
  split at h
  · rw [← h]; exact laws_toStringS.eq8 _ _ _ _
  · cases h
theorem laws_toStringS.E_ok : EnvOk Tryd.prog laws_toStringS.E := trivial
theorem laws_toStringS.sound : Sound Tryd.prog 8 laws_toStringS.s := by
  refine func_sound (f := laws_toStringS.a) (G := laws_toStringS.G) (fn := Tryd.f8) (body := bodyOf Tryd.prog 8) 1000 (by kernel_rfl) laws_toStringS.E_ok Tryd.func8 (by kernel_rfl) (by kernel_rfl) (by kernel_rfl) (ptsOk_of (by kernel_rfl)) ?_ ?_ ?_ ?_
  · intro r H x h
    unfold laws_toStringS.a at h
    simp only at h
    split at h
    · cases h; rfl
    · cases h
  · exact fun q avs H => pick1_none laws_toStringS.G8_0 (rfl)
  · intro k q pt avs H x _ h
    rcases pick1_some h with ⟨rfl, h⟩ | h
    · exact laws_toStringS.G8_s _ h
    cases h
  · intro k avs H o h
    try dsimp only at h
    split at h
    · cases h; exact laws_toStringS.eq _ _
    · cases h

def laws_toInt64S.a : FnA (List Int) := ⟨22, [.tmp 2], .row 2 (.int .i64), [], [⟨8, [0, 3, 4], [.con (.int .i64), .row 2 (.int .i64), .val], []⟩], fun x H => match x, H with
  | .own 0, [.row 2 (.int .i64) r] => some r
  | _, _ => none⟩
def laws_toInt64S.s : Spec := mkS [.con (.int .i64)] (fun k avs H => match avs, H with
  | [.con (.int .i64) a0], [] => some (laws_toInt64S.f k a0)
  | _, _ => none) (fun r => (.own 0, [.row 2 (.int .i64) r]))
def laws_toInt64S.E : Env := []
def laws_toInt64S.G8 (k : Nat) (avs : List AV) (H : List HE) : Option (List Int) := match avs, H with
  | [.con (.int .i64) x0, .own 0, .v (.int .i64 x4)], [.row 2 (.int .i64) x3] => laws_toInt64S.p8 k x0 x3 x4
  | _, _ => none
def laws_toInt64S.G (k p : Nat) (avs : List AV) (H : List HE) : Option (List Int) := (pick1 8 (laws_toInt64S.G8 k avs H) none p)
set_option maxRecDepth 100000 in
theorem laws_toInt64S.eq (k : Nat) (a0 : List Int) : fromTop Tryd.prog laws_toInt64S.E k laws_toInt64S.a (laws_toInt64S.G k) 1000 (bodyOf Tryd.prog 25) [.con (.int .i64) a0] [] = laws_toInt64S.f k a0 := by kernel_rfl
set_option maxRecDepth 100000 in
theorem laws_toInt64S.eq8 (k : Nat) (x0 : List Int) (x3 : List Int) (x4 : Int) : fromPt Tryd.prog laws_toInt64S.E k laws_toInt64S.a (laws_toInt64S.G k) 1000 (bodyOf Tryd.prog 25) 8 [.con (.int .i64) x0, .own 0, .v (.int .i64 x4)] [.row 2 (.int .i64) x3] = laws_toInt64S.p8 (k + 1) x0 x3 x4 := by kernel_rfl
theorem laws_toInt64S.G8_0 {avs : List AV} {H : List HE} : laws_toInt64S.G8 0 avs H = none := by unfold laws_toInt64S.G8; split <;> rfl
theorem laws_toInt64S.G8_s (k : Nat) {avs : List AV} {H : List HE} {x : List Int} (h : laws_toInt64S.G8 (k + 1) avs H = some x) : fromPt Tryd.prog laws_toInt64S.E k laws_toInt64S.a (laws_toInt64S.G k) 1000 (bodyOf Tryd.prog 25) 8 avs H = some x := by
  unfold laws_toInt64S.G8 at h
  split at h
  · rw [← h]; exact laws_toInt64S.eq8 _ _ _ _
  · cases h
theorem laws_toInt64S.E_ok : EnvOk Tryd.prog laws_toInt64S.E := trivial
theorem laws_toInt64S.sound : Sound Tryd.prog 25 laws_toInt64S.s := by
  refine func_sound (f := laws_toInt64S.a) (G := laws_toInt64S.G) (fn := Tryd.f25) (body := bodyOf Tryd.prog 25) 1000 (by kernel_rfl) laws_toInt64S.E_ok Tryd.func25 (by kernel_rfl) (by kernel_rfl) (by kernel_rfl) (ptsOk_of (by kernel_rfl)) ?_ ?_ ?_ ?_
  · intro r H x h
    unfold laws_toInt64S.a at h
    simp only at h
    split at h
    · cases h; rfl
    · cases h
  · exact fun q avs H => pick1_none laws_toInt64S.G8_0 (rfl)
  · intro k q pt avs H x _ h
    rcases pick1_some h with ⟨rfl, h⟩ | h
    · exact laws_toInt64S.G8_s _ h
    cases h
  · intro k avs H o h
    try dsimp only at h
    split at h
    · cases h; exact laws_toInt64S.eq _ _
    · cases h

def laws_toObj.a : FnA (Int × List Int) := ⟨12, [.cell 2 45], .agg [.val, .row 2 (.int .i64)], [], [], fun x H => match x, H with
  | .agg [.v (.int .i64 r_0), .own 0], [.row 2 (.int .i64) r_1] => some (r_0, r_1)
  | _, _ => none⟩
def laws_toObj.s : Spec := mkS [.agg [.val, .con (.int .i64)]] (fun k avs H => match avs, H with
  | [.agg [.v (.int .i64 a0_0), .con (.int .i64) a0_1]], [] => some (laws_toObj.f k a0_0 a0_1)
  | _, _ => none) (fun r => (.agg [.v (.int .i64 r.1), .own 0], [.row 2 (.int .i64) r.2]))
def laws_toObj.E : Env := [((25, []), laws_toInt64S.s)]
def laws_toObj.G (k p : Nat) (avs : List AV) (H : List HE) : Option (Int × List Int) := none
set_option maxRecDepth 100000 in
theorem laws_toObj.eq (k : Nat) (a0_0 : Int) (a0_1 : List Int) : fromTop Tryd.prog laws_toObj.E k laws_toObj.a (laws_toObj.G k) 1000 (bodyOf Tryd.prog 45) [.agg [.v (.int .i64 a0_0), .con (.int .i64) a0_1]] [] = laws_toObj.f k a0_0 a0_1 := by kernel_rfl
theorem laws_toObj.E_ok : EnvOk Tryd.prog laws_toObj.E := ⟨⟨laws_toInt64S.sound, callable_of (by kernel_rfl)⟩, trivial⟩
theorem laws_toObj.sound : Sound Tryd.prog 45 laws_toObj.s := by
  refine func_sound (f := laws_toObj.a) (G := laws_toObj.G) (fn := Tryd.f45) (body := bodyOf Tryd.prog 45) 1000 (by kernel_rfl) laws_toObj.E_ok Tryd.func45 (by kernel_rfl) (by kernel_rfl) (by kernel_rfl) (ptsOk_of (by kernel_rfl)) ?_ ?_ ?_ ?_
  · intro r H x h
    unfold laws_toObj.a at h
    simp only at h
    split at h
    · cases h; rfl
    · cases h
  · intro q avs H; rfl
  · intro k q pt avs H x _ h; cases h
  · intro k avs H o h
    try dsimp only at h
    split at h
    · cases h; exact laws_toObj.eq _ _ _
    · cases h

def laws_toObjS.a : FnA (List (Int × List Int)) := ⟨23, [.tmp 2], .row 45 (.pair (.int .i64) (.sl (.int .i64))), [], [⟨8, [0, 3, 4], [.con (.pair (.int .i64) (.sl (.int .i64))), .row 45 (.pair (.int .i64) (.sl (.int .i64))), .val], []⟩], fun x H => match x, H with
  | .own 0, [.tre 45 2 (.pair (.int .i64) (.sl (.int .i64))) r none] => some r
  | _, _ => none⟩
def laws_toObjS.s : Spec := mkS [.con (.pair (.int .i64) (.sl (.int .i64)))] (fun k avs H => match avs, H with
  | [.con (.pair (.int .i64) (.sl (.int .i64))) a0], [] => some (laws_toObjS.f k a0)
  | _, _ => none) (fun r => (.own 0, [.tre 45 2 (.pair (.int .i64) (.sl (.int .i64))) r none]))
def laws_toObjS.E : Env := [((45, []), laws_toObj.s)]
def laws_toObjS.G8 (k : Nat) (avs : List AV) (H : List HE) : Option (List (Int × List Int)) := match avs, H with
  | [.con (.pair (.int .i64) (.sl (.int .i64))) x0, .own 0, .v (.int .i64 x4)], [.tre 45 2 (.pair (.int .i64) (.sl (.int .i64))) x3 none] => laws_toObjS.p8 k x0 x3 x4
  | _, _ => none
def laws_toObjS.G (k p : Nat) (avs : List AV) (H : List HE) : Option (List (Int × List Int)) := (pick1 8 (laws_toObjS.G8 k avs H) none p)
set_option maxRecDepth 100000 in
theorem laws_toObjS.eq (k : Nat) (a0 : List (Int × List Int)) : fromTop Tryd.prog laws_toObjS.E k laws_toObjS.a (laws_toObjS.G k) 1000 (bodyOf Tryd.prog 26) [.con (.pair (.int .i64) (.sl (.int .i64))) a0] [] = laws_toObjS.f k a0 := by kernel_rfl
set_option maxRecDepth 100000 in
theorem laws_toObjS.eq8 (k : Nat) (x0 : List (Int × List Int)) (x3 : List (Int × List Int)) (x4 : Int) : fromPt Tryd.prog laws_toObjS.E k laws_toObjS.a (laws_toObjS.G k) 1000 (bodyOf Tryd.prog 26) 8 [.con (.pair (.int .i64) (.sl (.int .i64))) x0, .own 0, .v (.int .i64 x4)] [.tre 45 2 (.pair (.int .i64) (.sl (.int .i64))) x3 none] = laws_toObjS.p8 (k + 1) x0 x3 x4 := by kernel_rfl
theorem laws_toObjS.G8_0 {avs : List AV} {H : List HE} : laws_toObjS.G8 0 avs H = none := by unfold laws_toObjS.G8; split <;> rfl
theorem laws_toObjS.G8_s (k : Nat) {avs : List AV} {H : List HE} {x : List (Int × List Int)} (h : laws_toObjS.G8 (k + 1) avs H = some x) : fromPt Tryd.prog laws_toObjS.E k laws_toObjS.a (laws_toObjS.G k) 1000 (bodyOf Tryd.prog 26) 8 avs H = some x := by
  unfold laws_toObjS.G8 at h
  split at h
  · rw [← h]; exact laws_toObjS.eq8 _ _ _ _
  · cases h
theorem laws_toObjS.E_ok : EnvOk Tryd.prog laws_toObjS.E := ⟨⟨laws_toObj.sound, callable_of (by kernel_rfl)⟩, trivial⟩
theorem laws_toObjS.sound : Sound Tryd.prog 26 laws_toObjS.s := by
  refine func_sound (f := laws_toObjS.a) (G := laws_toObjS.G) (fn := Tryd.f26) (body := bodyOf Tryd.prog 26) 1000 (by kernel_rfl) laws_toObjS.E_ok Tryd.func26 (by kernel_rfl) (by kernel_rfl) (by kernel_rfl) (ptsOk_of (by kernel_rfl)) ?_ ?_ ?_ ?_
  · intro r H x h
    unfold laws_toObjS.a at h
    simp only at h
    split at h
    · cases h; rfl
    · cases h
  · exact fun q avs H => pick1_none laws_toObjS.G8_0 (rfl)
  · intro k q pt avs H x _ h
    rcases pick1_some h with ⟨rfl, h⟩ | h
    · exact laws_toObjS.G8_s _ h
    cases h
  · intro k avs H o h
    try dsimp only at h
    split at h
    · cases h; exact laws_toObjS.eq _ _
    · cases h

def laws_toGraph.a : FnA (List Int × List (Int × List Int)) := ⟨13, [.cell 2 33], .agg [.row 2 (.int .i64), .row 45 (.pair (.int .i64) (.sl (.int .i64)))], [], [], fun x H => match x, H with
  | .agg [.own 0, .own 1], [.row 2 (.int .i64) r_0, .tre 45 2 (.pair (.int .i64) (.sl (.int .i64))) r_1 none] => some (r_0, r_1)
  | _, _ => none⟩
def laws_toGraph.s : Spec := mkS [.agg [.con (.int .i64), .con (.pair (.int .i64) (.sl (.int .i64)))]] (fun k avs H => match avs, H with
  | [.agg [.con (.int .i64) a0_0, .con (.pair (.int .i64) (.sl (.int .i64))) a0_1]], [] => some (laws_toGraph.f k a0_0 a0_1)
  | _, _ => none) (fun r => (.agg [.own 0, .own 1], [.row 2 (.int .i64) r.1, .tre 45 2 (.pair (.int .i64) (.sl (.int .i64))) r.2 none]))
def laws_toGraph.E : Env := [((25, []), laws_toInt64S.s), ((26, []), laws_toObjS.s)]
def laws_toGraph.G (k p : Nat) (avs : List AV) (H : List HE) : Option (List Int × List (Int × List Int)) := none
set_option maxRecDepth 100000 in
theorem laws_toGraph.eq (k : Nat) (a0_0 : List Int) (a0_1 : List (Int × List Int)) : fromTop Tryd.prog laws_toGraph.E k laws_toGraph.a (laws_toGraph.G k) 1000 (bodyOf Tryd.prog 9) [.agg [.con (.int .i64) a0_0, .con (.pair (.int .i64) (.sl (.int .i64))) a0_1]] [] = laws_toGraph.f k a0_0 a0_1 := by kernel_rfl
theorem laws_toGraph.E_ok : EnvOk Tryd.prog laws_toGraph.E := ⟨⟨laws_toInt64S.sound, callable_of (by kernel_rfl)⟩, ⟨laws_toObjS.sound, callable_of (by kernel_rfl)⟩, trivial⟩
theorem laws_toGraph.sound : Sound Tryd.prog 9 laws_toGraph.s := by
  refine func_sound (f := laws_toGraph.a) (G := laws_toGraph.G) (fn := Tryd.f9) (body := bodyOf Tryd.prog 9) 1000 (by kernel_rfl) laws_toGraph.E_ok Tryd.func9 (by kernel_rfl) (by kernel_rfl) (by kernel_rfl) (ptsOk_of (by kernel_rfl)) ?_ ?_ ?_ ?_
  · intro r H x h
    unfold laws_toGraph.a at h
    simp only at h
    split at h
    · cases h; rfl
    · cases h
  · intro q avs H; rfl
  · intro k q pt avs H x _ h; cases h
  · intro k avs H o h
    try dsimp only at h
    split at h
    · cases h; exact laws_toGraph.eq _ _ _
    · cases h

def spec_l1In.a : FnA (Bool) := ⟨15, [.tmp 6], .bool, [], [], fun x H => match x, H with
  | .bs false r, [] => some r
  | _, _ => none⟩
def spec_l1In.s : Spec := mkS [.val, .val, .val] (fun k avs H => match avs, H with
  | [.v (.int .i64 a0), .v (.int .i64 a1), .v (.int .i64 a2)], [] => some (spec_l1In.f a0 a1 a2)
  | _, _ => none) (fun r => (.bs false r, []))
def spec_l1In.E : Env := []
def spec_l1In.G (k p : Nat) (avs : List AV) (H : List HE) : Option (Bool) := none
set_option maxRecDepth 100000 in
theorem spec_l1In.eq (k : Nat) (a0 : Int) (a1 : Int) (a2 : Int) : fromTop Tryd.prog spec_l1In.E k spec_l1In.a (spec_l1In.G k) 1000 (bodyOf Tryd.prog 23) [.v (.int .i64 a0), .v (.int .i64 a1), .v (.int .i64 a2)] [] = spec_l1In.f a0 a1 a2 := by kernel_rfl
theorem spec_l1In.E_ok : EnvOk Tryd.prog spec_l1In.E := trivial
theorem spec_l1In.sound : Sound Tryd.prog 23 spec_l1In.s := by
  refine func_sound (f := spec_l1In.a) (G := spec_l1In.G) (fn := Tryd.f23) (body := bodyOf Tryd.prog 23) 1000 (by kernel_rfl) spec_l1In.E_ok Tryd.func23 (by kernel_rfl) (by kernel_rfl) (by kernel_rfl) (ptsOk_of (by kernel_rfl)) ?_ ?_ ?_ ?_
  · intro r H x h
    unfold spec_l1In.a at h
    simp only at h
    split at h
    · cases h; rfl
    · cases h
  · intro q avs H; rfl
  · intro k q pt avs H x _ h; cases h
  · intro k avs H o h
    try dsimp only at h
    split at h
    · cases h; exact spec_l1In.eq _ _ _ _
    · cases h

def spec_l3Type.a : FnA (Bool) := ⟨23, [.tmp 2], .bool, [], [⟨6, [0, 3], [.val, .val], []⟩], fun x H => match x, H with
  | .bs false r, [] => some r
  | _, _ => none⟩
def spec_l3Type.s : Spec := mkS [.val] (fun k avs H => match avs, H with
  | [.v (.string a0)], [] => some (spec_l3Type.f k a0)
  | _, _ => none) (fun r => (.bs false r, []))
def spec_l3Type.E : Env := [((23, []), spec_l1In.s)]
def spec_l3Type.G6 (k : Nat) (avs : List AV) (H : List HE) : Option (Bool) := match avs, H with
  | [.v (.string x0), .v (.int .i64 x3)], [] => spec_l3Type.p6 k x0 x3
  | _, _ => none
def spec_l3Type.G (k p : Nat) (avs : List AV) (H : List HE) : Option (Bool) := (pick1 6 (spec_l3Type.G6 k avs H) none p)
set_option maxRecDepth 100000 in
theorem spec_l3Type.eq (k : Nat) (a0 : ByteArray) : fromTop Tryd.prog spec_l3Type.E k spec_l3Type.a (spec_l3Type.G k) 1000 (bodyOf Tryd.prog 59) [.v (.string a0)] [] = spec_l3Type.f k a0 := by kernel_rfl
set_option maxRecDepth 100000 in
theorem spec_l3Type.eq6 (k : Nat) (x0 : ByteArray) (x3 : Int) : fromPt Tryd.prog spec_l3Type.E k spec_l3Type.a (spec_l3Type.G k) 1000 (bodyOf Tryd.prog 59) 6 [.v (.string x0), .v (.int .i64 x3)] [] = spec_l3Type.p6 (k + 1) x0 x3 := by kernel_rfl
theorem spec_l3Type.G6_0 {avs : List AV} {H : List HE} : spec_l3Type.G6 0 avs H = none := by unfold spec_l3Type.G6; split <;> rfl
theorem spec_l3Type.G6_s (k : Nat) {avs : List AV} {H : List HE} {x : Bool} (h : spec_l3Type.G6 (k + 1) avs H = some x) : fromPt Tryd.prog spec_l3Type.E k spec_l3Type.a (spec_l3Type.G k) 1000 (bodyOf Tryd.prog 59) 6 avs H = some x := by
  unfold spec_l3Type.G6 at h
  split at h
  · rw [← h]; exact spec_l3Type.eq6 _ _ _
  · cases h
theorem spec_l3Type.E_ok : EnvOk Tryd.prog spec_l3Type.E := ⟨⟨spec_l1In.sound, callable_of (by kernel_rfl)⟩, trivial⟩
theorem spec_l3Type.sound : Sound Tryd.prog 59 spec_l3Type.s := by
  refine func_sound (f := spec_l3Type.a) (G := spec_l3Type.G) (fn := Tryd.f59) (body := bodyOf Tryd.prog 59) 1000 (by kernel_rfl) spec_l3Type.E_ok Tryd.func59 (by kernel_rfl) (by kernel_rfl) (by kernel_rfl) (ptsOk_of (by kernel_rfl)) ?_ ?_ ?_ ?_
  · intro r H x h
    unfold spec_l3Type.a at h
    simp only at h
    split at h
    · cases h; rfl
    · cases h
  · exact fun q avs H => pick1_none spec_l3Type.G6_0 (rfl)
  · intro k q pt avs H x _ h
    rcases pick1_some h with ⟨rfl, h⟩ | h
    · exact spec_l3Type.G6_s _ h
    cases h
  · intro k avs H o h
    try dsimp only at h
    split at h
    · cases h; exact spec_l3Type.eq _ _
    · cases h

def spec_TypesOk.a : FnA (Bool) := ⟨20, [.tmp 2], .bool, [], [⟨14, [0, 3], [.con .str, .val], []⟩], fun x H => match x, H with
  | .bs false r, [] => some r
  | _, _ => none⟩
def spec_TypesOk.s : Spec := mkS [.con .str] (fun k avs H => match avs, H with
  | [.con .str a0], [] => some (spec_TypesOk.f k a0)
  | _, _ => none) (fun r => (.bs false r, []))
def spec_TypesOk.E : Env := [((23, []), spec_l1In.s), ((59, []), spec_l3Type.s)]
def spec_TypesOk.G14 (k : Nat) (avs : List AV) (H : List HE) : Option (Bool) := match avs, H with
  | [.con .str x0, .v (.int .i64 x3)], [] => spec_TypesOk.p14 k x0 x3
  | _, _ => none
def spec_TypesOk.G (k p : Nat) (avs : List AV) (H : List HE) : Option (Bool) := (pick1 14 (spec_TypesOk.G14 k avs H) none p)
set_option maxRecDepth 100000 in
theorem spec_TypesOk.eq (k : Nat) (a0 : List ByteArray) : fromTop Tryd.prog spec_TypesOk.E k spec_TypesOk.a (spec_TypesOk.G k) 1000 (bodyOf Tryd.prog 43) [.con .str a0] [] = spec_TypesOk.f k a0 := by kernel_rfl
set_option maxRecDepth 100000 in
theorem spec_TypesOk.eq14 (k : Nat) (x0 : List ByteArray) (x3 : Int) : fromPt Tryd.prog spec_TypesOk.E k spec_TypesOk.a (spec_TypesOk.G k) 1000 (bodyOf Tryd.prog 43) 14 [.con .str x0, .v (.int .i64 x3)] [] = spec_TypesOk.p14 (k + 1) x0 x3 := by kernel_rfl
theorem spec_TypesOk.G14_0 {avs : List AV} {H : List HE} : spec_TypesOk.G14 0 avs H = none := by unfold spec_TypesOk.G14; split <;> rfl
theorem spec_TypesOk.G14_s (k : Nat) {avs : List AV} {H : List HE} {x : Bool} (h : spec_TypesOk.G14 (k + 1) avs H = some x) : fromPt Tryd.prog spec_TypesOk.E k spec_TypesOk.a (spec_TypesOk.G k) 1000 (bodyOf Tryd.prog 43) 14 avs H = some x := by
  unfold spec_TypesOk.G14 at h
  split at h
  · rw [← h]; exact spec_TypesOk.eq14 _ _ _
  · cases h
theorem spec_TypesOk.E_ok : EnvOk Tryd.prog spec_TypesOk.E := ⟨⟨spec_l1In.sound, callable_of (by kernel_rfl)⟩, ⟨spec_l3Type.sound, callable_of (by kernel_rfl)⟩, trivial⟩
theorem spec_TypesOk.sound : Sound Tryd.prog 43 spec_TypesOk.s := by
  refine func_sound (f := spec_TypesOk.a) (G := spec_TypesOk.G) (fn := Tryd.f43) (body := bodyOf Tryd.prog 43) 1000 (by kernel_rfl) spec_TypesOk.E_ok Tryd.func43 (by kernel_rfl) (by kernel_rfl) (by kernel_rfl) (ptsOk_of (by kernel_rfl)) ?_ ?_ ?_ ?_
  · intro r H x h
    unfold spec_TypesOk.a at h
    simp only at h
    split at h
    · cases h; rfl
    · cases h
  · exact fun q avs H => pick1_none spec_TypesOk.G14_0 (rfl)
  · intro k q pt avs H x _ h
    rcases pick1_some h with ⟨rfl, h⟩ | h
    · exact spec_TypesOk.G14_s _ h
    cases h
  · intro k avs H o h
    try dsimp only at h
    split at h
    · cases h; exact spec_TypesOk.eq _ _
    · cases h

def spec_GraphOk.a : FnA (Bool) := ⟨99, [.tmp 4], .bool, [], [⟨16, [0, 3, 5, 6], [.con .str, .box [.con (.int .i64), .con (.pair (.int .i64) (.sl (.int .i64)))], .val, .val], []⟩, ⟨37, [0, 3, 5, 7], [.con .str, .box [.con (.int .i64), .con (.pair (.int .i64) (.sl (.int .i64)))], .val, .val], []⟩, ⟨59, [0, 3, 5, 7, 8, 9], [.con .str, .box [.con (.int .i64), .con (.pair (.int .i64) (.sl (.int .i64)))], .val, .val, .box [.val, .con (.int .i64)], .val], []⟩], fun x H => match x, H with
  | .bs false r, [] => some r
  | _, _ => none⟩
def spec_GraphOk.s : Spec := mkS [.con .str, .agg [.con (.int .i64), .con (.pair (.int .i64) (.sl (.int .i64)))]] (fun k avs H => match avs, H with
  | [.con .str a0, .agg [.con (.int .i64) a1_0, .con (.pair (.int .i64) (.sl (.int .i64))) a1_1]], [] => some (spec_GraphOk.f k a0 a1_0 a1_1)
  | _, _ => none) (fun r => (.bs false r, []))
def spec_GraphOk.E : Env := [((43, []), spec_TypesOk.s), ((23, []), spec_l1In.s)]
def spec_GraphOk.G16 (k : Nat) (avs : List AV) (H : List HE) : Option (Bool) := match avs, H with
  | [.con .str x0, .box 0 0, .v (.int .i64 x5), .v (.int .i64 x6)], [.box [.con (.int .i64) x3_0, .con (.pair (.int .i64) (.sl (.int .i64))) x3_1]] => spec_GraphOk.p16 k x0 x3_0 x3_1 x5 x6
  | _, _ => none
def spec_GraphOk.G37 (k : Nat) (avs : List AV) (H : List HE) : Option (Bool) := match avs, H with
  | [.con .str x0, .box 0 0, .v (.int .i64 x5), .v (.int .i64 x7)], [.box [.con (.int .i64) x3_0, .con (.pair (.int .i64) (.sl (.int .i64))) x3_1]] => spec_GraphOk.p37 k x0 x3_0 x3_1 x5 x7
  | _, _ => none
def spec_GraphOk.G59 (k : Nat) (avs : List AV) (H : List HE) : Option (Bool) := match avs, H with
  | [.con .str x0, .box 0 0, .v (.int .i64 x5), .v (.int .i64 x7), .box 1 0, .v (.int .i64 x9)], [.box [.con (.int .i64) x3_0, .con (.pair (.int .i64) (.sl (.int .i64))) x3_1], .box [.v (.int .i64 x8_0), .con (.int .i64) x8_1]] => spec_GraphOk.p59 k x0 x3_0 x3_1 x5 x7 x8_0 x8_1 x9
  | _, _ => none
def spec_GraphOk.G (k p : Nat) (avs : List AV) (H : List HE) : Option (Bool) := (pick1 16 (spec_GraphOk.G16 k avs H) (pick1 37 (spec_GraphOk.G37 k avs H) (pick1 59 (spec_GraphOk.G59 k avs H) none p) p) p)
set_option maxRecDepth 100000 in
theorem spec_GraphOk.eq (k : Nat) (a0 : List ByteArray) (a1_0 : List Int) (a1_1 : List (Int × List Int)) : fromTop Tryd.prog spec_GraphOk.E k spec_GraphOk.a (spec_GraphOk.G k) 1000 (bodyOf Tryd.prog 22) [.con .str a0, .agg [.con (.int .i64) a1_0, .con (.pair (.int .i64) (.sl (.int .i64))) a1_1]] [] = spec_GraphOk.f k a0 a1_0 a1_1 := by kernel_rfl
set_option maxRecDepth 100000 in
theorem spec_GraphOk.eq16 (k : Nat) (x0 : List ByteArray) (x3_0 : List Int) (x3_1 : List (Int × List Int)) (x5 : Int) (x6 : Int) : fromPt Tryd.prog spec_GraphOk.E k spec_GraphOk.a (spec_GraphOk.G k) 1000 (bodyOf Tryd.prog 22) 16 [.con .str x0, .box 0 0, .v (.int .i64 x5), .v (.int .i64 x6)] [.box [.con (.int .i64) x3_0, .con (.pair (.int .i64) (.sl (.int .i64))) x3_1]] = spec_GraphOk.p16 (k + 1) x0 x3_0 x3_1 x5 x6 := by kernel_rfl
theorem spec_GraphOk.G16_0 {avs : List AV} {H : List HE} : spec_GraphOk.G16 0 avs H = none := by unfold spec_GraphOk.G16; split <;> rfl
theorem spec_GraphOk.G16_s (k : Nat) {avs : List AV} {H : List HE} {x : Bool} (h : spec_GraphOk.G16 (k + 1) avs H = some x) : fromPt Tryd.prog spec_GraphOk.E k spec_GraphOk.a (spec_GraphOk.G k) 1000 (bodyOf Tryd.prog 22) 16 avs H = some x := by
  unfold spec_GraphOk.G16 at h
  split at h
  · rw [← h]; exact spec_GraphOk.eq16 _ _ _ _ _ _
  · cases h
set_option maxRecDepth 100000 in
theorem spec_GraphOk.eq37 (k : Nat) (x0 : List ByteArray) (x3_0 : List Int) (x3_1 : List (Int × List Int)) (x5 : Int) (x7 : Int) : fromPt Tryd.prog spec_GraphOk.E k spec_GraphOk.a (spec_GraphOk.G k) 1000 (bodyOf Tryd.prog 22) 37 [.con .str x0, .box 0 0, .v (.int .i64 x5), .v (.int .i64 x7)] [.box [.con (.int .i64) x3_0, .con (.pair (.int .i64) (.sl (.int .i64))) x3_1]] = spec_GraphOk.p37 (k + 1) x0 x3_0 x3_1 x5 x7 := by kernel_rfl
theorem spec_GraphOk.G37_0 {avs : List AV} {H : List HE} : spec_GraphOk.G37 0 avs H = none := by unfold spec_GraphOk.G37; split <;> rfl
theorem spec_GraphOk.G37_s (k : Nat) {avs : List AV} {H : List HE} {x : Bool} (h : spec_GraphOk.G37 (k + 1) avs H = some x) : fromPt Tryd.prog spec_GraphOk.E k spec_GraphOk.a (spec_GraphOk.G k) 1000 (bodyOf Tryd.prog 22) 37 avs H = some x := by
  unfold spec_GraphOk.G37 at h
  split at h
  · rw [← h]; exact spec_GraphOk.eq37 _ _ _ _ _ _
  · cases h
set_option maxRecDepth 100000 in
theorem spec_GraphOk.eq59 (k : Nat) (x0 : List ByteArray) (x3_0 : List Int) (x3_1 : List (Int × List Int)) (x5 : Int) (x7 : Int) (x8_0 : Int) (x8_1 : List Int) (x9 : Int) : fromPt Tryd.prog spec_GraphOk.E k spec_GraphOk.a (spec_GraphOk.G k) 1000 (bodyOf Tryd.prog 22) 59 [.con .str x0, .box 0 0, .v (.int .i64 x5), .v (.int .i64 x7), .box 1 0, .v (.int .i64 x9)] [.box [.con (.int .i64) x3_0, .con (.pair (.int .i64) (.sl (.int .i64))) x3_1], .box [.v (.int .i64 x8_0), .con (.int .i64) x8_1]] = spec_GraphOk.p59 (k + 1) x0 x3_0 x3_1 x5 x7 x8_0 x8_1 x9 := by kernel_rfl
theorem spec_GraphOk.G59_0 {avs : List AV} {H : List HE} : spec_GraphOk.G59 0 avs H = none := by unfold spec_GraphOk.G59; split <;> rfl
theorem spec_GraphOk.G59_s (k : Nat) {avs : List AV} {H : List HE} {x : Bool} (h : spec_GraphOk.G59 (k + 1) avs H = some x) : fromPt Tryd.prog spec_GraphOk.E k spec_GraphOk.a (spec_GraphOk.G k) 1000 (bodyOf Tryd.prog 22) 59 avs H = some x := by
  unfold spec_GraphOk.G59 at h
  split at h
  · rw [← h]; exact spec_GraphOk.eq59 _ _ _ _ _ _ _ _ _
  · cases h
theorem spec_GraphOk.E_ok : EnvOk Tryd.prog spec_GraphOk.E := ⟨⟨spec_TypesOk.sound, callable_of (by kernel_rfl)⟩, ⟨spec_l1In.sound, callable_of (by kernel_rfl)⟩, trivial⟩
theorem spec_GraphOk.sound : Sound Tryd.prog 22 spec_GraphOk.s := by
  refine func_sound (f := spec_GraphOk.a) (G := spec_GraphOk.G) (fn := Tryd.f22) (body := bodyOf Tryd.prog 22) 1000 (by kernel_rfl) spec_GraphOk.E_ok Tryd.func22 (by kernel_rfl) (by kernel_rfl) (by kernel_rfl) (ptsOk_of (by kernel_rfl)) ?_ ?_ ?_ ?_
  · intro r H x h
    unfold spec_GraphOk.a at h
    simp only at h
    split at h
    · cases h; rfl
    · cases h
  · exact fun q avs H => pick1_none spec_GraphOk.G16_0 (pick1_none spec_GraphOk.G37_0 (pick1_none spec_GraphOk.G59_0 (rfl)))
  · intro k q pt avs H x _ h
    rcases pick1_some h with ⟨rfl, h⟩ | h
    · exact spec_GraphOk.G16_s _ h
    rcases pick1_some h with ⟨rfl, h⟩ | h
    · exact spec_GraphOk.G37_s _ h
    rcases pick1_some h with ⟨rfl, h⟩ | h
    · exact spec_GraphOk.G59_s _ h
    cases h
  · intro k avs H o h
    try dsimp only at h
    split at h
    · cases h; exact spec_GraphOk.eq _ _ _ _
    · cases h

def spec_l7Found.a : FnA (List Int) := ⟨99, [.tmp 4], .row 2 (.int .i64), [], [⟨10, [0, 3, 5, 6, 7], [.con .str, .box [.con (.int .i64), .con (.pair (.int .i64) (.sl (.int .i64)))], .row 2 (.int .i64), .row 4 .bool, .val], []⟩, ⟨23, [0, 3, 5, 6, 7, 8, 39], [.con .str, .box [.con (.int .i64), .con (.pair (.int .i64) (.sl (.int .i64)))], .row 2 (.int .i64), .row 4 .bool, .val, .val, .bool], []⟩, ⟨33, [0, 3, 5, 6, 9], [.con .str, .box [.con (.int .i64), .con (.pair (.int .i64) (.sl (.int .i64)))], .row 2 (.int .i64), .row 4 .bool, .val], []⟩, ⟨47, [0, 3, 5, 6, 9, 10, 11], [.con .str, .box [.con (.int .i64), .con (.pair (.int .i64) (.sl (.int .i64)))], .row 2 (.int .i64), .row 4 .bool, .val, .box [.val, .con (.int .i64)], .val], []⟩, ⟨66, [0, 3, 5, 6, 9, 10, 11, 12, 90], [.con .str, .box [.con (.int .i64), .con (.pair (.int .i64) (.sl (.int .i64)))], .row 2 (.int .i64), .row 4 .bool, .val, .box [.val, .con (.int .i64)], .val, .val, .bool], []⟩], fun x H => match x, H with
  | .own 0, [.row 2 (.int .i64) r] => some r
  | _, _ => none⟩
def spec_l7Found.s : Spec := mkS [.con .str, .agg [.con (.int .i64), .con (.pair (.int .i64) (.sl (.int .i64)))]] (fun k avs H => match avs, H with
  | [.con .str a0, .agg [.con (.int .i64) a1_0, .con (.pair (.int .i64) (.sl (.int .i64))) a1_1]], [] => some (spec_l7Found.f k a0 a1_0 a1_1)
  | _, _ => none) (fun r => (.own 0, [.row 2 (.int .i64) r]))
def spec_l7Found.E : Env := []
def spec_l7Found.G10 (k : Nat) (avs : List AV) (H : List HE) : Option (List Int) := match avs, H with
  | [.con .str x0, .box 0 0, .own 1, .own 2, .v (.int .i64 x7)], [.box [.con (.int .i64) x3_0, .con (.pair (.int .i64) (.sl (.int .i64))) x3_1], .row 2 (.int .i64) x5, .row 4 .bool x6] => spec_l7Found.p10 k x0 x3_0 x3_1 x5 x6 x7
  | _, _ => none
def spec_l7Found.G23 (k : Nat) (avs : List AV) (H : List HE) : Option (List Int) := match avs, H with
  | [.con .str x0, .box 0 0, .own 1, .own 2, .v (.int .i64 x7), .v (.int .i64 x8), .bs false x39], [.box [.con (.int .i64) x3_0, .con (.pair (.int .i64) (.sl (.int .i64))) x3_1], .row 2 (.int .i64) x5, .row 4 .bool x6] => spec_l7Found.p23 k x0 x3_0 x3_1 x5 x6 x7 x8 x39
  | _, _ => none
def spec_l7Found.G33 (k : Nat) (avs : List AV) (H : List HE) : Option (List Int) := match avs, H with
  | [.con .str x0, .box 0 0, .own 1, .own 2, .v (.int .i64 x9)], [.box [.con (.int .i64) x3_0, .con (.pair (.int .i64) (.sl (.int .i64))) x3_1], .row 2 (.int .i64) x5, .row 4 .bool x6] => spec_l7Found.p33 k x0 x3_0 x3_1 x5 x6 x9
  | _, _ => none
def spec_l7Found.G47 (k : Nat) (avs : List AV) (H : List HE) : Option (List Int) := match avs, H with
  | [.con .str x0, .box 0 0, .own 1, .own 2, .v (.int .i64 x9), .box 3 0, .v (.int .i64 x11)], [.box [.con (.int .i64) x3_0, .con (.pair (.int .i64) (.sl (.int .i64))) x3_1], .row 2 (.int .i64) x5, .row 4 .bool x6, .box [.v (.int .i64 x10_0), .con (.int .i64) x10_1]] => spec_l7Found.p47 k x0 x3_0 x3_1 x5 x6 x9 x10_0 x10_1 x11
  | _, _ => none
def spec_l7Found.G66 (k : Nat) (avs : List AV) (H : List HE) : Option (List Int) := match avs, H with
  | [.con .str x0, .box 0 0, .own 1, .own 2, .v (.int .i64 x9), .box 3 0, .v (.int .i64 x11), .v (.int .i64 x12), .bs false x90], [.box [.con (.int .i64) x3_0, .con (.pair (.int .i64) (.sl (.int .i64))) x3_1], .row 2 (.int .i64) x5, .row 4 .bool x6, .box [.v (.int .i64 x10_0), .con (.int .i64) x10_1]] => spec_l7Found.p66 k x0 x3_0 x3_1 x5 x6 x9 x10_0 x10_1 x11 x12 x90
  | _, _ => none
def spec_l7Found.G (k p : Nat) (avs : List AV) (H : List HE) : Option (List Int) := (pick1 10 (spec_l7Found.G10 k avs H) (pick1 23 (spec_l7Found.G23 k avs H) (pick1 33 (spec_l7Found.G33 k avs H) (pick1 47 (spec_l7Found.G47 k avs H) (pick1 66 (spec_l7Found.G66 k avs H) none p) p) p) p) p)
set_option maxRecDepth 100000 in
theorem spec_l7Found.eq (k : Nat) (a0 : List ByteArray) (a1_0 : List Int) (a1_1 : List (Int × List Int)) : fromTop Tryd.prog spec_l7Found.E k spec_l7Found.a (spec_l7Found.G k) 1000 (bodyOf Tryd.prog 36) [.con .str a0, .agg [.con (.int .i64) a1_0, .con (.pair (.int .i64) (.sl (.int .i64))) a1_1]] [] = spec_l7Found.f k a0 a1_0 a1_1 := by kernel_rfl
set_option maxRecDepth 100000 in
theorem spec_l7Found.eq10 (k : Nat) (x0 : List ByteArray) (x3_0 : List Int) (x3_1 : List (Int × List Int)) (x5 : List Int) (x6 : List Bool) (x7 : Int) : fromPt Tryd.prog spec_l7Found.E k spec_l7Found.a (spec_l7Found.G k) 1000 (bodyOf Tryd.prog 36) 10 [.con .str x0, .box 0 0, .own 1, .own 2, .v (.int .i64 x7)] [.box [.con (.int .i64) x3_0, .con (.pair (.int .i64) (.sl (.int .i64))) x3_1], .row 2 (.int .i64) x5, .row 4 .bool x6] = spec_l7Found.p10 (k + 1) x0 x3_0 x3_1 x5 x6 x7 := by kernel_rfl
theorem spec_l7Found.G10_0 {avs : List AV} {H : List HE} : spec_l7Found.G10 0 avs H = none := by unfold spec_l7Found.G10; split <;> rfl
theorem spec_l7Found.G10_s (k : Nat) {avs : List AV} {H : List HE} {x : List Int} (h : spec_l7Found.G10 (k + 1) avs H = some x) : fromPt Tryd.prog spec_l7Found.E k spec_l7Found.a (spec_l7Found.G k) 1000 (bodyOf Tryd.prog 36) 10 avs H = some x := by
  unfold spec_l7Found.G10 at h
  split at h
  · rw [← h]; exact spec_l7Found.eq10 _ _ _ _ _ _ _
  · cases h
set_option maxRecDepth 100000 in
theorem spec_l7Found.eq23 (k : Nat) (x0 : List ByteArray) (x3_0 : List Int) (x3_1 : List (Int × List Int)) (x5 : List Int) (x6 : List Bool) (x7 : Int) (x8 : Int) (x39 : Bool) : fromPt Tryd.prog spec_l7Found.E k spec_l7Found.a (spec_l7Found.G k) 1000 (bodyOf Tryd.prog 36) 23 [.con .str x0, .box 0 0, .own 1, .own 2, .v (.int .i64 x7), .v (.int .i64 x8), .bs false x39] [.box [.con (.int .i64) x3_0, .con (.pair (.int .i64) (.sl (.int .i64))) x3_1], .row 2 (.int .i64) x5, .row 4 .bool x6] = spec_l7Found.p23 (k + 1) x0 x3_0 x3_1 x5 x6 x7 x8 x39 := by kernel_rfl
theorem spec_l7Found.G23_0 {avs : List AV} {H : List HE} : spec_l7Found.G23 0 avs H = none := by unfold spec_l7Found.G23; split <;> rfl
theorem spec_l7Found.G23_s (k : Nat) {avs : List AV} {H : List HE} {x : List Int} (h : spec_l7Found.G23 (k + 1) avs H = some x) : fromPt Tryd.prog spec_l7Found.E k spec_l7Found.a (spec_l7Found.G k) 1000 (bodyOf Tryd.prog 36) 23 avs H = some x := by
  unfold spec_l7Found.G23 at h
  split at h
  · rw [← h]; exact spec_l7Found.eq23 _ _ _ _ _ _ _ _ _
  · cases h
set_option maxRecDepth 100000 in
theorem spec_l7Found.eq33 (k : Nat) (x0 : List ByteArray) (x3_0 : List Int) (x3_1 : List (Int × List Int)) (x5 : List Int) (x6 : List Bool) (x9 : Int) : fromPt Tryd.prog spec_l7Found.E k spec_l7Found.a (spec_l7Found.G k) 1000 (bodyOf Tryd.prog 36) 33 [.con .str x0, .box 0 0, .own 1, .own 2, .v (.int .i64 x9)] [.box [.con (.int .i64) x3_0, .con (.pair (.int .i64) (.sl (.int .i64))) x3_1], .row 2 (.int .i64) x5, .row 4 .bool x6] = spec_l7Found.p33 (k + 1) x0 x3_0 x3_1 x5 x6 x9 := by kernel_rfl
theorem spec_l7Found.G33_0 {avs : List AV} {H : List HE} : spec_l7Found.G33 0 avs H = none := by unfold spec_l7Found.G33; split <;> rfl
theorem spec_l7Found.G33_s (k : Nat) {avs : List AV} {H : List HE} {x : List Int} (h : spec_l7Found.G33 (k + 1) avs H = some x) : fromPt Tryd.prog spec_l7Found.E k spec_l7Found.a (spec_l7Found.G k) 1000 (bodyOf Tryd.prog 36) 33 avs H = some x := by
  unfold spec_l7Found.G33 at h
  split at h
  · rw [← h]; exact spec_l7Found.eq33 _ _ _ _ _ _ _
  · cases h
set_option maxRecDepth 100000 in
theorem spec_l7Found.eq47 (k : Nat) (x0 : List ByteArray) (x3_0 : List Int) (x3_1 : List (Int × List Int)) (x5 : List Int) (x6 : List Bool) (x9 : Int) (x10_0 : Int) (x10_1 : List Int) (x11 : Int) : fromPt Tryd.prog spec_l7Found.E k spec_l7Found.a (spec_l7Found.G k) 1000 (bodyOf Tryd.prog 36) 47 [.con .str x0, .box 0 0, .own 1, .own 2, .v (.int .i64 x9), .box 3 0, .v (.int .i64 x11)] [.box [.con (.int .i64) x3_0, .con (.pair (.int .i64) (.sl (.int .i64))) x3_1], .row 2 (.int .i64) x5, .row 4 .bool x6, .box [.v (.int .i64 x10_0), .con (.int .i64) x10_1]] = spec_l7Found.p47 (k + 1) x0 x3_0 x3_1 x5 x6 x9 x10_0 x10_1 x11 := by kernel_rfl
theorem spec_l7Found.G47_0 {avs : List AV} {H : List HE} : spec_l7Found.G47 0 avs H = none := by unfold spec_l7Found.G47; split <;> rfl
theorem spec_l7Found.G47_s (k : Nat) {avs : List AV} {H : List HE} {x : List Int} (h : spec_l7Found.G47 (k + 1) avs H = some x) : fromPt Tryd.prog spec_l7Found.E k spec_l7Found.a (spec_l7Found.G k) 1000 (bodyOf Tryd.prog 36) 47 avs H = some x := by
  unfold spec_l7Found.G47 at h
  split at h
  · rw [← h]; exact spec_l7Found.eq47 _ _ _ _ _ _ _ _ _ _
  · cases h
set_option maxRecDepth 100000 in
theorem spec_l7Found.eq66 (k : Nat) (x0 : List ByteArray) (x3_0 : List Int) (x3_1 : List (Int × List Int)) (x5 : List Int) (x6 : List Bool) (x9 : Int) (x10_0 : Int) (x10_1 : List Int) (x11 : Int) (x12 : Int) (x90 : Bool) : fromPt Tryd.prog spec_l7Found.E k spec_l7Found.a (spec_l7Found.G k) 1000 (bodyOf Tryd.prog 36) 66 [.con .str x0, .box 0 0, .own 1, .own 2, .v (.int .i64 x9), .box 3 0, .v (.int .i64 x11), .v (.int .i64 x12), .bs false x90] [.box [.con (.int .i64) x3_0, .con (.pair (.int .i64) (.sl (.int .i64))) x3_1], .row 2 (.int .i64) x5, .row 4 .bool x6, .box [.v (.int .i64 x10_0), .con (.int .i64) x10_1]] = spec_l7Found.p66 (k + 1) x0 x3_0 x3_1 x5 x6 x9 x10_0 x10_1 x11 x12 x90 := by kernel_rfl
theorem spec_l7Found.G66_0 {avs : List AV} {H : List HE} : spec_l7Found.G66 0 avs H = none := by unfold spec_l7Found.G66; split <;> rfl
theorem spec_l7Found.G66_s (k : Nat) {avs : List AV} {H : List HE} {x : List Int} (h : spec_l7Found.G66 (k + 1) avs H = some x) : fromPt Tryd.prog spec_l7Found.E k spec_l7Found.a (spec_l7Found.G k) 1000 (bodyOf Tryd.prog 36) 66 avs H = some x := by
  unfold spec_l7Found.G66 at h
  split at h
  · rw [← h]; exact spec_l7Found.eq66 _ _ _ _ _ _ _ _ _ _ _ _
  · cases h
theorem spec_l7Found.E_ok : EnvOk Tryd.prog spec_l7Found.E := trivial
theorem spec_l7Found.sound : Sound Tryd.prog 36 spec_l7Found.s := by
  refine func_sound (f := spec_l7Found.a) (G := spec_l7Found.G) (fn := Tryd.f36) (body := bodyOf Tryd.prog 36) 1000 (by kernel_rfl) spec_l7Found.E_ok Tryd.func36 (by kernel_rfl) (by kernel_rfl) (by kernel_rfl) (ptsOk_of (by kernel_rfl)) ?_ ?_ ?_ ?_
  · intro r H x h
    unfold spec_l7Found.a at h
    simp only at h
    split at h
    · cases h; rfl
    · cases h
  · exact fun q avs H => pick1_none spec_l7Found.G10_0 (pick1_none spec_l7Found.G23_0 (pick1_none spec_l7Found.G33_0 (pick1_none spec_l7Found.G47_0 (pick1_none spec_l7Found.G66_0 (rfl)))))
  · intro k q pt avs H x _ h
    rcases pick1_some h with ⟨rfl, h⟩ | h
    · exact spec_l7Found.G10_s _ h
    rcases pick1_some h with ⟨rfl, h⟩ | h
    · exact spec_l7Found.G23_s _ h
    rcases pick1_some h with ⟨rfl, h⟩ | h
    · exact spec_l7Found.G33_s _ h
    rcases pick1_some h with ⟨rfl, h⟩ | h
    · exact spec_l7Found.G47_s _ h
    rcases pick1_some h with ⟨rfl, h⟩ | h
    · exact spec_l7Found.G66_s _ h
    cases h
  · intro k avs H o h
    try dsimp only at h
    split at h
    · cases h; exact spec_l7Found.eq _ _ _ _
    · cases h

def spec_l7Place.a : FnA (Int) := ⟨19, [.tmp 4], .val, [], [⟨6, [0, 1, 5], [.con (.int .i64), .val, .val], []⟩], fun x H => match x, H with
  | .v (.int .i64 r), [] => some r
  | _, _ => none⟩
def spec_l7Place.s : Spec := mkS [.con (.int .i64), .val] (fun k avs H => match avs, H with
  | [.con (.int .i64) a0, .v (.int .i64 a1)], [] => some (spec_l7Place.f k a0 a1)
  | _, _ => none) (fun r => (.v (.int .i64 r), []))
def spec_l7Place.E : Env := []
def spec_l7Place.G6 (k : Nat) (avs : List AV) (H : List HE) : Option (Int) := match avs, H with
  | [.con (.int .i64) x0, .v (.int .i64 x1), .v (.int .i64 x5)], [] => spec_l7Place.p6 k x0 x1 x5
  | _, _ => none
def spec_l7Place.G (k p : Nat) (avs : List AV) (H : List HE) : Option (Int) := (pick1 6 (spec_l7Place.G6 k avs H) none p)
set_option maxRecDepth 100000 in
theorem spec_l7Place.eq (k : Nat) (a0 : List Int) (a1 : Int) : fromTop Tryd.prog spec_l7Place.E k spec_l7Place.a (spec_l7Place.G k) 1000 (bodyOf Tryd.prog 37) [.con (.int .i64) a0, .v (.int .i64 a1)] [] = spec_l7Place.f k a0 a1 := by kernel_rfl
set_option maxRecDepth 100000 in
theorem spec_l7Place.eq6 (k : Nat) (x0 : List Int) (x1 : Int) (x5 : Int) : fromPt Tryd.prog spec_l7Place.E k spec_l7Place.a (spec_l7Place.G k) 1000 (bodyOf Tryd.prog 37) 6 [.con (.int .i64) x0, .v (.int .i64 x1), .v (.int .i64 x5)] [] = spec_l7Place.p6 (k + 1) x0 x1 x5 := by kernel_rfl
theorem spec_l7Place.G6_0 {avs : List AV} {H : List HE} : spec_l7Place.G6 0 avs H = none := by unfold spec_l7Place.G6; split <;> rfl
theorem spec_l7Place.G6_s (k : Nat) {avs : List AV} {H : List HE} {x : Int} (h : spec_l7Place.G6 (k + 1) avs H = some x) : fromPt Tryd.prog spec_l7Place.E k spec_l7Place.a (spec_l7Place.G k) 1000 (bodyOf Tryd.prog 37) 6 avs H = some x := by
  unfold spec_l7Place.G6 at h
  split at h
  · rw [← h]; exact spec_l7Place.eq6 _ _ _ _
  · cases h
theorem spec_l7Place.E_ok : EnvOk Tryd.prog spec_l7Place.E := trivial
theorem spec_l7Place.sound : Sound Tryd.prog 37 spec_l7Place.s := by
  refine func_sound (f := spec_l7Place.a) (G := spec_l7Place.G) (fn := Tryd.f37) (body := bodyOf Tryd.prog 37) 1000 (by kernel_rfl) spec_l7Place.E_ok Tryd.func37 (by kernel_rfl) (by kernel_rfl) (by kernel_rfl) (ptsOk_of (by kernel_rfl)) ?_ ?_ ?_ ?_
  · intro r H x h
    unfold spec_l7Place.a at h
    simp only at h
    split at h
    · cases h; rfl
    · cases h
  · exact fun q avs H => pick1_none spec_l7Place.G6_0 (rfl)
  · intro k q pt avs H x _ h
    rcases pick1_some h with ⟨rfl, h⟩ | h
    · exact spec_l7Place.G6_s _ h
    cases h
  · intro k avs H o h
    try dsimp only at h
    split at h
    · cases h; exact spec_l7Place.eq _ _ _
    · cases h

def spec_Reached.a : FnA (List Int) := ⟨32, [.tmp 4], .row 2 (.int .i64), [], [⟨18, [3, 5, 6, 7], [.box [.con (.int .i64), .con (.pair (.int .i64) (.sl (.int .i64)))], .row 2 (.int .i64), .row 2 (.int .i64), .val], []⟩], fun x H => match x, H with
  | .own 0, [.row 2 (.int .i64) r] => some r
  | _, _ => none⟩
def spec_Reached.s : Spec := mkS [.con .str, .agg [.con (.int .i64), .con (.pair (.int .i64) (.sl (.int .i64)))]] (fun k avs H => match avs, H with
  | [.con .str a0, .agg [.con (.int .i64) a1_0, .con (.pair (.int .i64) (.sl (.int .i64))) a1_1]], [] => some (spec_Reached.f k a0 a1_0 a1_1)
  | _, _ => none) (fun r => (.own 0, [.row 2 (.int .i64) r]))
def spec_Reached.E : Env := [((22, []), spec_GraphOk.s), ((36, []), spec_l7Found.s), ((37, []), spec_l7Place.s)]
def spec_Reached.G18 (k : Nat) (avs : List AV) (H : List HE) : Option (List Int) := match avs, H with
  | [.box 0 0, .own 1, .own 2, .v (.int .i64 x7)], [.box [.con (.int .i64) x3_0, .con (.pair (.int .i64) (.sl (.int .i64))) x3_1], .row 2 (.int .i64) x5, .row 2 (.int .i64) x6] => spec_Reached.p18 k x3_0 x3_1 x5 x6 x7
  | _, _ => none
def spec_Reached.G (k p : Nat) (avs : List AV) (H : List HE) : Option (List Int) := (pick1 18 (spec_Reached.G18 k avs H) none p)
set_option maxRecDepth 100000 in
theorem spec_Reached.eq (k : Nat) (a0 : List ByteArray) (a1_0 : List Int) (a1_1 : List (Int × List Int)) : fromTop Tryd.prog spec_Reached.E k spec_Reached.a (spec_Reached.G k) 1000 (bodyOf Tryd.prog 13) [.con .str a0, .agg [.con (.int .i64) a1_0, .con (.pair (.int .i64) (.sl (.int .i64))) a1_1]] [] = spec_Reached.f k a0 a1_0 a1_1 := by kernel_rfl
set_option maxRecDepth 100000 in
theorem spec_Reached.eq18 (k : Nat) (x3_0 : List Int) (x3_1 : List (Int × List Int)) (x5 : List Int) (x6 : List Int) (x7 : Int) : fromPt Tryd.prog spec_Reached.E k spec_Reached.a (spec_Reached.G k) 1000 (bodyOf Tryd.prog 13) 18 [.box 0 0, .own 1, .own 2, .v (.int .i64 x7)] [.box [.con (.int .i64) x3_0, .con (.pair (.int .i64) (.sl (.int .i64))) x3_1], .row 2 (.int .i64) x5, .row 2 (.int .i64) x6] = spec_Reached.p18 (k + 1) x3_0 x3_1 x5 x6 x7 := by kernel_rfl
theorem spec_Reached.G18_0 {avs : List AV} {H : List HE} : spec_Reached.G18 0 avs H = none := by unfold spec_Reached.G18; split <;> rfl
theorem spec_Reached.G18_s (k : Nat) {avs : List AV} {H : List HE} {x : List Int} (h : spec_Reached.G18 (k + 1) avs H = some x) : fromPt Tryd.prog spec_Reached.E k spec_Reached.a (spec_Reached.G k) 1000 (bodyOf Tryd.prog 13) 18 avs H = some x := by
  unfold spec_Reached.G18 at h
  split at h
  · rw [← h]; exact spec_Reached.eq18 _ _ _ _ _ _
  · cases h
theorem spec_Reached.E_ok : EnvOk Tryd.prog spec_Reached.E := ⟨⟨spec_GraphOk.sound, callable_of (by kernel_rfl)⟩, ⟨spec_l7Found.sound, callable_of (by kernel_rfl)⟩, ⟨spec_l7Place.sound, callable_of (by kernel_rfl)⟩, trivial⟩
theorem spec_Reached.sound : Sound Tryd.prog 13 spec_Reached.s := by
  refine func_sound (f := spec_Reached.a) (G := spec_Reached.G) (fn := Tryd.f13) (body := bodyOf Tryd.prog 13) 1000 (by kernel_rfl) spec_Reached.E_ok Tryd.func13 (by kernel_rfl) (by kernel_rfl) (by kernel_rfl) (ptsOk_of (by kernel_rfl)) ?_ ?_ ?_ ?_
  · intro r H x h
    unfold spec_Reached.a at h
    simp only at h
    split at h
    · cases h; rfl
    · cases h
  · exact fun q avs H => pick1_none spec_Reached.G18_0 (rfl)
  · intro k q pt avs H x _ h
    rcases pick1_some h with ⟨rfl, h⟩ | h
    · exact spec_Reached.G18_s _ h
    cases h
  · intro k avs H o h
    try dsimp only at h
    split at h
    · cases h; exact spec_Reached.eq _ _ _ _
    · cases h

def impl_size_string.a : FnA (Int) := ⟨5, [.tmp 2], .val, [], [], fun x H => match x, H with
  | .v (.int .i64 r), [] => some r
  | _, _ => none⟩
def impl_size_string.s : Spec := mkS [.con .str] (fun k avs H => match avs, H with
  | [.con .str a0], [] => some (impl_size_string.f a0)
  | _, _ => none) (fun r => (.v (.int .i64 r), []))
def impl_size_string.E : Env := []
def impl_size_string.G (k p : Nat) (avs : List AV) (H : List HE) : Option (Int) := none
set_option maxRecDepth 100000 in
theorem impl_size_string.eq (k : Nat) (a0 : List ByteArray) : fromTop Tryd.prog impl_size_string.E k impl_size_string.a (impl_size_string.G k) 1000 (bodyOf Tryd.prog 60) [.con .str a0] [] = impl_size_string.f a0 := by kernel_rfl
theorem impl_size_string.E_ok : EnvOk Tryd.prog impl_size_string.E := trivial
theorem impl_size_string.sound : Sound Tryd.prog 60 impl_size_string.s := by
  refine func_sound (f := impl_size_string.a) (G := impl_size_string.G) (fn := Tryd.f60) (body := bodyOf Tryd.prog 60) 1000 (by kernel_rfl) impl_size_string.E_ok Tryd.func60 (by kernel_rfl) (by kernel_rfl) (by kernel_rfl) (ptsOk_of (by kernel_rfl)) ?_ ?_ ?_ ?_
  · intro r H x h
    unfold impl_size_string.a at h
    simp only at h
    split at h
    · cases h; rfl
    · cases h
  · intro q avs H; rfl
  · intro k q pt avs H x _ h; cases h
  · intro k avs H o h
    try dsimp only at h
    split at h
    · cases h; exact impl_size_string.eq _ _
    · cases h

def impl_within.a : FnA (Bool) := ⟨15, [.tmp 6], .bool, [], [], fun x H => match x, H with
  | .bs false r, [] => some r
  | _, _ => none⟩
def impl_within.s : Spec := mkS [.val, .val, .val] (fun k avs H => match avs, H with
  | [.v (.int .i64 a0), .v (.int .i64 a1), .v (.int .i64 a2)], [] => some (impl_within.f a0 a1 a2)
  | _, _ => none) (fun r => (.bs false r, []))
def impl_within.E : Env := []
def impl_within.G (k p : Nat) (avs : List AV) (H : List HE) : Option (Bool) := none
set_option maxRecDepth 100000 in
theorem impl_within.eq (k : Nat) (a0 : Int) (a1 : Int) (a2 : Int) : fromTop Tryd.prog impl_within.E k impl_within.a (impl_within.G k) 1000 (bodyOf Tryd.prog 32) [.v (.int .i64 a0), .v (.int .i64 a1), .v (.int .i64 a2)] [] = impl_within.f a0 a1 a2 := by kernel_rfl
theorem impl_within.E_ok : EnvOk Tryd.prog impl_within.E := trivial
theorem impl_within.sound : Sound Tryd.prog 32 impl_within.s := by
  refine func_sound (f := impl_within.a) (G := impl_within.G) (fn := Tryd.f32) (body := bodyOf Tryd.prog 32) 1000 (by kernel_rfl) impl_within.E_ok Tryd.func32 (by kernel_rfl) (by kernel_rfl) (by kernel_rfl) (ptsOk_of (by kernel_rfl)) ?_ ?_ ?_ ?_
  · intro r H x h
    unfold impl_within.a at h
    simp only at h
    split at h
    · cases h; rfl
    · cases h
  · intro q avs H; rfl
  · intro k q pt avs H x _ h; cases h
  · intro k avs H o h
    try dsimp only at h
    split at h
    · cases h; exact impl_within.eq _ _ _ _
    · cases h

def strings_Trim.s : Spec := mkS [.val, .val] (fun _ avs H => match avs, H with
  | [.v (.string a0), .v (.string a1)], [] => some (strings_Trim.f a0 a1)
  | _, _ => none) (fun r => (.v (.string r), []))
theorem strings_Trim.sound : Sound Tryd.prog 80 strings_Trim.s := by
  refine sound_plain (emb := fun r => .v (.string r)) ?_
  intro k avs H o x h hx
  split at h
  case h_2 => cases h
  rename_i a0 a1
  cases h
  refine ⟨rfl, fun M w ρ hp vals hr => ?_⟩
  obtain ⟨v0, q0, rfl, rfl, v1, q1, rfl, rfl, rfl⟩ := hr
  unfold strings_Trim.f at hx
  split at hx
  case isFalse => cases hx
  rename_i h0
  split at hx
  case isFalse => cases hx
  rename_i h1
  split at hx
  case isFalse => cases hx
  rename_i h2
  cases hx
  refine (Go.Proofs.Any.strings_Trim_laid Go.Proofs.Tryd.lays160 (by kernel_rfl) a0 a1 w h0 (by omega) (Go.Proofs.ascii_of_all h2)).mono ?_
  rintro e w' ⟨rfl, hb⟩
  exact ⟨_, rfl, hb, fun _ _ _ _ => rfl⟩

def impl_isType.a : FnA (Bool) := ⟨11, [.tmp 2], .bool, [], [], fun x H => match x, H with
  | .bs false r, [] => some r
  | _, _ => none⟩
def impl_isType.s : Spec := mkS [.val] (fun k avs H => match avs, H with
  | [.v (.string a0)], [] => some (impl_isType.f a0)
  | _, _ => none) (fun r => (.bs false r, []))
def impl_isType.E : Env := [((32, []), impl_within.s), ((80, []), strings_Trim.s)]
def impl_isType.G (k p : Nat) (avs : List AV) (H : List HE) : Option (Bool) := none
set_option maxRecDepth 100000 in
theorem impl_isType.eq (k : Nat) (a0 : ByteArray) : fromTop Tryd.prog impl_isType.E k impl_isType.a (impl_isType.G k) 1000 (bodyOf Tryd.prog 63) [.v (.string a0)] [] = impl_isType.f a0 := by kernel_rfl
theorem impl_isType.E_ok : EnvOk Tryd.prog impl_isType.E := ⟨⟨impl_within.sound, callable_of (by kernel_rfl)⟩, ⟨strings_Trim.sound, callable_of (by kernel_rfl)⟩, trivial⟩
theorem impl_isType.sound : Sound Tryd.prog 63 impl_isType.s := by
  refine func_sound (f := impl_isType.a) (G := impl_isType.G) (fn := Tryd.f63) (body := bodyOf Tryd.prog 63) 1000 (by kernel_rfl) impl_isType.E_ok Tryd.func63 (by kernel_rfl) (by kernel_rfl) (by kernel_rfl) (ptsOk_of (by kernel_rfl)) ?_ ?_ ?_ ?_
  · intro r H x h
    unfold impl_isType.a at h
    simp only at h
    split at h
    · cases h; rfl
    · cases h
  · intro q avs H; rfl
  · intro k q pt avs H x _ h; cases h
  · intro k avs H o h
    try dsimp only at h
    split at h
    · cases h; exact impl_isType.eq _ _
    · cases h

def impl_TypesOk_1.a : FnA (Bool) := ⟨6, [.tmp 2], .bool, [], [], fun x H => match x, H with
  | .bs false r, [] => some r
  | _, _ => none⟩
def impl_TypesOk_1.s : Spec := mkS [.val] (fun k avs H => match avs, H with
  | [.v (.string a0)], [] => some (impl_TypesOk_1.f a0)
  | _, _ => none) (fun r => (.bs false r, []))
def impl_TypesOk_1.E : Env := [((63, []), impl_isType.s)]
def impl_TypesOk_1.G (k p : Nat) (avs : List AV) (H : List HE) : Option (Bool) := none
set_option maxRecDepth 100000 in
theorem impl_TypesOk_1.eq (k : Nat) (a0 : ByteArray) : fromTop Tryd.prog impl_TypesOk_1.E k impl_TypesOk_1.a (impl_TypesOk_1.G k) 1000 (bodyOf Tryd.prog 62) [.v (.string a0)] [] = impl_TypesOk_1.f a0 := by kernel_rfl
theorem impl_TypesOk_1.E_ok : EnvOk Tryd.prog impl_TypesOk_1.E := ⟨⟨impl_isType.sound, callable_of (by kernel_rfl)⟩, trivial⟩
theorem impl_TypesOk_1.sound : Sound Tryd.prog 62 impl_TypesOk_1.s := by
  refine func_sound (f := impl_TypesOk_1.a) (G := impl_TypesOk_1.G) (fn := Tryd.f62) (body := bodyOf Tryd.prog 62) 1000 (by kernel_rfl) impl_TypesOk_1.E_ok Tryd.func62 (by kernel_rfl) (by kernel_rfl) (by kernel_rfl) (ptsOk_of (by kernel_rfl)) ?_ ?_ ?_ ?_
  · intro r H x h
    unfold impl_TypesOk_1.a at h
    simp only at h
    split at h
    · cases h; rfl
    · cases h
  · intro q avs H; rfl
  · intro k q pt avs H x _ h; cases h
  · intro k avs H o h
    try dsimp only at h
    split at h
    · cases h; exact impl_TypesOk_1.eq _ _
    · cases h

def slices_IndexFunc_string_at_impl_TypesOk_1.a : FnA (Int) := ⟨19, [.tmp 4], .val, [], [⟨6, [0, 1, 7, 8], [.con .str, .fn 62 0 [], .val, .val], []⟩], fun x H => match x, H with
  | .v (.int .i64 r), [] => some r
  | _, _ => none⟩
def slices_IndexFunc_string_at_impl_TypesOk_1.s : Spec := mkS [.con .str, .fn 62 0 []] (fun k avs H => match avs, H with
  | [.con .str a0, .fn 62 0 []], [] => some (slices_IndexFunc_string_at_impl_TypesOk_1.f k a0)
  | _, _ => none) (fun r => (.v (.int .i64 r), []))
def slices_IndexFunc_string_at_impl_TypesOk_1.E : Env := [((62, []), impl_TypesOk_1.s)]
def slices_IndexFunc_string_at_impl_TypesOk_1.G6 (k : Nat) (avs : List AV) (H : List HE) : Option (Int) := match avs, H with
  | [.con .str x0, .fn 62 0 [], .v (.int .i64 x7), .v (.int .i64 x8)], [] => slices_IndexFunc_string_at_impl_TypesOk_1.p6 k x0 x7 x8
  | _, _ => none
def slices_IndexFunc_string_at_impl_TypesOk_1.G (k p : Nat) (avs : List AV) (H : List HE) : Option (Int) := (pick1 6 (slices_IndexFunc_string_at_impl_TypesOk_1.G6 k avs H) none p)
set_option maxRecDepth 100000 in
theorem slices_IndexFunc_string_at_impl_TypesOk_1.eq (k : Nat) (a0 : List ByteArray) : fromTop Tryd.prog slices_IndexFunc_string_at_impl_TypesOk_1.E k slices_IndexFunc_string_at_impl_TypesOk_1.a (slices_IndexFunc_string_at_impl_TypesOk_1.G k) 1000 (bodyOf Tryd.prog 79) [.con .str a0, .fn 62 0 []] [] = slices_IndexFunc_string_at_impl_TypesOk_1.f k a0 := by kernel_rfl
set_option maxRecDepth 100000 in
theorem slices_IndexFunc_string_at_impl_TypesOk_1.eq6 (k : Nat) (x0 : List ByteArray) (x7 : Int) (x8 : Int) : fromPt Tryd.prog slices_IndexFunc_string_at_impl_TypesOk_1.E k slices_IndexFunc_string_at_impl_TypesOk_1.a (slices_IndexFunc_string_at_impl_TypesOk_1.G k) 1000 (bodyOf Tryd.prog 79) 6 [.con .str x0, .fn 62 0 [], .v (.int .i64 x7), .v (.int .i64 x8)] [] = slices_IndexFunc_string_at_impl_TypesOk_1.p6 (k + 1) x0 x7 x8 := by kernel_rfl
theorem slices_IndexFunc_string_at_impl_TypesOk_1.G6_0 {avs : List AV} {H : List HE} : slices_IndexFunc_string_at_impl_TypesOk_1.G6 0 avs H = none := by unfold slices_IndexFunc_string_at_impl_TypesOk_1.G6; split <;> rfl
theorem slices_IndexFunc_string_at_impl_TypesOk_1.G6_s (k : Nat) {avs : List AV} {H : List HE} {x : Int} (h : slices_IndexFunc_string_at_impl_TypesOk_1.G6 (k + 1) avs H = some x) : fromPt Tryd.prog slices_IndexFunc_string_at_impl_TypesOk_1.E k slices_IndexFunc_string_at_impl_TypesOk_1.a (slices_IndexFunc_string_at_impl_TypesOk_1.G k) 1000 (bodyOf Tryd.prog 79) 6 avs H = some x := by
  unfold slices_IndexFunc_string_at_impl_TypesOk_1.G6 at h
  split at h
  · rw [← h]; exact slices_IndexFunc_string_at_impl_TypesOk_1.eq6 _ _ _ _
  · cases h
theorem slices_IndexFunc_string_at_impl_TypesOk_1.E_ok : EnvOk Tryd.prog slices_IndexFunc_string_at_impl_TypesOk_1.E := ⟨⟨impl_TypesOk_1.sound, callable_of (by kernel_rfl)⟩, trivial⟩
theorem slices_IndexFunc_string_at_impl_TypesOk_1.sound : Sound Tryd.prog 79 slices_IndexFunc_string_at_impl_TypesOk_1.s := by
  refine func_sound (f := slices_IndexFunc_string_at_impl_TypesOk_1.a) (G := slices_IndexFunc_string_at_impl_TypesOk_1.G) (fn := Tryd.f79) (body := bodyOf Tryd.prog 79) 1000 (by kernel_rfl) slices_IndexFunc_string_at_impl_TypesOk_1.E_ok Tryd.func79 (by kernel_rfl) (by kernel_rfl) (by kernel_rfl) (ptsOk_of (by kernel_rfl)) ?_ ?_ ?_ ?_
  · intro r H x h
    unfold slices_IndexFunc_string_at_impl_TypesOk_1.a at h
    simp only at h
    split at h
    · cases h; rfl
    · cases h
  · exact fun q avs H => pick1_none slices_IndexFunc_string_at_impl_TypesOk_1.G6_0 (rfl)
  · intro k q pt avs H x _ h
    rcases pick1_some h with ⟨rfl, h⟩ | h
    · exact slices_IndexFunc_string_at_impl_TypesOk_1.G6_s _ h
    cases h
  · intro k avs H o h
    try dsimp only at h
    split at h
    · cases h; exact slices_IndexFunc_string_at_impl_TypesOk_1.eq _ _
    · cases h

def slices_ContainsFunc_string_at_impl_TypesOk_1.a : FnA (Bool) := ⟨9, [.tmp 4], .bool, [], [], fun x H => match x, H with
  | .bs false r, [] => some r
  | _, _ => none⟩
def slices_ContainsFunc_string_at_impl_TypesOk_1.s : Spec := mkS [.con .str, .fn 62 0 []] (fun k avs H => match avs, H with
  | [.con .str a0, .fn 62 0 []], [] => some (slices_ContainsFunc_string_at_impl_TypesOk_1.f k a0)
  | _, _ => none) (fun r => (.bs false r, []))
def slices_ContainsFunc_string_at_impl_TypesOk_1.E : Env := [((79, [62]), slices_IndexFunc_string_at_impl_TypesOk_1.s)]
def slices_ContainsFunc_string_at_impl_TypesOk_1.G (k p : Nat) (avs : List AV) (H : List HE) : Option (Bool) := none
set_option maxRecDepth 100000 in
theorem slices_ContainsFunc_string_at_impl_TypesOk_1.eq (k : Nat) (a0 : List ByteArray) : fromTop Tryd.prog slices_ContainsFunc_string_at_impl_TypesOk_1.E k slices_ContainsFunc_string_at_impl_TypesOk_1.a (slices_ContainsFunc_string_at_impl_TypesOk_1.G k) 1000 (bodyOf Tryd.prog 61) [.con .str a0, .fn 62 0 []] [] = slices_ContainsFunc_string_at_impl_TypesOk_1.f k a0 := by kernel_rfl
theorem slices_ContainsFunc_string_at_impl_TypesOk_1.E_ok : EnvOk Tryd.prog slices_ContainsFunc_string_at_impl_TypesOk_1.E := ⟨⟨slices_IndexFunc_string_at_impl_TypesOk_1.sound, callable_of (by kernel_rfl)⟩, trivial⟩
theorem slices_ContainsFunc_string_at_impl_TypesOk_1.sound : Sound Tryd.prog 61 slices_ContainsFunc_string_at_impl_TypesOk_1.s := by
  refine func_sound (f := slices_ContainsFunc_string_at_impl_TypesOk_1.a) (G := slices_ContainsFunc_string_at_impl_TypesOk_1.G) (fn := Tryd.f61) (body := bodyOf Tryd.prog 61) 1000 (by kernel_rfl) slices_ContainsFunc_string_at_impl_TypesOk_1.E_ok Tryd.func61 (by kernel_rfl) (by kernel_rfl) (by kernel_rfl) (ptsOk_of (by kernel_rfl)) ?_ ?_ ?_ ?_
  · intro r H x h
    unfold slices_ContainsFunc_string_at_impl_TypesOk_1.a at h
    simp only at h
    split at h
    · cases h; rfl
    · cases h
  · intro q avs H; rfl
  · intro k q pt avs H x _ h; cases h
  · intro k avs H o h
    try dsimp only at h
    split at h
    · cases h; exact slices_ContainsFunc_string_at_impl_TypesOk_1.eq _ _
    · cases h

def impl_TypesOk.a : FnA (Bool) := ⟨11, [.tmp 2], .bool, [], [], fun x H => match x, H with
  | .bs false r, [] => some r
  | _, _ => none⟩
def impl_TypesOk.s : Spec := mkS [.con .str] (fun k avs H => match avs, H with
  | [.con .str a0], [] => some (impl_TypesOk.f k a0)
  | _, _ => none) (fun r => (.bs false r, []))
def impl_TypesOk.E : Env := [((60, []), impl_size_string.s), ((32, []), impl_within.s), ((61, [62]), slices_ContainsFunc_string_at_impl_TypesOk_1.s)]
def impl_TypesOk.G (k p : Nat) (avs : List AV) (H : List HE) : Option (Bool) := none
set_option maxRecDepth 100000 in
theorem impl_TypesOk.eq (k : Nat) (a0 : List ByteArray) : fromTop Tryd.prog impl_TypesOk.E k impl_TypesOk.a (impl_TypesOk.G k) 1000 (bodyOf Tryd.prog 46) [.con .str a0] [] = impl_TypesOk.f k a0 := by kernel_rfl
theorem impl_TypesOk.E_ok : EnvOk Tryd.prog impl_TypesOk.E := ⟨⟨impl_size_string.sound, callable_of (by kernel_rfl)⟩, ⟨impl_within.sound, callable_of (by kernel_rfl)⟩, ⟨slices_ContainsFunc_string_at_impl_TypesOk_1.sound, callable_of (by kernel_rfl)⟩, trivial⟩
theorem impl_TypesOk.sound : Sound Tryd.prog 46 impl_TypesOk.s := by
  refine func_sound (f := impl_TypesOk.a) (G := impl_TypesOk.G) (fn := Tryd.f46) (body := bodyOf Tryd.prog 46) 1000 (by kernel_rfl) impl_TypesOk.E_ok Tryd.func46 (by kernel_rfl) (by kernel_rfl) (by kernel_rfl) (ptsOk_of (by kernel_rfl)) ?_ ?_ ?_ ?_
  · intro r H x h
    unfold impl_TypesOk.a at h
    simp only at h
    split at h
    · cases h; rfl
    · cases h
  · intro q avs H; rfl
  · intro k q pt avs H x _ h; cases h
  · intro k avs H o h
    try dsimp only at h
    split at h
    · cases h; exact impl_TypesOk.eq _ _
    · cases h

def impl_size_implObj.a : FnA (Int) := ⟨5, [.tmp 2], .val, [], [], fun x H => match x, H with
  | .v (.int .i64 r), [] => some r
  | _, _ => none⟩
def impl_size_implObj.s : Spec := mkS [.con (.pair (.int .i64) (.sl (.int .i64)))] (fun k avs H => match avs, H with
  | [.con (.pair (.int .i64) (.sl (.int .i64))) a0], [] => some (impl_size_implObj.f a0)
  | _, _ => none) (fun r => (.v (.int .i64 r), []))
def impl_size_implObj.E : Env := []
def impl_size_implObj.G (k p : Nat) (avs : List AV) (H : List HE) : Option (Int) := none
set_option maxRecDepth 100000 in
theorem impl_size_implObj.eq (k : Nat) (a0 : List (Int × List Int)) : fromTop Tryd.prog impl_size_implObj.E k impl_size_implObj.a (impl_size_implObj.G k) 1000 (bodyOf Tryd.prog 64) [.con (.pair (.int .i64) (.sl (.int .i64))) a0] [] = impl_size_implObj.f a0 := by kernel_rfl
theorem impl_size_implObj.E_ok : EnvOk Tryd.prog impl_size_implObj.E := trivial
theorem impl_size_implObj.sound : Sound Tryd.prog 64 impl_size_implObj.s := by
  refine func_sound (f := impl_size_implObj.a) (G := impl_size_implObj.G) (fn := Tryd.f64) (body := bodyOf Tryd.prog 64) 1000 (by kernel_rfl) impl_size_implObj.E_ok Tryd.func64 (by kernel_rfl) (by kernel_rfl) (by kernel_rfl) (ptsOk_of (by kernel_rfl)) ?_ ?_ ?_ ?_
  · intro r H x h
    unfold impl_size_implObj.a at h
    simp only at h
    split at h
    · cases h; rfl
    · cases h
  · intro q avs H; rfl
  · intro k q pt avs H x _ h; cases h
  · intro k avs H o h
    try dsimp only at h
    split at h
    · cases h; exact impl_size_implObj.eq _ _
    · cases h

def _impl_Graph_isNode.a : FnA (Bool) := ⟨10, [.tmp 4], .bool, [], [], fun x H => match x, H with
  | .bs false r, [] => some r
  | _, _ => none⟩
def _impl_Graph_isNode.s : Spec := mkS [.agg [.con (.int .i64), .con (.pair (.int .i64) (.sl (.int .i64)))], .val] (fun k avs H => match avs, H with
  | [.agg [.con (.int .i64) a0_0, .con (.pair (.int .i64) (.sl (.int .i64))) a0_1], .v (.int .i64 a1)], [] => some (_impl_Graph_isNode.f a0_0 a0_1 a1)
  | _, _ => none) (fun r => (.bs false r, []))
def _impl_Graph_isNode.E : Env := [((64, []), impl_size_implObj.s), ((32, []), impl_within.s)]
def _impl_Graph_isNode.G (k p : Nat) (avs : List AV) (H : List HE) : Option (Bool) := none
set_option maxRecDepth 100000 in
theorem _impl_Graph_isNode.eq (k : Nat) (a0_0 : List Int) (a0_1 : List (Int × List Int)) (a1 : Int) : fromTop Tryd.prog _impl_Graph_isNode.E k _impl_Graph_isNode.a (_impl_Graph_isNode.G k) 1000 (bodyOf Tryd.prog 48) [.agg [.con (.int .i64) a0_0, .con (.pair (.int .i64) (.sl (.int .i64))) a0_1], .v (.int .i64 a1)] [] = _impl_Graph_isNode.f a0_0 a0_1 a1 := by kernel_rfl
theorem _impl_Graph_isNode.E_ok : EnvOk Tryd.prog _impl_Graph_isNode.E := ⟨⟨impl_size_implObj.sound, callable_of (by kernel_rfl)⟩, ⟨impl_within.sound, callable_of (by kernel_rfl)⟩, trivial⟩
theorem _impl_Graph_isNode.sound : Sound Tryd.prog 48 _impl_Graph_isNode.s := by
  refine func_sound (f := _impl_Graph_isNode.a) (G := _impl_Graph_isNode.G) (fn := Tryd.f48) (body := bodyOf Tryd.prog 48) 1000 (by kernel_rfl) _impl_Graph_isNode.E_ok Tryd.func48 (by kernel_rfl) (by kernel_rfl) (by kernel_rfl) (ptsOk_of (by kernel_rfl)) ?_ ?_ ?_ ?_
  · intro r H x h
    unfold _impl_Graph_isNode.a at h
    simp only at h
    split at h
    · cases h; rfl
    · cases h
  · intro q avs H; rfl
  · intro k q pt avs H x _ h; cases h
  · intro k avs H o h
    try dsimp only at h
    split at h
    · cases h; exact _impl_Graph_isNode.eq _ _ _ _
    · cases h

def impl_GraphOk_1.a : FnA (Bool) := ⟨8, [.tmp 3], .bool, [], [], fun x H => match x, H with
  | .bs false r, [] => some r
  | _, _ => none⟩
def impl_GraphOk_1.s : Spec := mkS [.val, .elt (.pair (.sl (.int .i64)) (.sl (.pair (.int .i64) (.sl (.int .i64)))))] (fun k avs H => match avs, H with
  | [.v (.int .i64 a0), .elt (.pair (.sl (.int .i64)) (.sl (.pair (.int .i64) (.sl (.int .i64))))) a1 0], [] => some (impl_GraphOk_1.f a0 a1)
  | _, _ => none) (fun r => (.bs false r, []))
def impl_GraphOk_1.E : Env := [((48, []), _impl_Graph_isNode.s)]
def impl_GraphOk_1.G (k p : Nat) (avs : List AV) (H : List HE) : Option (Bool) := none
set_option maxRecDepth 100000 in
theorem impl_GraphOk_1.eq (k : Nat) (a0 : Int) (a1 : (List Int) × List (Int × List Int)) : fromTop Tryd.prog impl_GraphOk_1.E k impl_GraphOk_1.a (impl_GraphOk_1.G k) 1000 (bodyOf Tryd.prog 47) [.v (.int .i64 a0), .elt (.pair (.sl (.int .i64)) (.sl (.pair (.int .i64) (.sl (.int .i64))))) a1 0] [] = impl_GraphOk_1.f a0 a1 := by kernel_rfl
theorem impl_GraphOk_1.E_ok : EnvOk Tryd.prog impl_GraphOk_1.E := ⟨⟨_impl_Graph_isNode.sound, callable_of (by kernel_rfl)⟩, trivial⟩
theorem impl_GraphOk_1.sound : Sound Tryd.prog 47 impl_GraphOk_1.s := by
  refine func_sound (f := impl_GraphOk_1.a) (G := impl_GraphOk_1.G) (fn := Tryd.f47) (body := bodyOf Tryd.prog 47) 1000 (by kernel_rfl) impl_GraphOk_1.E_ok Tryd.func47 (by kernel_rfl) (by kernel_rfl) (by kernel_rfl) (ptsOk_of (by kernel_rfl)) ?_ ?_ ?_ ?_
  · intro r H x h
    unfold impl_GraphOk_1.a at h
    simp only at h
    split at h
    · cases h; rfl
    · cases h
  · intro q avs H; rfl
  · intro k q pt avs H x _ h; cases h
  · intro k avs H o h
    try dsimp only at h
    split at h
    · cases h; exact impl_GraphOk_1.eq _ _ _
    · cases h

def slices_IndexFunc_int64_at_impl_GraphOk_1.a : FnA (Int) := ⟨19, [.tmp 4], .val, [], [⟨6, [0, 1, 7, 8], [.con (.int .i64), .fn 47 0 [.elt (.pair (.sl (.int .i64)) (.sl (.pair (.int .i64) (.sl (.int .i64)))))], .val, .val], []⟩], fun x H => match x, H with
  | .v (.int .i64 r), [] => some r
  | _, _ => none⟩
def slices_IndexFunc_int64_at_impl_GraphOk_1.s : Spec := mkS [.con (.int .i64), .fn 47 0 [.elt (.pair (.sl (.int .i64)) (.sl (.pair (.int .i64) (.sl (.int .i64)))))]] (fun k avs H => match avs, H with
  | [.con (.int .i64) a0, .fn 47 0 [.elt (.pair (.sl (.int .i64)) (.sl (.pair (.int .i64) (.sl (.int .i64))))) a1_0 0]], [] => some (slices_IndexFunc_int64_at_impl_GraphOk_1.f k a0 a1_0)
  | _, _ => none) (fun r => (.v (.int .i64 r), []))
def slices_IndexFunc_int64_at_impl_GraphOk_1.E : Env := [((47, []), impl_GraphOk_1.s)]
def slices_IndexFunc_int64_at_impl_GraphOk_1.G6 (k : Nat) (avs : List AV) (H : List HE) : Option (Int) := match avs, H with
  | [.con (.int .i64) x0, .fn 47 0 [.elt (.pair (.sl (.int .i64)) (.sl (.pair (.int .i64) (.sl (.int .i64))))) x1_0 0], .v (.int .i64 x7), .v (.int .i64 x8)], [] => slices_IndexFunc_int64_at_impl_GraphOk_1.p6 k x0 x1_0 x7 x8
  | _, _ => none
def slices_IndexFunc_int64_at_impl_GraphOk_1.G (k p : Nat) (avs : List AV) (H : List HE) : Option (Int) := (pick1 6 (slices_IndexFunc_int64_at_impl_GraphOk_1.G6 k avs H) none p)
set_option maxRecDepth 100000 in
theorem slices_IndexFunc_int64_at_impl_GraphOk_1.eq (k : Nat) (a0 : List Int) (a1_0 : (List Int) × List (Int × List Int)) : fromTop Tryd.prog slices_IndexFunc_int64_at_impl_GraphOk_1.E k slices_IndexFunc_int64_at_impl_GraphOk_1.a (slices_IndexFunc_int64_at_impl_GraphOk_1.G k) 1000 (bodyOf Tryd.prog 53) [.con (.int .i64) a0, .fn 47 0 [.elt (.pair (.sl (.int .i64)) (.sl (.pair (.int .i64) (.sl (.int .i64))))) a1_0 0]] [] = slices_IndexFunc_int64_at_impl_GraphOk_1.f k a0 a1_0 := by kernel_rfl
set_option maxRecDepth 100000 in
theorem slices_IndexFunc_int64_at_impl_GraphOk_1.eq6 (k : Nat) (x0 : List Int) (x1_0 : (List Int) × List (Int × List Int)) (x7 : Int) (x8 : Int) : fromPt Tryd.prog slices_IndexFunc_int64_at_impl_GraphOk_1.E k slices_IndexFunc_int64_at_impl_GraphOk_1.a (slices_IndexFunc_int64_at_impl_GraphOk_1.G k) 1000 (bodyOf Tryd.prog 53) 6 [.con (.int .i64) x0, .fn 47 0 [.elt (.pair (.sl (.int .i64)) (.sl (.pair (.int .i64) (.sl (.int .i64))))) x1_0 0], .v (.int .i64 x7), .v (.int .i64 x8)] [] = slices_IndexFunc_int64_at_impl_GraphOk_1.p6 (k + 1) x0 x1_0 x7 x8 := by kernel_rfl
theorem slices_IndexFunc_int64_at_impl_GraphOk_1.G6_0 {avs : List AV} {H : List HE} : slices_IndexFunc_int64_at_impl_GraphOk_1.G6 0 avs H = none := by unfold slices_IndexFunc_int64_at_impl_GraphOk_1.G6; split <;> rfl
theorem slices_IndexFunc_int64_at_impl_GraphOk_1.G6_s (k : Nat) {avs : List AV} {H : List HE} {x : Int} (h : slices_IndexFunc_int64_at_impl_GraphOk_1.G6 (k + 1) avs H = some x) : fromPt Tryd.prog slices_IndexFunc_int64_at_impl_GraphOk_1.E k slices_IndexFunc_int64_at_impl_GraphOk_1.a (slices_IndexFunc_int64_at_impl_GraphOk_1.G k) 1000 (bodyOf Tryd.prog 53) 6 avs H = some x := by
  unfold slices_IndexFunc_int64_at_impl_GraphOk_1.G6 at h
  split at h
  · rw [← h]; exact slices_IndexFunc_int64_at_impl_GraphOk_1.eq6 _ _ _ _ _
  · cases h
theorem slices_IndexFunc_int64_at_impl_GraphOk_1.E_ok : EnvOk Tryd.prog slices_IndexFunc_int64_at_impl_GraphOk_1.E := ⟨⟨impl_GraphOk_1.sound, callable_of (by kernel_rfl)⟩, trivial⟩
theorem slices_IndexFunc_int64_at_impl_GraphOk_1.sound : Sound Tryd.prog 53 slices_IndexFunc_int64_at_impl_GraphOk_1.s := by
  refine func_sound (f := slices_IndexFunc_int64_at_impl_GraphOk_1.a) (G := slices_IndexFunc_int64_at_impl_GraphOk_1.G) (fn := Tryd.f53) (body := bodyOf Tryd.prog 53) 1000 (by kernel_rfl) slices_IndexFunc_int64_at_impl_GraphOk_1.E_ok Tryd.func53 (by kernel_rfl) (by kernel_rfl) (by kernel_rfl) (ptsOk_of (by kernel_rfl)) ?_ ?_ ?_ ?_
  · intro r H x h
    unfold slices_IndexFunc_int64_at_impl_GraphOk_1.a at h
    simp only at h
    split at h
    · cases h; rfl
    · cases h
  · exact fun q avs H => pick1_none slices_IndexFunc_int64_at_impl_GraphOk_1.G6_0 (rfl)
  · intro k q pt avs H x _ h
    rcases pick1_some h with ⟨rfl, h⟩ | h
    · exact slices_IndexFunc_int64_at_impl_GraphOk_1.G6_s _ h
    cases h
  · intro k avs H o h
    try dsimp only at h
    split at h
    · cases h; exact slices_IndexFunc_int64_at_impl_GraphOk_1.eq _ _ _
    · cases h

def slices_ContainsFunc_int64_at_impl_GraphOk_1.a : FnA (Bool) := ⟨9, [.tmp 4], .bool, [], [], fun x H => match x, H with
  | .bs false r, [] => some r
  | _, _ => none⟩
def slices_ContainsFunc_int64_at_impl_GraphOk_1.s : Spec := mkS [.con (.int .i64), .fn 47 0 [.elt (.pair (.sl (.int .i64)) (.sl (.pair (.int .i64) (.sl (.int .i64)))))]] (fun k avs H => match avs, H with
  | [.con (.int .i64) a0, .fn 47 0 [.elt (.pair (.sl (.int .i64)) (.sl (.pair (.int .i64) (.sl (.int .i64))))) a1_0 0]], [] => some (slices_ContainsFunc_int64_at_impl_GraphOk_1.f k a0 a1_0)
  | _, _ => none) (fun r => (.bs false r, []))
def slices_ContainsFunc_int64_at_impl_GraphOk_1.E : Env := [((53, [47]), slices_IndexFunc_int64_at_impl_GraphOk_1.s)]
def slices_ContainsFunc_int64_at_impl_GraphOk_1.G (k p : Nat) (avs : List AV) (H : List HE) : Option (Bool) := none
set_option maxRecDepth 100000 in
theorem slices_ContainsFunc_int64_at_impl_GraphOk_1.eq (k : Nat) (a0 : List Int) (a1_0 : (List Int) × List (Int × List Int)) : fromTop Tryd.prog slices_ContainsFunc_int64_at_impl_GraphOk_1.E k slices_ContainsFunc_int64_at_impl_GraphOk_1.a (slices_ContainsFunc_int64_at_impl_GraphOk_1.G k) 1000 (bodyOf Tryd.prog 30) [.con (.int .i64) a0, .fn 47 0 [.elt (.pair (.sl (.int .i64)) (.sl (.pair (.int .i64) (.sl (.int .i64))))) a1_0 0]] [] = slices_ContainsFunc_int64_at_impl_GraphOk_1.f k a0 a1_0 := by kernel_rfl
theorem slices_ContainsFunc_int64_at_impl_GraphOk_1.E_ok : EnvOk Tryd.prog slices_ContainsFunc_int64_at_impl_GraphOk_1.E := ⟨⟨slices_IndexFunc_int64_at_impl_GraphOk_1.sound, callable_of (by kernel_rfl)⟩, trivial⟩
theorem slices_ContainsFunc_int64_at_impl_GraphOk_1.sound : Sound Tryd.prog 30 slices_ContainsFunc_int64_at_impl_GraphOk_1.s := by
  refine func_sound (f := slices_ContainsFunc_int64_at_impl_GraphOk_1.a) (G := slices_ContainsFunc_int64_at_impl_GraphOk_1.G) (fn := Tryd.f30) (body := bodyOf Tryd.prog 30) 1000 (by kernel_rfl) slices_ContainsFunc_int64_at_impl_GraphOk_1.E_ok Tryd.func30 (by kernel_rfl) (by kernel_rfl) (by kernel_rfl) (ptsOk_of (by kernel_rfl)) ?_ ?_ ?_ ?_
  · intro r H x h
    unfold slices_ContainsFunc_int64_at_impl_GraphOk_1.a at h
    simp only at h
    split at h
    · cases h; rfl
    · cases h
  · intro q avs H; rfl
  · intro k q pt avs H x _ h; cases h
  · intro k avs H o h
    try dsimp only at h
    split at h
    · cases h; exact slices_ContainsFunc_int64_at_impl_GraphOk_1.eq _ _ _
    · cases h

def impl_isObject_at__impl_Graph_isNode.a : FnA (Bool) := ⟨51, [.tmp 6], .bool, [], [⟨14, [0, 2, 4, 29, 30, 31], [.con .str, .fn 48 1 [.agg [.con (.int .i64), .con (.pair (.int .i64) (.sl (.int .i64)))]], .box [.val, .con (.int .i64)], .con (.int .i64), .val, .val], []⟩], fun x H => match x, H with
  | .bs false r, [] => some r
  | _, _ => none⟩
def impl_isObject_at__impl_Graph_isNode.s : Spec := mkS [.con .str, .agg [.val, .con (.int .i64)], .fn 48 1 [.agg [.con (.int .i64), .con (.pair (.int .i64) (.sl (.int .i64)))]]] (fun k avs H => match avs, H with
  | [.con .str a0, .agg [.v (.int .i64 a1_0), .con (.int .i64) a1_1], .fn 48 1 [.agg [.con (.int .i64) a2_0_0, .con (.pair (.int .i64) (.sl (.int .i64))) a2_0_1]]], [] => some (impl_isObject_at__impl_Graph_isNode.f k a0 a1_0 a1_1 a2_0_0 a2_0_1)
  | _, _ => none) (fun r => (.bs false r, []))
def impl_isObject_at__impl_Graph_isNode.E : Env := [((60, []), impl_size_string.s), ((32, []), impl_within.s), ((48, []), _impl_Graph_isNode.s)]
def impl_isObject_at__impl_Graph_isNode.G14 (k : Nat) (avs : List AV) (H : List HE) : Option (Bool) := match avs, H with
  | [.con .str x0, .fn 48 1 [.agg [.con (.int .i64) x2_0_0, .con (.pair (.int .i64) (.sl (.int .i64))) x2_0_1]], .box 0 0, .con (.int .i64) x29, .v (.int .i64 x30), .v (.int .i64 x31)], [.box [.v (.int .i64 x4_0), .con (.int .i64) x4_1]] => impl_isObject_at__impl_Graph_isNode.p14 k x0 x2_0_0 x2_0_1 x4_0 x4_1 x29 x30 x31
  | _, _ => none
def impl_isObject_at__impl_Graph_isNode.G (k p : Nat) (avs : List AV) (H : List HE) : Option (Bool) := (pick1 14 (impl_isObject_at__impl_Graph_isNode.G14 k avs H) none p)
set_option maxRecDepth 100000 in
theorem impl_isObject_at__impl_Graph_isNode.eq (k : Nat) (a0 : List ByteArray) (a1_0 : Int) (a1_1 : List Int) (a2_0_0 : List Int) (a2_0_1 : List (Int × List Int)) : fromTop Tryd.prog impl_isObject_at__impl_Graph_isNode.E k impl_isObject_at__impl_Graph_isNode.a (impl_isObject_at__impl_Graph_isNode.G k) 1000 (bodyOf Tryd.prog 51) [.con .str a0, .agg [.v (.int .i64 a1_0), .con (.int .i64) a1_1], .fn 48 1 [.agg [.con (.int .i64) a2_0_0, .con (.pair (.int .i64) (.sl (.int .i64))) a2_0_1]]] [] = impl_isObject_at__impl_Graph_isNode.f k a0 a1_0 a1_1 a2_0_0 a2_0_1 := by kernel_rfl
set_option maxRecDepth 100000 in
theorem impl_isObject_at__impl_Graph_isNode.eq14 (k : Nat) (x0 : List ByteArray) (x2_0_0 : List Int) (x2_0_1 : List (Int × List Int)) (x4_0 : Int) (x4_1 : List Int) (x29 : List Int) (x30 : Int) (x31 : Int) : fromPt Tryd.prog impl_isObject_at__impl_Graph_isNode.E k impl_isObject_at__impl_Graph_isNode.a (impl_isObject_at__impl_Graph_isNode.G k) 1000 (bodyOf Tryd.prog 51) 14 [.con .str x0, .fn 48 1 [.agg [.con (.int .i64) x2_0_0, .con (.pair (.int .i64) (.sl (.int .i64))) x2_0_1]], .box 0 0, .con (.int .i64) x29, .v (.int .i64 x30), .v (.int .i64 x31)] [.box [.v (.int .i64 x4_0), .con (.int .i64) x4_1]] = impl_isObject_at__impl_Graph_isNode.p14 (k + 1) x0 x2_0_0 x2_0_1 x4_0 x4_1 x29 x30 x31 := by kernel_rfl
theorem impl_isObject_at__impl_Graph_isNode.G14_0 {avs : List AV} {H : List HE} : impl_isObject_at__impl_Graph_isNode.G14 0 avs H = none := by unfold impl_isObject_at__impl_Graph_isNode.G14; split <;> rfl
theorem impl_isObject_at__impl_Graph_isNode.G14_s (k : Nat) {avs : List AV} {H : List HE} {x : Bool} (h : impl_isObject_at__impl_Graph_isNode.G14 (k + 1) avs H = some x) : fromPt Tryd.prog impl_isObject_at__impl_Graph_isNode.E k impl_isObject_at__impl_Graph_isNode.a (impl_isObject_at__impl_Graph_isNode.G k) 1000 (bodyOf Tryd.prog 51) 14 avs H = some x := by
  unfold impl_isObject_at__impl_Graph_isNode.G14 at h
  split at h
  · rw [← h]; exact impl_isObject_at__impl_Graph_isNode.eq14 _ _ _ _ _ _ _ _ _
  · cases h
theorem impl_isObject_at__impl_Graph_isNode.E_ok : EnvOk Tryd.prog impl_isObject_at__impl_Graph_isNode.E := ⟨⟨impl_size_string.sound, callable_of (by kernel_rfl)⟩, ⟨impl_within.sound, callable_of (by kernel_rfl)⟩, ⟨_impl_Graph_isNode.sound, callable_of (by kernel_rfl)⟩, trivial⟩
theorem impl_isObject_at__impl_Graph_isNode.sound : Sound Tryd.prog 51 impl_isObject_at__impl_Graph_isNode.s := by
  refine func_sound (f := impl_isObject_at__impl_Graph_isNode.a) (G := impl_isObject_at__impl_Graph_isNode.G) (fn := Tryd.f51) (body := bodyOf Tryd.prog 51) 1000 (by kernel_rfl) impl_isObject_at__impl_Graph_isNode.E_ok Tryd.func51 (by kernel_rfl) (by kernel_rfl) (by kernel_rfl) (ptsOk_of (by kernel_rfl)) ?_ ?_ ?_ ?_
  · intro r H x h
    unfold impl_isObject_at__impl_Graph_isNode.a at h
    simp only at h
    split at h
    · cases h; rfl
    · cases h
  · exact fun q avs H => pick1_none impl_isObject_at__impl_Graph_isNode.G14_0 (rfl)
  · intro k q pt avs H x _ h
    rcases pick1_some h with ⟨rfl, h⟩ | h
    · exact impl_isObject_at__impl_Graph_isNode.G14_s _ h
    cases h
  · intro k avs H o h
    try dsimp only at h
    split at h
    · cases h; exact impl_isObject_at__impl_Graph_isNode.eq _ _ _ _ _ _
    · cases h

def impl_GraphOk_2.a : FnA (Bool) := ⟨11, [.tmp 4], .bool, [], [], fun x H => match x, H with
  | .bs false r, [] => some r
  | _, _ => none⟩
def impl_GraphOk_2.s : Spec := mkS [.agg [.val, .con (.int .i64)], .elt (.sl .str), .elt (.pair (.sl (.int .i64)) (.sl (.pair (.int .i64) (.sl (.int .i64)))))] (fun k avs H => match avs, H with
  | [.agg [.v (.int .i64 a0_0), .con (.int .i64) a0_1], .elt (.sl .str) a1 0, .elt (.pair (.sl (.int .i64)) (.sl (.pair (.int .i64) (.sl (.int .i64))))) a2 0], [] => some (impl_GraphOk_2.f k a0_0 a0_1 a1 a2)
  | _, _ => none) (fun r => (.bs false r, []))
def impl_GraphOk_2.E : Env := [((51, [48]), impl_isObject_at__impl_Graph_isNode.s)]
def impl_GraphOk_2.G (k p : Nat) (avs : List AV) (H : List HE) : Option (Bool) := none
set_option maxRecDepth 100000 in
theorem impl_GraphOk_2.eq (k : Nat) (a0_0 : Int) (a0_1 : List Int) (a1 : List ByteArray) (a2 : (List Int) × List (Int × List Int)) : fromTop Tryd.prog impl_GraphOk_2.E k impl_GraphOk_2.a (impl_GraphOk_2.G k) 1000 (bodyOf Tryd.prog 50) [.agg [.v (.int .i64 a0_0), .con (.int .i64) a0_1], .elt (.sl .str) a1 0, .elt (.pair (.sl (.int .i64)) (.sl (.pair (.int .i64) (.sl (.int .i64))))) a2 0] [] = impl_GraphOk_2.f k a0_0 a0_1 a1 a2 := by kernel_rfl
theorem impl_GraphOk_2.E_ok : EnvOk Tryd.prog impl_GraphOk_2.E := ⟨⟨impl_isObject_at__impl_Graph_isNode.sound, callable_of (by kernel_rfl)⟩, trivial⟩
theorem impl_GraphOk_2.sound : Sound Tryd.prog 50 impl_GraphOk_2.s := by
  refine func_sound (f := impl_GraphOk_2.a) (G := impl_GraphOk_2.G) (fn := Tryd.f50) (body := bodyOf Tryd.prog 50) 1000 (by kernel_rfl) impl_GraphOk_2.E_ok Tryd.func50 (by kernel_rfl) (by kernel_rfl) (by kernel_rfl) (ptsOk_of (by kernel_rfl)) ?_ ?_ ?_ ?_
  · intro r H x h
    unfold impl_GraphOk_2.a at h
    simp only at h
    split at h
    · cases h; rfl
    · cases h
  · intro q avs H; rfl
  · intro k q pt avs H x _ h; cases h
  · intro k avs H o h
    try dsimp only at h
    split at h
    · cases h; exact impl_GraphOk_2.eq _ _ _ _ _
    · cases h

def slices_IndexFunc_implObj_at_impl_GraphOk_2.a : FnA (Int) := ⟨19, [.tmp 4], .val, [], [⟨6, [0, 1, 7, 8], [.con (.pair (.int .i64) (.sl (.int .i64))), .fn 50 0 [.elt (.sl .str), .elt (.pair (.sl (.int .i64)) (.sl (.pair (.int .i64) (.sl (.int .i64)))))], .val, .val], []⟩], fun x H => match x, H with
  | .v (.int .i64 r), [] => some r
  | _, _ => none⟩
def slices_IndexFunc_implObj_at_impl_GraphOk_2.s : Spec := mkS [.con (.pair (.int .i64) (.sl (.int .i64))), .fn 50 0 [.elt (.sl .str), .elt (.pair (.sl (.int .i64)) (.sl (.pair (.int .i64) (.sl (.int .i64)))))]] (fun k avs H => match avs, H with
  | [.con (.pair (.int .i64) (.sl (.int .i64))) a0, .fn 50 0 [.elt (.sl .str) a1_0 0, .elt (.pair (.sl (.int .i64)) (.sl (.pair (.int .i64) (.sl (.int .i64))))) a1_1 0]], [] => some (slices_IndexFunc_implObj_at_impl_GraphOk_2.f k a0 a1_0 a1_1)
  | _, _ => none) (fun r => (.v (.int .i64 r), []))
def slices_IndexFunc_implObj_at_impl_GraphOk_2.E : Env := [((50, []), impl_GraphOk_2.s)]
def slices_IndexFunc_implObj_at_impl_GraphOk_2.G6 (k : Nat) (avs : List AV) (H : List HE) : Option (Int) := match avs, H with
  | [.con (.pair (.int .i64) (.sl (.int .i64))) x0, .fn 50 0 [.elt (.sl .str) x1_0 0, .elt (.pair (.sl (.int .i64)) (.sl (.pair (.int .i64) (.sl (.int .i64))))) x1_1 0], .v (.int .i64 x7), .v (.int .i64 x8)], [] => slices_IndexFunc_implObj_at_impl_GraphOk_2.p6 k x0 x1_0 x1_1 x7 x8
  | _, _ => none
def slices_IndexFunc_implObj_at_impl_GraphOk_2.G (k p : Nat) (avs : List AV) (H : List HE) : Option (Int) := (pick1 6 (slices_IndexFunc_implObj_at_impl_GraphOk_2.G6 k avs H) none p)
set_option maxRecDepth 100000 in
theorem slices_IndexFunc_implObj_at_impl_GraphOk_2.eq (k : Nat) (a0 : List (Int × List Int)) (a1_0 : List ByteArray) (a1_1 : (List Int) × List (Int × List Int)) : fromTop Tryd.prog slices_IndexFunc_implObj_at_impl_GraphOk_2.E k slices_IndexFunc_implObj_at_impl_GraphOk_2.a (slices_IndexFunc_implObj_at_impl_GraphOk_2.G k) 1000 (bodyOf Tryd.prog 65) [.con (.pair (.int .i64) (.sl (.int .i64))) a0, .fn 50 0 [.elt (.sl .str) a1_0 0, .elt (.pair (.sl (.int .i64)) (.sl (.pair (.int .i64) (.sl (.int .i64))))) a1_1 0]] [] = slices_IndexFunc_implObj_at_impl_GraphOk_2.f k a0 a1_0 a1_1 := by kernel_rfl
set_option maxRecDepth 100000 in
theorem slices_IndexFunc_implObj_at_impl_GraphOk_2.eq6 (k : Nat) (x0 : List (Int × List Int)) (x1_0 : List ByteArray) (x1_1 : (List Int) × List (Int × List Int)) (x7 : Int) (x8 : Int) : fromPt Tryd.prog slices_IndexFunc_implObj_at_impl_GraphOk_2.E k slices_IndexFunc_implObj_at_impl_GraphOk_2.a (slices_IndexFunc_implObj_at_impl_GraphOk_2.G k) 1000 (bodyOf Tryd.prog 65) 6 [.con (.pair (.int .i64) (.sl (.int .i64))) x0, .fn 50 0 [.elt (.sl .str) x1_0 0, .elt (.pair (.sl (.int .i64)) (.sl (.pair (.int .i64) (.sl (.int .i64))))) x1_1 0], .v (.int .i64 x7), .v (.int .i64 x8)] [] = slices_IndexFunc_implObj_at_impl_GraphOk_2.p6 (k + 1) x0 x1_0 x1_1 x7 x8 := by kernel_rfl
theorem slices_IndexFunc_implObj_at_impl_GraphOk_2.G6_0 {avs : List AV} {H : List HE} : slices_IndexFunc_implObj_at_impl_GraphOk_2.G6 0 avs H = none := by unfold slices_IndexFunc_implObj_at_impl_GraphOk_2.G6; split <;> rfl
theorem slices_IndexFunc_implObj_at_impl_GraphOk_2.G6_s (k : Nat) {avs : List AV} {H : List HE} {x : Int} (h : slices_IndexFunc_implObj_at_impl_GraphOk_2.G6 (k + 1) avs H = some x) : fromPt Tryd.prog slices_IndexFunc_implObj_at_impl_GraphOk_2.E k slices_IndexFunc_implObj_at_impl_GraphOk_2.a (slices_IndexFunc_implObj_at_impl_GraphOk_2.G k) 1000 (bodyOf Tryd.prog 65) 6 avs H = some x := by
  unfold slices_IndexFunc_implObj_at_impl_GraphOk_2.G6 at h
  split at h
  · rw [← h]; exact slices_IndexFunc_implObj_at_impl_GraphOk_2.eq6 _ _ _ _ _ _
  · cases h
theorem slices_IndexFunc_implObj_at_impl_GraphOk_2.E_ok : EnvOk Tryd.prog slices_IndexFunc_implObj_at_impl_GraphOk_2.E := ⟨⟨impl_GraphOk_2.sound, callable_of (by kernel_rfl)⟩, trivial⟩
theorem slices_IndexFunc_implObj_at_impl_GraphOk_2.sound : Sound Tryd.prog 65 slices_IndexFunc_implObj_at_impl_GraphOk_2.s := by
  refine func_sound (f := slices_IndexFunc_implObj_at_impl_GraphOk_2.a) (G := slices_IndexFunc_implObj_at_impl_GraphOk_2.G) (fn := Tryd.f65) (body := bodyOf Tryd.prog 65) 1000 (by kernel_rfl) slices_IndexFunc_implObj_at_impl_GraphOk_2.E_ok Tryd.func65 (by kernel_rfl) (by kernel_rfl) (by kernel_rfl) (ptsOk_of (by kernel_rfl)) ?_ ?_ ?_ ?_
  · intro r H x h
    unfold slices_IndexFunc_implObj_at_impl_GraphOk_2.a at h
    simp only at h
    split at h
    · cases h; rfl
    · cases h
  · exact fun q avs H => pick1_none slices_IndexFunc_implObj_at_impl_GraphOk_2.G6_0 (rfl)
  · intro k q pt avs H x _ h
    rcases pick1_some h with ⟨rfl, h⟩ | h
    · exact slices_IndexFunc_implObj_at_impl_GraphOk_2.G6_s _ h
    cases h
  · intro k avs H o h
    try dsimp only at h
    split at h
    · cases h; exact slices_IndexFunc_implObj_at_impl_GraphOk_2.eq _ _ _ _
    · cases h

def slices_ContainsFunc_implObj_at_impl_GraphOk_2.a : FnA (Bool) := ⟨9, [.tmp 4], .bool, [], [], fun x H => match x, H with
  | .bs false r, [] => some r
  | _, _ => none⟩
def slices_ContainsFunc_implObj_at_impl_GraphOk_2.s : Spec := mkS [.con (.pair (.int .i64) (.sl (.int .i64))), .fn 50 0 [.elt (.sl .str), .elt (.pair (.sl (.int .i64)) (.sl (.pair (.int .i64) (.sl (.int .i64)))))]] (fun k avs H => match avs, H with
  | [.con (.pair (.int .i64) (.sl (.int .i64))) a0, .fn 50 0 [.elt (.sl .str) a1_0 0, .elt (.pair (.sl (.int .i64)) (.sl (.pair (.int .i64) (.sl (.int .i64))))) a1_1 0]], [] => some (slices_ContainsFunc_implObj_at_impl_GraphOk_2.f k a0 a1_0 a1_1)
  | _, _ => none) (fun r => (.bs false r, []))
def slices_ContainsFunc_implObj_at_impl_GraphOk_2.E : Env := [((65, [50]), slices_IndexFunc_implObj_at_impl_GraphOk_2.s)]
def slices_ContainsFunc_implObj_at_impl_GraphOk_2.G (k p : Nat) (avs : List AV) (H : List HE) : Option (Bool) := none
set_option maxRecDepth 100000 in
theorem slices_ContainsFunc_implObj_at_impl_GraphOk_2.eq (k : Nat) (a0 : List (Int × List Int)) (a1_0 : List ByteArray) (a1_1 : (List Int) × List (Int × List Int)) : fromTop Tryd.prog slices_ContainsFunc_implObj_at_impl_GraphOk_2.E k slices_ContainsFunc_implObj_at_impl_GraphOk_2.a (slices_ContainsFunc_implObj_at_impl_GraphOk_2.G k) 1000 (bodyOf Tryd.prog 49) [.con (.pair (.int .i64) (.sl (.int .i64))) a0, .fn 50 0 [.elt (.sl .str) a1_0 0, .elt (.pair (.sl (.int .i64)) (.sl (.pair (.int .i64) (.sl (.int .i64))))) a1_1 0]] [] = slices_ContainsFunc_implObj_at_impl_GraphOk_2.f k a0 a1_0 a1_1 := by kernel_rfl
theorem slices_ContainsFunc_implObj_at_impl_GraphOk_2.E_ok : EnvOk Tryd.prog slices_ContainsFunc_implObj_at_impl_GraphOk_2.E := ⟨⟨slices_IndexFunc_implObj_at_impl_GraphOk_2.sound, callable_of (by kernel_rfl)⟩, trivial⟩
theorem slices_ContainsFunc_implObj_at_impl_GraphOk_2.sound : Sound Tryd.prog 49 slices_ContainsFunc_implObj_at_impl_GraphOk_2.s := by
  refine func_sound (f := slices_ContainsFunc_implObj_at_impl_GraphOk_2.a) (G := slices_ContainsFunc_implObj_at_impl_GraphOk_2.G) (fn := Tryd.f49) (body := bodyOf Tryd.prog 49) 1000 (by kernel_rfl) slices_ContainsFunc_implObj_at_impl_GraphOk_2.E_ok Tryd.func49 (by kernel_rfl) (by kernel_rfl) (by kernel_rfl) (ptsOk_of (by kernel_rfl)) ?_ ?_ ?_ ?_
  · intro r H x h
    unfold slices_ContainsFunc_implObj_at_impl_GraphOk_2.a at h
    simp only at h
    split at h
    · cases h; rfl
    · cases h
  · intro q avs H; rfl
  · intro k q pt avs H x _ h; cases h
  · intro k avs H o h
    try dsimp only at h
    split at h
    · cases h; exact slices_ContainsFunc_implObj_at_impl_GraphOk_2.eq _ _ _ _
    · cases h

def impl_GraphOk.a : FnA (Bool) := ⟨34, [.tmp 4], .bool, [], [⟨5, [2, 3, 20], [.box [.con .str], .box [.con (.int .i64), .con (.pair (.int .i64) (.sl (.int .i64)))], .bool], []⟩], fun x H => match x, H with
  | .bs false r, [] => some r
  | _, _ => none⟩
def impl_GraphOk.s : Spec := mkS [.con .str, .agg [.con (.int .i64), .con (.pair (.int .i64) (.sl (.int .i64)))]] (fun k avs H => match avs, H with
  | [.con .str a0, .agg [.con (.int .i64) a1_0, .con (.pair (.int .i64) (.sl (.int .i64))) a1_1]], [] => some (impl_GraphOk.f k a0 a1_0 a1_1)
  | _, _ => none) (fun r => (.bs false r, []))
def impl_GraphOk.E : Env := [((46, []), impl_TypesOk.s), ((30, [47]), slices_ContainsFunc_int64_at_impl_GraphOk_1.s), ((49, [50]), slices_ContainsFunc_implObj_at_impl_GraphOk_2.s)]
def impl_GraphOk.G5 (k : Nat) (avs : List AV) (H : List HE) : Option (Bool) := match avs, H with
  | [.box 0 0, .box 1 0, .bs false x20], [.box [.con .str x2_0], .box [.con (.int .i64) x3_0, .con (.pair (.int .i64) (.sl (.int .i64))) x3_1]] => impl_GraphOk.p5 k x2_0 x3_0 x3_1 x20
  | _, _ => none
def impl_GraphOk.G (k p : Nat) (avs : List AV) (H : List HE) : Option (Bool) := (pick1 5 (impl_GraphOk.G5 k avs H) none p)
set_option maxRecDepth 100000 in
theorem impl_GraphOk.eq (k : Nat) (a0 : List ByteArray) (a1_0 : List Int) (a1_1 : List (Int × List Int)) : fromTop Tryd.prog impl_GraphOk.E k impl_GraphOk.a (impl_GraphOk.G k) 1000 (bodyOf Tryd.prog 27) [.con .str a0, .agg [.con (.int .i64) a1_0, .con (.pair (.int .i64) (.sl (.int .i64))) a1_1]] [] = impl_GraphOk.f k a0 a1_0 a1_1 := by kernel_rfl
set_option maxRecDepth 100000 in
theorem impl_GraphOk.eq5 (k : Nat) (x2_0 : List ByteArray) (x3_0 : List Int) (x3_1 : List (Int × List Int)) (x20 : Bool) : fromPt Tryd.prog impl_GraphOk.E k impl_GraphOk.a (impl_GraphOk.G k) 1000 (bodyOf Tryd.prog 27) 5 [.box 0 0, .box 1 0, .bs false x20] [.box [.con .str x2_0], .box [.con (.int .i64) x3_0, .con (.pair (.int .i64) (.sl (.int .i64))) x3_1]] = impl_GraphOk.p5 (k + 1) x2_0 x3_0 x3_1 x20 := by kernel_rfl
theorem impl_GraphOk.G5_0 {avs : List AV} {H : List HE} : impl_GraphOk.G5 0 avs H = none := by unfold impl_GraphOk.G5; split <;> rfl
theorem impl_GraphOk.G5_s (k : Nat) {avs : List AV} {H : List HE} {x : Bool} (h : impl_GraphOk.G5 (k + 1) avs H = some x) : fromPt Tryd.prog impl_GraphOk.E k impl_GraphOk.a (impl_GraphOk.G k) 1000 (bodyOf Tryd.prog 27) 5 avs H = some x := by
  unfold impl_GraphOk.G5 at h
  split at h
  · rw [← h]; exact impl_GraphOk.eq5 _ _ _ _ _
  · cases h
theorem impl_GraphOk.E_ok : EnvOk Tryd.prog impl_GraphOk.E := ⟨⟨impl_TypesOk.sound, callable_of (by kernel_rfl)⟩, ⟨slices_ContainsFunc_int64_at_impl_GraphOk_1.sound, callable_of (by kernel_rfl)⟩, ⟨slices_ContainsFunc_implObj_at_impl_GraphOk_2.sound, callable_of (by kernel_rfl)⟩, trivial⟩
theorem impl_GraphOk.sound : Sound Tryd.prog 27 impl_GraphOk.s := by
  refine func_sound (f := impl_GraphOk.a) (G := impl_GraphOk.G) (fn := Tryd.f27) (body := bodyOf Tryd.prog 27) 1000 (by kernel_rfl) impl_GraphOk.E_ok Tryd.func27 (by kernel_rfl) (by kernel_rfl) (by kernel_rfl) (ptsOk_of (by kernel_rfl)) ?_ ?_ ?_ ?_
  · intro r H x h
    unfold impl_GraphOk.a at h
    simp only at h
    split at h
    · cases h; rfl
    · cases h
  · exact fun q avs H => pick1_none impl_GraphOk.G5_0 (rfl)
  · intro k q pt avs H x _ h
    rcases pick1_some h with ⟨rfl, h⟩ | h
    · exact impl_GraphOk.G5_s _ h
    cases h
  · intro k avs H o h
    try dsimp only at h
    split at h
    · cases h; exact impl_GraphOk.eq _ _ _ _
    · cases h

def impl_discovered_1.a : FnA (List Bool × List Int) := ⟨23, [], .tup [], [.box [.row 4 .bool], .drop, .box [.row 2 (.int .i64)], .drop], [⟨2, [0, 1, 2, 13], [.val, .box [], .box [], .bool], [.box [.row 4 .bool], .drop, .box [.row 2 (.int .i64)], .drop]⟩], fun x H => match x, H with
  | .tup [], [.box [.own 4], .gone, .box [.own 5], .gone, .row 4 .bool h0_0, .row 2 (.int .i64) h2_0] => some (h0_0, h2_0)
  | _, _ => none⟩
def impl_discovered_1.s : Spec := mkS [.val, .box [.row 4 .bool], .box [.row 2 (.int .i64)]] (fun k avs H => match avs, H with
  | [.v (.int .i64 a0), .box 0 0, .box 2 0], [.box [.own 1], .row 4 .bool a1_0, .box [.own 3], .row 2 (.int .i64) a2_0] => some (impl_discovered_1.f k a0 a1_0 a2_0)
  | _, _ => none) (fun r => (.tup [], [.box [.own 4], .gone, .box [.own 5], .gone, .row 4 .bool r.1, .row 2 (.int .i64) r.2]))
def impl_discovered_1.E : Env := []
def impl_discovered_1.G2 (k : Nat) (avs : List AV) (H : List HE) : Option (List Bool × List Int) := match avs, H with
  | [.v (.int .i64 x0), .box 0 0, .box 2 0, .bs false x13], [.box [.own 4], .gone, .box [.own 5], .gone, .row 4 .bool h0_0, .row 2 (.int .i64) h2_0] => impl_discovered_1.p2 k h0_0 h2_0 x0 x13
  | _, _ => none
def impl_discovered_1.G (k p : Nat) (avs : List AV) (H : List HE) : Option (List Bool × List Int) := (pick1 2 (impl_discovered_1.G2 k avs H) none p)
set_option maxRecDepth 100000 in
theorem impl_discovered_1.eq (k : Nat) (a0 : Int) (a1_0 : List Bool) (a2_0 : List Int) : fromTop Tryd.prog impl_discovered_1.E k impl_discovered_1.a (impl_discovered_1.G k) 1000 (bodyOf Tryd.prog 56) [.v (.int .i64 a0), .box 0 0, .box 2 0] [.box [.own 1], .row 4 .bool a1_0, .box [.own 3], .row 2 (.int .i64) a2_0] = impl_discovered_1.f k a0 a1_0 a2_0 := by kernel_rfl
set_option maxRecDepth 100000 in
theorem impl_discovered_1.eq2 (k : Nat) (h0_0 : List Bool) (h2_0 : List Int) (x0 : Int) (x13 : Bool) : fromPt Tryd.prog impl_discovered_1.E k impl_discovered_1.a (impl_discovered_1.G k) 1000 (bodyOf Tryd.prog 56) 2 [.v (.int .i64 x0), .box 0 0, .box 2 0, .bs false x13] [.box [.own 4], .gone, .box [.own 5], .gone, .row 4 .bool h0_0, .row 2 (.int .i64) h2_0] = impl_discovered_1.p2 (k + 1) h0_0 h2_0 x0 x13 := by kernel_rfl
theorem impl_discovered_1.G2_0 {avs : List AV} {H : List HE} : impl_discovered_1.G2 0 avs H = none := by unfold impl_discovered_1.G2; split <;> rfl
theorem impl_discovered_1.G2_s (k : Nat) {avs : List AV} {H : List HE} {x : List Bool × List Int} (h : impl_discovered_1.G2 (k + 1) avs H = some x) : fromPt Tryd.prog impl_discovered_1.E k impl_discovered_1.a (impl_discovered_1.G k) 1000 (bodyOf Tryd.prog 56) 2 avs H = some x := by
  unfold impl_discovered_1.G2 at h
  split at h
  · rw [← h]; exact impl_discovered_1.eq2 _ _ _ _ _
  · cases h
theorem impl_discovered_1.E_ok : EnvOk Tryd.prog impl_discovered_1.E := trivial
theorem impl_discovered_1.sound : Sound Tryd.prog 56 impl_discovered_1.s := by
  refine func_sound (f := impl_discovered_1.a) (G := impl_discovered_1.G) (fn := Tryd.f56) (body := bodyOf Tryd.prog 56) 1000 (by kernel_rfl) impl_discovered_1.E_ok Tryd.func56 (by kernel_rfl) (by kernel_rfl) (by kernel_rfl) (ptsOk_of (by kernel_rfl)) ?_ ?_ ?_ ?_
  · intro r H x h
    unfold impl_discovered_1.a at h
    simp only at h
    split at h
    · cases h; rfl
    · cases h
  · exact fun q avs H => pick1_none impl_discovered_1.G2_0 (rfl)
  · intro k q pt avs H x _ h
    rcases pick1_some h with ⟨rfl, h⟩ | h
    · exact impl_discovered_1.G2_s _ h
    cases h
  · intro k avs H o h
    try dsimp only at h
    split at h
    · cases h; exact impl_discovered_1.eq _ _ _ _
    · cases h

def impl_discovered.a : FnA (List Int) := ⟨66, [.tmp 4], .row 2 (.int .i64), [], [⟨12, [0, 3, 5, 7, 21, 22, 23], [.con .str, .box [.con (.int .i64), .con (.pair (.int .i64) (.sl (.int .i64)))], .box [.row 2 (.int .i64)], .fn 56 0 [.box [.row 4 .bool], .box []], .con (.int .i64), .val, .val], []⟩, ⟨29, [0, 3, 5, 7, 10], [.con .str, .box [.con (.int .i64), .con (.pair (.int .i64) (.sl (.int .i64)))], .box [.row 2 (.int .i64)], .fn 56 0 [.box [.row 4 .bool], .box []], .val], []⟩, ⟨43, [0, 3, 5, 7, 10, 11, 46, 47, 48], [.con .str, .box [.con (.int .i64), .con (.pair (.int .i64) (.sl (.int .i64)))], .box [.row 2 (.int .i64)], .fn 56 0 [.box [.row 4 .bool], .box []], .val, .box [.val, .con (.int .i64)], .con (.int .i64), .val, .val], []⟩], fun x H => match x, H with
  | .own 0, [.row 2 (.int .i64) r] => some r
  | _, _ => none⟩
def impl_discovered.s : Spec := mkS [.con .str, .agg [.con (.int .i64), .con (.pair (.int .i64) (.sl (.int .i64)))]] (fun k avs H => match avs, H with
  | [.con .str a0, .agg [.con (.int .i64) a1_0, .con (.pair (.int .i64) (.sl (.int .i64))) a1_1]], [] => some (impl_discovered.f k a0 a1_0 a1_1)
  | _, _ => none) (fun r => (.own 0, [.row 2 (.int .i64) r]))
def impl_discovered.E : Env := [((56, []), impl_discovered_1.s)]
def impl_discovered.G12 (k : Nat) (avs : List AV) (H : List HE) : Option (List Int) := match avs, H with
  | [.con .str x0, .box 0 0, .box 1 0, .fn 56 0 [.box 3 0, .box 1 0], .con (.int .i64) x21, .v (.int .i64 x22), .v (.int .i64 x23)], [.box [.con (.int .i64) x3_0, .con (.pair (.int .i64) (.sl (.int .i64))) x3_1], .box [.own 2], .row 2 (.int .i64) x5_0, .box [.own 4], .row 4 .bool x7_0_0] => impl_discovered.p12 k x0 x3_0 x3_1 x5_0 x7_0_0 x21 x22 x23
  | _, _ => none
def impl_discovered.G29 (k : Nat) (avs : List AV) (H : List HE) : Option (List Int) := match avs, H with
  | [.con .str x0, .box 0 0, .box 1 0, .fn 56 0 [.box 3 0, .box 1 0], .v (.int .i64 x10)], [.box [.con (.int .i64) x3_0, .con (.pair (.int .i64) (.sl (.int .i64))) x3_1], .box [.own 2], .row 2 (.int .i64) x5_0, .box [.own 4], .row 4 .bool x7_0_0] => impl_discovered.p29 k x0 x3_0 x3_1 x5_0 x7_0_0 x10
  | _, _ => none
def impl_discovered.G43 (k : Nat) (avs : List AV) (H : List HE) : Option (List Int) := match avs, H with
  | [.con .str x0, .box 0 0, .box 1 0, .fn 56 0 [.box 3 0, .box 1 0], .v (.int .i64 x10), .box 5 0, .con (.int .i64) x46, .v (.int .i64 x47), .v (.int .i64 x48)], [.box [.con (.int .i64) x3_0, .con (.pair (.int .i64) (.sl (.int .i64))) x3_1], .box [.own 2], .row 2 (.int .i64) x5_0, .box [.own 4], .row 4 .bool x7_0_0, .box [.v (.int .i64 x11_0), .con (.int .i64) x11_1]] => impl_discovered.p43 k x0 x3_0 x3_1 x5_0 x7_0_0 x10 x11_0 x11_1 x46 x47 x48
  | _, _ => none
def impl_discovered.G (k p : Nat) (avs : List AV) (H : List HE) : Option (List Int) := (pick1 12 (impl_discovered.G12 k avs H) (pick1 29 (impl_discovered.G29 k avs H) (pick1 43 (impl_discovered.G43 k avs H) none p) p) p)
set_option maxRecDepth 100000 in
theorem impl_discovered.eq (k : Nat) (a0 : List ByteArray) (a1_0 : List Int) (a1_1 : List (Int × List Int)) : fromTop Tryd.prog impl_discovered.E k impl_discovered.a (impl_discovered.G k) 1000 (bodyOf Tryd.prog 38) [.con .str a0, .agg [.con (.int .i64) a1_0, .con (.pair (.int .i64) (.sl (.int .i64))) a1_1]] [] = impl_discovered.f k a0 a1_0 a1_1 := by kernel_rfl
set_option maxRecDepth 100000 in
theorem impl_discovered.eq12 (k : Nat) (x0 : List ByteArray) (x3_0 : List Int) (x3_1 : List (Int × List Int)) (x5_0 : List Int) (x7_0_0 : List Bool) (x21 : List Int) (x22 : Int) (x23 : Int) : fromPt Tryd.prog impl_discovered.E k impl_discovered.a (impl_discovered.G k) 1000 (bodyOf Tryd.prog 38) 12 [.con .str x0, .box 0 0, .box 1 0, .fn 56 0 [.box 3 0, .box 1 0], .con (.int .i64) x21, .v (.int .i64 x22), .v (.int .i64 x23)] [.box [.con (.int .i64) x3_0, .con (.pair (.int .i64) (.sl (.int .i64))) x3_1], .box [.own 2], .row 2 (.int .i64) x5_0, .box [.own 4], .row 4 .bool x7_0_0] = impl_discovered.p12 (k + 1) x0 x3_0 x3_1 x5_0 x7_0_0 x21 x22 x23 := by kernel_rfl
theorem impl_discovered.G12_0 {avs : List AV} {H : List HE} : impl_discovered.G12 0 avs H = none := by unfold impl_discovered.G12; split <;> rfl
theorem impl_discovered.G12_s (k : Nat) {avs : List AV} {H : List HE} {x : List Int} (h : impl_discovered.G12 (k + 1) avs H = some x) : fromPt Tryd.prog impl_discovered.E k impl_discovered.a (impl_discovered.G k) 1000 (bodyOf Tryd.prog 38) 12 avs H = some x := by
  unfold impl_discovered.G12 at h
  split at h
  · rw [← h]; exact impl_discovered.eq12 _ _ _ _ _ _ _ _ _
  · cases h
set_option maxRecDepth 100000 in
theorem impl_discovered.eq29 (k : Nat) (x0 : List ByteArray) (x3_0 : List Int) (x3_1 : List (Int × List Int)) (x5_0 : List Int) (x7_0_0 : List Bool) (x10 : Int) : fromPt Tryd.prog impl_discovered.E k impl_discovered.a (impl_discovered.G k) 1000 (bodyOf Tryd.prog 38) 29 [.con .str x0, .box 0 0, .box 1 0, .fn 56 0 [.box 3 0, .box 1 0], .v (.int .i64 x10)] [.box [.con (.int .i64) x3_0, .con (.pair (.int .i64) (.sl (.int .i64))) x3_1], .box [.own 2], .row 2 (.int .i64) x5_0, .box [.own 4], .row 4 .bool x7_0_0] = impl_discovered.p29 (k + 1) x0 x3_0 x3_1 x5_0 x7_0_0 x10 := by kernel_rfl
theorem impl_discovered.G29_0 {avs : List AV} {H : List HE} : impl_discovered.G29 0 avs H = none := by unfold impl_discovered.G29; split <;> rfl
theorem impl_discovered.G29_s (k : Nat) {avs : List AV} {H : List HE} {x : List Int} (h : impl_discovered.G29 (k + 1) avs H = some x) : fromPt Tryd.prog impl_discovered.E k impl_discovered.a (impl_discovered.G k) 1000 (bodyOf Tryd.prog 38) 29 avs H = some x := by
  unfold impl_discovered.G29 at h
  split at h
  · rw [← h]; exact impl_discovered.eq29 _ _ _ _ _ _ _
  · cases h
set_option maxRecDepth 100000 in
theorem impl_discovered.eq43 (k : Nat) (x0 : List ByteArray) (x3_0 : List Int) (x3_1 : List (Int × List Int)) (x5_0 : List Int) (x7_0_0 : List Bool) (x10 : Int) (x11_0 : Int) (x11_1 : List Int) (x46 : List Int) (x47 : Int) (x48 : Int) : fromPt Tryd.prog impl_discovered.E k impl_discovered.a (impl_discovered.G k) 1000 (bodyOf Tryd.prog 38) 43 [.con .str x0, .box 0 0, .box 1 0, .fn 56 0 [.box 3 0, .box 1 0], .v (.int .i64 x10), .box 5 0, .con (.int .i64) x46, .v (.int .i64 x47), .v (.int .i64 x48)] [.box [.con (.int .i64) x3_0, .con (.pair (.int .i64) (.sl (.int .i64))) x3_1], .box [.own 2], .row 2 (.int .i64) x5_0, .box [.own 4], .row 4 .bool x7_0_0, .box [.v (.int .i64 x11_0), .con (.int .i64) x11_1]] = impl_discovered.p43 (k + 1) x0 x3_0 x3_1 x5_0 x7_0_0 x10 x11_0 x11_1 x46 x47 x48 := by kernel_rfl
theorem impl_discovered.G43_0 {avs : List AV} {H : List HE} : impl_discovered.G43 0 avs H = none := by unfold impl_discovered.G43; split <;> rfl
theorem impl_discovered.G43_s (k : Nat) {avs : List AV} {H : List HE} {x : List Int} (h : impl_discovered.G43 (k + 1) avs H = some x) : fromPt Tryd.prog impl_discovered.E k impl_discovered.a (impl_discovered.G k) 1000 (bodyOf Tryd.prog 38) 43 avs H = some x := by
  unfold impl_discovered.G43 at h
  split at h
  · rw [← h]; exact impl_discovered.eq43 _ _ _ _ _ _ _ _ _ _ _ _
  · cases h
theorem impl_discovered.E_ok : EnvOk Tryd.prog impl_discovered.E := ⟨⟨impl_discovered_1.sound, callable_of (by kernel_rfl)⟩, trivial⟩
theorem impl_discovered.sound : Sound Tryd.prog 38 impl_discovered.s := by
  refine func_sound (f := impl_discovered.a) (G := impl_discovered.G) (fn := Tryd.f38) (body := bodyOf Tryd.prog 38) 1000 (by kernel_rfl) impl_discovered.E_ok Tryd.func38 (by kernel_rfl) (by kernel_rfl) (by kernel_rfl) (ptsOk_of (by kernel_rfl)) ?_ ?_ ?_ ?_
  · intro r H x h
    unfold impl_discovered.a at h
    simp only at h
    split at h
    · cases h; rfl
    · cases h
  · exact fun q avs H => pick1_none impl_discovered.G12_0 (pick1_none impl_discovered.G29_0 (pick1_none impl_discovered.G43_0 (rfl)))
  · intro k q pt avs H x _ h
    rcases pick1_some h with ⟨rfl, h⟩ | h
    · exact impl_discovered.G12_s _ h
    rcases pick1_some h with ⟨rfl, h⟩ | h
    · exact impl_discovered.G29_s _ h
    rcases pick1_some h with ⟨rfl, h⟩ | h
    · exact impl_discovered.G43_s _ h
    cases h
  · intro k avs H o h
    try dsimp only at h
    split at h
    · cases h; exact impl_discovered.eq _ _ _ _
    · cases h

def slices_Sort_int64.s : Spec := mkS [.row 2 (.int .i64)] (fun _ avs H => match avs, H with
  | [.own 0], [.row 2 (.int .i64) a0] => some (slices_Sort_int64.f a0)
  | _, _ => none) (fun r => (.tup [], [.row 2 (.int .i64) r]))
theorem slices_Sort_int64.sound : Sound Tryd.prog 39 slices_Sort_int64.s := by
  refine sound_sort (e := 2) ?_ (fun blk off cap zs w hH hb hs => Go.Proofs.Tryd.slices_Sort_int blk off cap zs w hH hb hs) (fun A cap w => Go.Proofs.Tryd.slices_Sort_int_none A cap w)
  intro k avs H o x h hx
  split at h
  case h_2 => cases h
  rename_i a0
  cases h
  unfold slices_Sort_int64.f at hx
  split at hx
  case isFalse => cases hx
  rename_i h1
  cases hx
  exact ⟨a0, rfl, rfl, h1, rfl⟩

def impl_Reached.a : FnA (List Int) := ⟨16, [.tmp 4], .row 2 (.int .i64), [], [], fun x H => match x, H with
  | .own 0, [.row 2 (.int .i64) r] => some r
  | _, _ => none⟩
def impl_Reached.s : Spec := mkS [.con .str, .agg [.con (.int .i64), .con (.pair (.int .i64) (.sl (.int .i64)))]] (fun k avs H => match avs, H with
  | [.con .str a0, .agg [.con (.int .i64) a1_0, .con (.pair (.int .i64) (.sl (.int .i64))) a1_1]], [] => some (impl_Reached.f k a0 a1_0 a1_1)
  | _, _ => none) (fun r => (.own 0, [.row 2 (.int .i64) r]))
def impl_Reached.E : Env := [((27, []), impl_GraphOk.s), ((38, []), impl_discovered.s), ((39, []), slices_Sort_int64.s)]
def impl_Reached.G (k p : Nat) (avs : List AV) (H : List HE) : Option (List Int) := none
set_option maxRecDepth 100000 in
theorem impl_Reached.eq (k : Nat) (a0 : List ByteArray) (a1_0 : List Int) (a1_1 : List (Int × List Int)) : fromTop Tryd.prog impl_Reached.E k impl_Reached.a (impl_Reached.G k) 1000 (bodyOf Tryd.prog 14) [.con .str a0, .agg [.con (.int .i64) a1_0, .con (.pair (.int .i64) (.sl (.int .i64))) a1_1]] [] = impl_Reached.f k a0 a1_0 a1_1 := by kernel_rfl
theorem impl_Reached.E_ok : EnvOk Tryd.prog impl_Reached.E := ⟨⟨impl_GraphOk.sound, callable_of (by kernel_rfl)⟩, ⟨impl_discovered.sound, callable_of (by kernel_rfl)⟩, ⟨slices_Sort_int64.sound, callable_of (by kernel_rfl)⟩, trivial⟩
theorem impl_Reached.sound : Sound Tryd.prog 14 impl_Reached.s := by
  refine func_sound (f := impl_Reached.a) (G := impl_Reached.G) (fn := Tryd.f14) (body := bodyOf Tryd.prog 14) 1000 (by kernel_rfl) impl_Reached.E_ok Tryd.func14 (by kernel_rfl) (by kernel_rfl) (by kernel_rfl) (ptsOk_of (by kernel_rfl)) ?_ ?_ ?_ ?_
  · intro r H x h
    unfold impl_Reached.a at h
    simp only at h
    split at h
    · cases h; rfl
    · cases h
  · intro q avs H; rfl
  · intro k q pt avs H x _ h; cases h
  · intro k avs H o h
    try dsimp only at h
    split at h
    · cases h; exact impl_Reached.eq _ _ _ _
    · cases h

def laws_eqInt64S.a : FnA (Bool) := ⟨26, [.tmp 4], .bool, [], [⟨14, [0, 1, 5], [.con (.int .i64), .con (.int .i64), .val], []⟩], fun x H => match x, H with
  | .bs false r, [] => some r
  | _, _ => none⟩
def laws_eqInt64S.s : Spec := mkS [.con (.int .i64), .con (.int .i64)] (fun k avs H => match avs, H with
  | [.con (.int .i64) a0, .con (.int .i64) a1], [] => some (laws_eqInt64S.f k a0 a1)
  | _, _ => none) (fun r => (.bs false r, []))
def laws_eqInt64S.E : Env := []
def laws_eqInt64S.G14 (k : Nat) (avs : List AV) (H : List HE) : Option (Bool) := match avs, H with
  | [.con (.int .i64) x0, .con (.int .i64) x1, .v (.int .i64 x5)], [] => laws_eqInt64S.p14 k x0 x1 x5
  | _, _ => none
def laws_eqInt64S.G (k p : Nat) (avs : List AV) (H : List HE) : Option (Bool) := (pick1 14 (laws_eqInt64S.G14 k avs H) none p)
set_option maxRecDepth 100000 in
theorem laws_eqInt64S.eq (k : Nat) (a0 : List Int) (a1 : List Int) : fromTop Tryd.prog laws_eqInt64S.E k laws_eqInt64S.a (laws_eqInt64S.G k) 1000 (bodyOf Tryd.prog 15) [.con (.int .i64) a0, .con (.int .i64) a1] [] = laws_eqInt64S.f k a0 a1 := by kernel_rfl
set_option maxRecDepth 100000 in
theorem laws_eqInt64S.eq14 (k : Nat) (x0 : List Int) (x1 : List Int) (x5 : Int) : fromPt Tryd.prog laws_eqInt64S.E k laws_eqInt64S.a (laws_eqInt64S.G k) 1000 (bodyOf Tryd.prog 15) 14 [.con (.int .i64) x0, .con (.int .i64) x1, .v (.int .i64 x5)] [] = laws_eqInt64S.p14 (k + 1) x0 x1 x5 := by kernel_rfl
theorem laws_eqInt64S.G14_0 {avs : List AV} {H : List HE} : laws_eqInt64S.G14 0 avs H = none := by unfold laws_eqInt64S.G14; split <;> rfl
theorem laws_eqInt64S.G14_s (k : Nat) {avs : List AV} {H : List HE} {x : Bool} (h : laws_eqInt64S.G14 (k + 1) avs H = some x) : fromPt Tryd.prog laws_eqInt64S.E k laws_eqInt64S.a (laws_eqInt64S.G k) 1000 (bodyOf Tryd.prog 15) 14 avs H = some x := by
  unfold laws_eqInt64S.G14 at h
  split at h
  · rw [← h]; exact laws_eqInt64S.eq14 _ _ _ _
  · cases h
theorem laws_eqInt64S.E_ok : EnvOk Tryd.prog laws_eqInt64S.E := trivial
theorem laws_eqInt64S.sound : Sound Tryd.prog 15 laws_eqInt64S.s := by
  refine func_sound (f := laws_eqInt64S.a) (G := laws_eqInt64S.G) (fn := Tryd.f15) (body := bodyOf Tryd.prog 15) 1000 (by kernel_rfl) laws_eqInt64S.E_ok Tryd.func15 (by kernel_rfl) (by kernel_rfl) (by kernel_rfl) (ptsOk_of (by kernel_rfl)) ?_ ?_ ?_ ?_
  · intro r H x h
    unfold laws_eqInt64S.a at h
    simp only at h
    split at h
    · cases h; rfl
    · cases h
  · exact fun q avs H => pick1_none laws_eqInt64S.G14_0 (rfl)
  · intro k q pt avs H x _ h
    rcases pick1_some h with ⟨rfl, h⟩ | h
    · exact laws_eqInt64S.G14_s _ h
    cases h
  · intro k avs H o h
    try dsimp only at h
    split at h
    · cases h; exact laws_eqInt64S.eq _ _ _
    · cases h

def laws_eqStringS.a : FnA (Bool) := ⟨26, [.tmp 4], .bool, [], [⟨14, [0, 1, 5], [.con .str, .con .str, .val], []⟩], fun x H => match x, H with
  | .bs false r, [] => some r
  | _, _ => none⟩
def laws_eqStringS.s : Spec := mkS [.con .str, .con .str] (fun k avs H => match avs, H with
  | [.con .str a0, .con .str a1], [] => some (laws_eqStringS.f k a0 a1)
  | _, _ => none) (fun r => (.bs false r, []))
def laws_eqStringS.E : Env := []
def laws_eqStringS.G14 (k : Nat) (avs : List AV) (H : List HE) : Option (Bool) := match avs, H with
  | [.con .str x0, .con .str x1, .v (.int .i64 x5)], [] => laws_eqStringS.p14 k x0 x1 x5
  | _, _ => none
def laws_eqStringS.G (k p : Nat) (avs : List AV) (H : List HE) : Option (Bool) := (pick1 14 (laws_eqStringS.G14 k avs H) none p)
set_option maxRecDepth 100000 in
theorem laws_eqStringS.eq (k : Nat) (a0 : List ByteArray) (a1 : List ByteArray) : fromTop Tryd.prog laws_eqStringS.E k laws_eqStringS.a (laws_eqStringS.G k) 1000 (bodyOf Tryd.prog 11) [.con .str a0, .con .str a1] [] = laws_eqStringS.f k a0 a1 := by kernel_rfl
set_option maxRecDepth 100000 in
theorem laws_eqStringS.eq14 (k : Nat) (x0 : List ByteArray) (x1 : List ByteArray) (x5 : Int) : fromPt Tryd.prog laws_eqStringS.E k laws_eqStringS.a (laws_eqStringS.G k) 1000 (bodyOf Tryd.prog 11) 14 [.con .str x0, .con .str x1, .v (.int .i64 x5)] [] = laws_eqStringS.p14 (k + 1) x0 x1 x5 := by kernel_rfl
theorem laws_eqStringS.G14_0 {avs : List AV} {H : List HE} : laws_eqStringS.G14 0 avs H = none := by unfold laws_eqStringS.G14; split <;> rfl
theorem laws_eqStringS.G14_s (k : Nat) {avs : List AV} {H : List HE} {x : Bool} (h : laws_eqStringS.G14 (k + 1) avs H = some x) : fromPt Tryd.prog laws_eqStringS.E k laws_eqStringS.a (laws_eqStringS.G k) 1000 (bodyOf Tryd.prog 11) 14 avs H = some x := by
  unfold laws_eqStringS.G14 at h
  split at h
  · rw [← h]; exact laws_eqStringS.eq14 _ _ _ _
  · cases h
theorem laws_eqStringS.E_ok : EnvOk Tryd.prog laws_eqStringS.E := trivial
theorem laws_eqStringS.sound : Sound Tryd.prog 11 laws_eqStringS.s := by
  refine func_sound (f := laws_eqStringS.a) (G := laws_eqStringS.G) (fn := Tryd.f11) (body := bodyOf Tryd.prog 11) 1000 (by kernel_rfl) laws_eqStringS.E_ok Tryd.func11 (by kernel_rfl) (by kernel_rfl) (by kernel_rfl) (ptsOk_of (by kernel_rfl)) ?_ ?_ ?_ ?_
  · intro r H x h
    unfold laws_eqStringS.a at h
    simp only at h
    split at h
    · cases h; rfl
    · cases h
  · exact fun q avs H => pick1_none laws_eqStringS.G14_0 (rfl)
  · intro k q pt avs H x _ h
    rcases pick1_some h with ⟨rfl, h⟩ | h
    · exact laws_eqStringS.G14_s _ h
    cases h
  · intro k avs H o h
    try dsimp only at h
    split at h
    · cases h; exact laws_eqStringS.eq _ _ _
    · cases h

def laws_eqObj.a : FnA (Bool) := ⟨16, [.tmp 4], .bool, [], [], fun x H => match x, H with
  | .bs false r, [] => some r
  | _, _ => none⟩
def laws_eqObj.s : Spec := mkS [.agg [.val, .con (.int .i64)], .agg [.val, .con (.int .i64)]] (fun k avs H => match avs, H with
  | [.agg [.v (.int .i64 a0_0), .con (.int .i64) a0_1], .agg [.v (.int .i64 a1_0), .con (.int .i64) a1_1]], [] => some (laws_eqObj.f k a0_0 a0_1 a1_0 a1_1)
  | _, _ => none) (fun r => (.bs false r, []))
def laws_eqObj.E : Env := [((15, []), laws_eqInt64S.s)]
def laws_eqObj.G (k p : Nat) (avs : List AV) (H : List HE) : Option (Bool) := none
set_option maxRecDepth 100000 in
theorem laws_eqObj.eq (k : Nat) (a0_0 : Int) (a0_1 : List Int) (a1_0 : Int) (a1_1 : List Int) : fromTop Tryd.prog laws_eqObj.E k laws_eqObj.a (laws_eqObj.G k) 1000 (bodyOf Tryd.prog 55) [.agg [.v (.int .i64 a0_0), .con (.int .i64) a0_1], .agg [.v (.int .i64 a1_0), .con (.int .i64) a1_1]] [] = laws_eqObj.f k a0_0 a0_1 a1_0 a1_1 := by kernel_rfl
theorem laws_eqObj.E_ok : EnvOk Tryd.prog laws_eqObj.E := ⟨⟨laws_eqInt64S.sound, callable_of (by kernel_rfl)⟩, trivial⟩
theorem laws_eqObj.sound : Sound Tryd.prog 55 laws_eqObj.s := by
  refine func_sound (f := laws_eqObj.a) (G := laws_eqObj.G) (fn := Tryd.f55) (body := bodyOf Tryd.prog 55) 1000 (by kernel_rfl) laws_eqObj.E_ok Tryd.func55 (by kernel_rfl) (by kernel_rfl) (by kernel_rfl) (ptsOk_of (by kernel_rfl)) ?_ ?_ ?_ ?_
  · intro r H x h
    unfold laws_eqObj.a at h
    simp only at h
    split at h
    · cases h; rfl
    · cases h
  · intro q avs H; rfl
  · intro k q pt avs H x _ h; cases h
  · intro k avs H o h
    try dsimp only at h
    split at h
    · cases h; exact laws_eqObj.eq _ _ _ _ _
    · cases h

def laws_eqObjS.a : FnA (Bool) := ⟨27, [.tmp 4], .bool, [], [⟨14, [0, 1, 5], [.con (.pair (.int .i64) (.sl (.int .i64))), .con (.pair (.int .i64) (.sl (.int .i64))), .val], []⟩], fun x H => match x, H with
  | .bs false r, [] => some r
  | _, _ => none⟩
def laws_eqObjS.s : Spec := mkS [.con (.pair (.int .i64) (.sl (.int .i64))), .con (.pair (.int .i64) (.sl (.int .i64)))] (fun k avs H => match avs, H with
  | [.con (.pair (.int .i64) (.sl (.int .i64))) a0, .con (.pair (.int .i64) (.sl (.int .i64))) a1], [] => some (laws_eqObjS.f k a0 a1)
  | _, _ => none) (fun r => (.bs false r, []))
def laws_eqObjS.E : Env := [((55, []), laws_eqObj.s)]
def laws_eqObjS.G14 (k : Nat) (avs : List AV) (H : List HE) : Option (Bool) := match avs, H with
  | [.con (.pair (.int .i64) (.sl (.int .i64))) x0, .con (.pair (.int .i64) (.sl (.int .i64))) x1, .v (.int .i64 x5)], [] => laws_eqObjS.p14 k x0 x1 x5
  | _, _ => none
def laws_eqObjS.G (k p : Nat) (avs : List AV) (H : List HE) : Option (Bool) := (pick1 14 (laws_eqObjS.G14 k avs H) none p)
set_option maxRecDepth 100000 in
theorem laws_eqObjS.eq (k : Nat) (a0 : List (Int × List Int)) (a1 : List (Int × List Int)) : fromTop Tryd.prog laws_eqObjS.E k laws_eqObjS.a (laws_eqObjS.G k) 1000 (bodyOf Tryd.prog 35) [.con (.pair (.int .i64) (.sl (.int .i64))) a0, .con (.pair (.int .i64) (.sl (.int .i64))) a1] [] = laws_eqObjS.f k a0 a1 := by kernel_rfl
set_option maxRecDepth 100000 in
theorem laws_eqObjS.eq14 (k : Nat) (x0 : List (Int × List Int)) (x1 : List (Int × List Int)) (x5 : Int) : fromPt Tryd.prog laws_eqObjS.E k laws_eqObjS.a (laws_eqObjS.G k) 1000 (bodyOf Tryd.prog 35) 14 [.con (.pair (.int .i64) (.sl (.int .i64))) x0, .con (.pair (.int .i64) (.sl (.int .i64))) x1, .v (.int .i64 x5)] [] = laws_eqObjS.p14 (k + 1) x0 x1 x5 := by kernel_rfl
theorem laws_eqObjS.G14_0 {avs : List AV} {H : List HE} : laws_eqObjS.G14 0 avs H = none := by unfold laws_eqObjS.G14; split <;> rfl
theorem laws_eqObjS.G14_s (k : Nat) {avs : List AV} {H : List HE} {x : Bool} (h : laws_eqObjS.G14 (k + 1) avs H = some x) : fromPt Tryd.prog laws_eqObjS.E k laws_eqObjS.a (laws_eqObjS.G k) 1000 (bodyOf Tryd.prog 35) 14 avs H = some x := by
  unfold laws_eqObjS.G14 at h
  split at h
  · rw [← h]; exact laws_eqObjS.eq14 _ _ _ _
  · cases h
theorem laws_eqObjS.E_ok : EnvOk Tryd.prog laws_eqObjS.E := ⟨⟨laws_eqObj.sound, callable_of (by kernel_rfl)⟩, trivial⟩
theorem laws_eqObjS.sound : Sound Tryd.prog 35 laws_eqObjS.s := by
  refine func_sound (f := laws_eqObjS.a) (G := laws_eqObjS.G) (fn := Tryd.f35) (body := bodyOf Tryd.prog 35) 1000 (by kernel_rfl) laws_eqObjS.E_ok Tryd.func35 (by kernel_rfl) (by kernel_rfl) (by kernel_rfl) (ptsOk_of (by kernel_rfl)) ?_ ?_ ?_ ?_
  · intro r H x h
    unfold laws_eqObjS.a at h
    simp only at h
    split at h
    · cases h; rfl
    · cases h
  · exact fun q avs H => pick1_none laws_eqObjS.G14_0 (rfl)
  · intro k q pt avs H x _ h
    rcases pick1_some h with ⟨rfl, h⟩ | h
    · exact laws_eqObjS.G14_s _ h
    cases h
  · intro k avs H o h
    try dsimp only at h
    split at h
    · cases h; exact laws_eqObjS.eq _ _ _
    · cases h

def laws_eqGraph.a : FnA (Bool) := ⟨17, [.tmp 4], .bool, [], [], fun x H => match x, H with
  | .bs false r, [] => some r
  | _, _ => none⟩
def laws_eqGraph.s : Spec := mkS [.agg [.con (.int .i64), .con (.pair (.int .i64) (.sl (.int .i64)))], .agg [.con (.int .i64), .con (.pair (.int .i64) (.sl (.int .i64)))]] (fun k avs H => match avs, H with
  | [.agg [.con (.int .i64) a0_0, .con (.pair (.int .i64) (.sl (.int .i64))) a0_1], .agg [.con (.int .i64) a1_0, .con (.pair (.int .i64) (.sl (.int .i64))) a1_1]], [] => some (laws_eqGraph.f k a0_0 a0_1 a1_0 a1_1)
  | _, _ => none) (fun r => (.bs false r, []))
def laws_eqGraph.E : Env := [((15, []), laws_eqInt64S.s), ((35, []), laws_eqObjS.s)]
def laws_eqGraph.G (k p : Nat) (avs : List AV) (H : List HE) : Option (Bool) := none
set_option maxRecDepth 100000 in
theorem laws_eqGraph.eq (k : Nat) (a0_0 : List Int) (a0_1 : List (Int × List Int)) (a1_0 : List Int) (a1_1 : List (Int × List Int)) : fromTop Tryd.prog laws_eqGraph.E k laws_eqGraph.a (laws_eqGraph.G k) 1000 (bodyOf Tryd.prog 12) [.agg [.con (.int .i64) a0_0, .con (.pair (.int .i64) (.sl (.int .i64))) a0_1], .agg [.con (.int .i64) a1_0, .con (.pair (.int .i64) (.sl (.int .i64))) a1_1]] [] = laws_eqGraph.f k a0_0 a0_1 a1_0 a1_1 := by kernel_rfl
theorem laws_eqGraph.E_ok : EnvOk Tryd.prog laws_eqGraph.E := ⟨⟨laws_eqInt64S.sound, callable_of (by kernel_rfl)⟩, ⟨laws_eqObjS.sound, callable_of (by kernel_rfl)⟩, trivial⟩
theorem laws_eqGraph.sound : Sound Tryd.prog 12 laws_eqGraph.s := by
  refine func_sound (f := laws_eqGraph.a) (G := laws_eqGraph.G) (fn := Tryd.f12) (body := bodyOf Tryd.prog 12) 1000 (by kernel_rfl) laws_eqGraph.E_ok Tryd.func12 (by kernel_rfl) (by kernel_rfl) (by kernel_rfl) (ptsOk_of (by kernel_rfl)) ?_ ?_ ?_ ?_
  · intro r H x h
    unfold laws_eqGraph.a at h
    simp only at h
    split at h
    · cases h; rfl
    · cases h
  · intro q avs H; rfl
  · intro k q pt avs H x _ h; cases h
  · intro k avs H o h
    try dsimp only at h
    split at h
    · cases h; exact laws_eqGraph.eq _ _ _ _ _
    · cases h

def laws_markText.a : FnA (ByteArray) := ⟨20, [.tmp 2], .val, [], [⟨14, [0, 3], [.val, .val], []⟩], fun x H => match x, H with
  | .v (.string r), [] => some r
  | _, _ => none⟩
def laws_markText.s : Spec := mkS [.val] (fun k avs H => match avs, H with
  | [.v (.int .i64 a0)], [] => some (laws_markText.f k a0)
  | _, _ => none) (fun r => (.v (.string r), []))
def laws_markText.E : Env := []
def laws_markText.G14 (k : Nat) (avs : List AV) (H : List HE) : Option (ByteArray) := match avs, H with
  | [.v (.int .i64 x0), .v (.string x3)], [] => laws_markText.p14 k x0 x3
  | _, _ => none
def laws_markText.G (k p : Nat) (avs : List AV) (H : List HE) : Option (ByteArray) := (pick1 14 (laws_markText.G14 k avs H) none p)
set_option maxRecDepth 100000 in
theorem laws_markText.eq (k : Nat) (a0 : Int) : fromTop Tryd.prog laws_markText.E k laws_markText.a (laws_markText.G k) 1000 (bodyOf Tryd.prog 40) [.v (.int .i64 a0)] [] = laws_markText.f k a0 := by kernel_rfl
set_option maxRecDepth 100000 in
theorem laws_markText.eq14 (k : Nat) (x0 : Int) (x3 : ByteArray) : fromPt Tryd.prog laws_markText.E k laws_markText.a (laws_markText.G k) 1000 (bodyOf Tryd.prog 40) 14 [.v (.int .i64 x0), .v (.string x3)] [] = laws_markText.p14 (k + 1) x0 x3 := by kernel_rfl
theorem laws_markText.G14_0 {avs : List AV} {H : List HE} : laws_markText.G14 0 avs H = none := by unfold laws_markText.G14; split <;> rfl
theorem laws_markText.G14_s (k : Nat) {avs : List AV} {H : List HE} {x : ByteArray} (h : laws_markText.G14 (k + 1) avs H = some x) : fromPt Tryd.prog laws_markText.E k laws_markText.a (laws_markText.G k) 1000 (bodyOf Tryd.prog 40) 14 avs H = some x := by
  unfold laws_markText.G14 at h
  split at h
  · rw [← h]; exact laws_markText.eq14 _ _ _
  · cases h
theorem laws_markText.E_ok : EnvOk Tryd.prog laws_markText.E := trivial
theorem laws_markText.sound : Sound Tryd.prog 40 laws_markText.s := by
  refine func_sound (f := laws_markText.a) (G := laws_markText.G) (fn := Tryd.f40) (body := bodyOf Tryd.prog 40) 1000 (by kernel_rfl) laws_markText.E_ok Tryd.func40 (by kernel_rfl) (by kernel_rfl) (by kernel_rfl) (ptsOk_of (by kernel_rfl)) ?_ ?_ ?_ ?_
  · intro r H x h
    unfold laws_markText.a at h
    simp only at h
    split at h
    · cases h; rfl
    · cases h
  · exact fun q avs H => pick1_none laws_markText.G14_0 (rfl)
  · intro k q pt avs H x _ h
    rcases pick1_some h with ⟨rfl, h⟩ | h
    · exact laws_markText.G14_s _ h
    cases h
  · intro k avs H o h
    try dsimp only at h
    split at h
    · cases h; exact laws_markText.eq _ _
    · cases h

def laws_markStringS.a : FnA (List ByteArray × Int) := ⟨20, [.tmp 4], .val, [.keep], [⟨6, [0, 1, 5], [.row 9 .str, .val, .val], [.keep]⟩], fun x H => match x, H with
  | .v (.int .i64 r), [.row 9 .str h0] => some (h0, r)
  | _, _ => none⟩
def laws_markStringS.s : Spec := mkS [.row 9 .str, .val] (fun k avs H => match avs, H with
  | [.own 0, .v (.int .i64 a1)], [.row 9 .str a0] => some (laws_markStringS.f k a0 a1)
  | _, _ => none) (fun r => (.v (.int .i64 r.2), [.row 9 .str r.1]))
def laws_markStringS.E : Env := [((40, []), laws_markText.s)]
def laws_markStringS.G6 (k : Nat) (avs : List AV) (H : List HE) : Option (List ByteArray × Int) := match avs, H with
  | [.own 0, .v (.int .i64 x1), .v (.int .i64 x5)], [.row 9 .str h0] => laws_markStringS.p6 k h0 x1 x5
  | _, _ => none
def laws_markStringS.G (k p : Nat) (avs : List AV) (H : List HE) : Option (List ByteArray × Int) := (pick1 6 (laws_markStringS.G6 k avs H) none p)
set_option maxRecDepth 100000 in
theorem laws_markStringS.eq (k : Nat) (a0 : List ByteArray) (a1 : Int) : fromTop Tryd.prog laws_markStringS.E k laws_markStringS.a (laws_markStringS.G k) 1000 (bodyOf Tryd.prog 16) [.own 0, .v (.int .i64 a1)] [.row 9 .str a0] = laws_markStringS.f k a0 a1 := by kernel_rfl
set_option maxRecDepth 100000 in
theorem laws_markStringS.eq6 (k : Nat) (h0 : List ByteArray) (x1 : Int) (x5 : Int) : fromPt Tryd.prog laws_markStringS.E k laws_markStringS.a (laws_markStringS.G k) 1000 (bodyOf Tryd.prog 16) 6 [.own 0, .v (.int .i64 x1), .v (.int .i64 x5)] [.row 9 .str h0] = laws_markStringS.p6 (k + 1) h0 x1 x5 := by kernel_rfl
theorem laws_markStringS.G6_0 {avs : List AV} {H : List HE} : laws_markStringS.G6 0 avs H = none := by unfold laws_markStringS.G6; split <;> rfl
theorem laws_markStringS.G6_s (k : Nat) {avs : List AV} {H : List HE} {x : List ByteArray × Int} (h : laws_markStringS.G6 (k + 1) avs H = some x) : fromPt Tryd.prog laws_markStringS.E k laws_markStringS.a (laws_markStringS.G k) 1000 (bodyOf Tryd.prog 16) 6 avs H = some x := by
  unfold laws_markStringS.G6 at h
  split at h
  · rw [← h]; exact laws_markStringS.eq6 _ _ _ _
  · cases h
theorem laws_markStringS.E_ok : EnvOk Tryd.prog laws_markStringS.E := ⟨⟨laws_markText.sound, callable_of (by kernel_rfl)⟩, trivial⟩
theorem laws_markStringS.sound : Sound Tryd.prog 16 laws_markStringS.s := by
  refine func_sound (f := laws_markStringS.a) (G := laws_markStringS.G) (fn := Tryd.f16) (body := bodyOf Tryd.prog 16) 1000 (by kernel_rfl) laws_markStringS.E_ok Tryd.func16 (by kernel_rfl) (by kernel_rfl) (by kernel_rfl) (ptsOk_of (by kernel_rfl)) ?_ ?_ ?_ ?_
  · intro r H x h
    unfold laws_markStringS.a at h
    simp only at h
    split at h
    · cases h; rfl
    · cases h
  · exact fun q avs H => pick1_none laws_markStringS.G6_0 (rfl)
  · intro k q pt avs H x _ h
    rcases pick1_some h with ⟨rfl, h⟩ | h
    · exact laws_markStringS.G6_s _ h
    cases h
  · intro k avs H o h
    try dsimp only at h
    split at h
    · cases h; exact laws_markStringS.eq _ _ _
    · cases h

def laws_markInt64S.a : FnA (List Int × Int) := ⟨19, [.tmp 4], .val, [.keep], [⟨6, [0, 1, 5], [.row 2 (.int .i64), .val, .val], [.keep]⟩], fun x H => match x, H with
  | .v (.int .i64 r), [.row 2 (.int .i64) h0] => some (h0, r)
  | _, _ => none⟩
def laws_markInt64S.s : Spec := mkS [.row 2 (.int .i64), .val] (fun k avs H => match avs, H with
  | [.own 0, .v (.int .i64 a1)], [.row 2 (.int .i64) a0] => some (laws_markInt64S.f k a0 a1)
  | _, _ => none) (fun r => (.v (.int .i64 r.2), [.row 2 (.int .i64) r.1]))
def laws_markInt64S.E : Env := []
def laws_markInt64S.G6 (k : Nat) (avs : List AV) (H : List HE) : Option (List Int × Int) := match avs, H with
  | [.own 0, .v (.int .i64 x1), .v (.int .i64 x5)], [.row 2 (.int .i64) h0] => laws_markInt64S.p6 k h0 x1 x5
  | _, _ => none
def laws_markInt64S.G (k p : Nat) (avs : List AV) (H : List HE) : Option (List Int × Int) := (pick1 6 (laws_markInt64S.G6 k avs H) none p)
set_option maxRecDepth 100000 in
theorem laws_markInt64S.eq (k : Nat) (a0 : List Int) (a1 : Int) : fromTop Tryd.prog laws_markInt64S.E k laws_markInt64S.a (laws_markInt64S.G k) 1000 (bodyOf Tryd.prog 18) [.own 0, .v (.int .i64 a1)] [.row 2 (.int .i64) a0] = laws_markInt64S.f k a0 a1 := by kernel_rfl
set_option maxRecDepth 100000 in
theorem laws_markInt64S.eq6 (k : Nat) (h0 : List Int) (x1 : Int) (x5 : Int) : fromPt Tryd.prog laws_markInt64S.E k laws_markInt64S.a (laws_markInt64S.G k) 1000 (bodyOf Tryd.prog 18) 6 [.own 0, .v (.int .i64 x1), .v (.int .i64 x5)] [.row 2 (.int .i64) h0] = laws_markInt64S.p6 (k + 1) h0 x1 x5 := by kernel_rfl
theorem laws_markInt64S.G6_0 {avs : List AV} {H : List HE} : laws_markInt64S.G6 0 avs H = none := by unfold laws_markInt64S.G6; split <;> rfl
theorem laws_markInt64S.G6_s (k : Nat) {avs : List AV} {H : List HE} {x : List Int × Int} (h : laws_markInt64S.G6 (k + 1) avs H = some x) : fromPt Tryd.prog laws_markInt64S.E k laws_markInt64S.a (laws_markInt64S.G k) 1000 (bodyOf Tryd.prog 18) 6 avs H = some x := by
  unfold laws_markInt64S.G6 at h
  split at h
  · rw [← h]; exact laws_markInt64S.eq6 _ _ _ _
  · cases h
theorem laws_markInt64S.E_ok : EnvOk Tryd.prog laws_markInt64S.E := trivial
theorem laws_markInt64S.sound : Sound Tryd.prog 18 laws_markInt64S.s := by
  refine func_sound (f := laws_markInt64S.a) (G := laws_markInt64S.G) (fn := Tryd.f18) (body := bodyOf Tryd.prog 18) 1000 (by kernel_rfl) laws_markInt64S.E_ok Tryd.func18 (by kernel_rfl) (by kernel_rfl) (by kernel_rfl) (ptsOk_of (by kernel_rfl)) ?_ ?_ ?_ ?_
  · intro r H x h
    unfold laws_markInt64S.a at h
    simp only at h
    split at h
    · cases h; rfl
    · cases h
  · exact fun q avs H => pick1_none laws_markInt64S.G6_0 (rfl)
  · intro k q pt avs H x _ h
    rcases pick1_some h with ⟨rfl, h⟩ | h
    · exact laws_markInt64S.G6_s _ h
    cases h
  · intro k avs H o h
    try dsimp only at h
    split at h
    · cases h; exact laws_markInt64S.eq _ _ _
    · cases h

def laws_markObjS.a : FnA (List (Int × List Int) × Int) := ⟨27, [.tmp 4], .val, [.keep], [⟨6, [0, 1, 5], [.row 45 (.pair (.int .i64) (.sl (.int .i64))), .val, .val], [.keep]⟩], fun x H => match x, H with
  | .v (.int .i64 r), [.tre 45 2 (.pair (.int .i64) (.sl (.int .i64))) h0 none] => some (h0, r)
  | _, _ => none⟩
def laws_markObjS.s : Spec := mkS [.row 45 (.pair (.int .i64) (.sl (.int .i64))), .val] (fun k avs H => match avs, H with
  | [.own 0, .v (.int .i64 a1)], [.tre 45 2 (.pair (.int .i64) (.sl (.int .i64))) a0 none] => some (laws_markObjS.f k a0 a1)
  | _, _ => none) (fun r => (.v (.int .i64 r.2), [.tre 45 2 (.pair (.int .i64) (.sl (.int .i64))) r.1 none]))
def laws_markObjS.E : Env := [((18, []), laws_markInt64S.s)]
def laws_markObjS.G6 (k : Nat) (avs : List AV) (H : List HE) : Option (List (Int × List Int) × Int) := match avs, H with
  | [.own 0, .v (.int .i64 x1), .v (.int .i64 x5)], [.tre 45 2 (.pair (.int .i64) (.sl (.int .i64))) h0 none] => laws_markObjS.p6 k h0 x1 x5
  | _, _ => none
def laws_markObjS.G (k p : Nat) (avs : List AV) (H : List HE) : Option (List (Int × List Int) × Int) := (pick1 6 (laws_markObjS.G6 k avs H) none p)
set_option maxRecDepth 100000 in
theorem laws_markObjS.eq (k : Nat) (a0 : List (Int × List Int)) (a1 : Int) : fromTop Tryd.prog laws_markObjS.E k laws_markObjS.a (laws_markObjS.G k) 1000 (bodyOf Tryd.prog 41) [.own 0, .v (.int .i64 a1)] [.tre 45 2 (.pair (.int .i64) (.sl (.int .i64))) a0 none] = laws_markObjS.f k a0 a1 := by kernel_rfl
set_option maxRecDepth 100000 in
theorem laws_markObjS.eq6 (k : Nat) (h0 : List (Int × List Int)) (x1 : Int) (x5 : Int) : fromPt Tryd.prog laws_markObjS.E k laws_markObjS.a (laws_markObjS.G k) 1000 (bodyOf Tryd.prog 41) 6 [.own 0, .v (.int .i64 x1), .v (.int .i64 x5)] [.tre 45 2 (.pair (.int .i64) (.sl (.int .i64))) h0 none] = laws_markObjS.p6 (k + 1) h0 x1 x5 := by kernel_rfl
theorem laws_markObjS.G6_0 {avs : List AV} {H : List HE} : laws_markObjS.G6 0 avs H = none := by unfold laws_markObjS.G6; split <;> rfl
theorem laws_markObjS.G6_s (k : Nat) {avs : List AV} {H : List HE} {x : List (Int × List Int) × Int} (h : laws_markObjS.G6 (k + 1) avs H = some x) : fromPt Tryd.prog laws_markObjS.E k laws_markObjS.a (laws_markObjS.G k) 1000 (bodyOf Tryd.prog 41) 6 avs H = some x := by
  unfold laws_markObjS.G6 at h
  split at h
  · rw [← h]; exact laws_markObjS.eq6 _ _ _ _
  · cases h
theorem laws_markObjS.E_ok : EnvOk Tryd.prog laws_markObjS.E := ⟨⟨laws_markInt64S.sound, callable_of (by kernel_rfl)⟩, trivial⟩
theorem laws_markObjS.sound : Sound Tryd.prog 41 laws_markObjS.s := by
  refine func_sound (f := laws_markObjS.a) (G := laws_markObjS.G) (fn := Tryd.f41) (body := bodyOf Tryd.prog 41) 1000 (by kernel_rfl) laws_markObjS.E_ok Tryd.func41 (by kernel_rfl) (by kernel_rfl) (by kernel_rfl) (ptsOk_of (by kernel_rfl)) ?_ ?_ ?_ ?_
  · intro r H x h
    unfold laws_markObjS.a at h
    simp only at h
    split at h
    · cases h; rfl
    · cases h
  · exact fun q avs H => pick1_none laws_markObjS.G6_0 (rfl)
  · intro k q pt avs H x _ h
    rcases pick1_some h with ⟨rfl, h⟩ | h
    · exact laws_markObjS.G6_s _ h
    cases h
  · intro k avs H o h
    try dsimp only at h
    split at h
    · cases h; exact laws_markObjS.eq _ _ _
    · cases h

def laws_markGraph.a : FnA (List Int × List (Int × List Int) × Int) := ⟨14, [.tmp 4], .val, [.keep, .keep], [], fun x H => match x, H with
  | .v (.int .i64 r), [.row 2 (.int .i64) h0, .tre 45 2 (.pair (.int .i64) (.sl (.int .i64))) h1 none] => some (h0, h1, r)
  | _, _ => none⟩
def laws_markGraph.s : Spec := mkS [.agg [.row 2 (.int .i64), .row 45 (.pair (.int .i64) (.sl (.int .i64)))], .val] (fun k avs H => match avs, H with
  | [.agg [.own 0, .own 1], .v (.int .i64 a1)], [.row 2 (.int .i64) a0_0, .tre 45 2 (.pair (.int .i64) (.sl (.int .i64))) a0_1 none] => some (laws_markGraph.f k a0_0 a0_1 a1)
  | _, _ => none) (fun r => (.v (.int .i64 r.2.2), [.row 2 (.int .i64) r.1, .tre 45 2 (.pair (.int .i64) (.sl (.int .i64))) r.2.1 none]))
def laws_markGraph.E : Env := [((18, []), laws_markInt64S.s), ((41, []), laws_markObjS.s)]
def laws_markGraph.G (k p : Nat) (avs : List AV) (H : List HE) : Option (List Int × List (Int × List Int) × Int) := none
set_option maxRecDepth 100000 in
theorem laws_markGraph.eq (k : Nat) (a0_0 : List Int) (a0_1 : List (Int × List Int)) (a1 : Int) : fromTop Tryd.prog laws_markGraph.E k laws_markGraph.a (laws_markGraph.G k) 1000 (bodyOf Tryd.prog 17) [.agg [.own 0, .own 1], .v (.int .i64 a1)] [.row 2 (.int .i64) a0_0, .tre 45 2 (.pair (.int .i64) (.sl (.int .i64))) a0_1 none] = laws_markGraph.f k a0_0 a0_1 a1 := by kernel_rfl
theorem laws_markGraph.E_ok : EnvOk Tryd.prog laws_markGraph.E := ⟨⟨laws_markInt64S.sound, callable_of (by kernel_rfl)⟩, ⟨laws_markObjS.sound, callable_of (by kernel_rfl)⟩, trivial⟩
theorem laws_markGraph.sound : Sound Tryd.prog 17 laws_markGraph.s := by
  refine func_sound (f := laws_markGraph.a) (G := laws_markGraph.G) (fn := Tryd.f17) (body := bodyOf Tryd.prog 17) 1000 (by kernel_rfl) laws_markGraph.E_ok Tryd.func17 (by kernel_rfl) (by kernel_rfl) (by kernel_rfl) (ptsOk_of (by kernel_rfl)) ?_ ?_ ?_ ?_
  · intro r H x h
    unfold laws_markGraph.a at h
    simp only at h
    split at h
    · cases h; rfl
    · cases h
  · intro q avs H; rfl
  · intro k q pt avs H x _ h; cases h
  · intro k avs H o h
    try dsimp only at h
    split at h
    · cases h; exact laws_markGraph.eq _ _ _ _
    · cases h

def laws_heldInt64S.a : FnA (Int) := ⟨21, [.tmp 4], .val, [], [⟨6, [0, 1, 5], [.con (.int .i64), .val, .val], []⟩], fun x H => match x, H with
  | .v (.int .i64 r), [] => some r
  | _, _ => none⟩
def laws_heldInt64S.s : Spec := mkS [.con (.int .i64), .val] (fun k avs H => match avs, H with
  | [.con (.int .i64) a0, .v (.int .i64 a1)], [] => some (laws_heldInt64S.f k a0 a1)
  | _, _ => none) (fun r => (.v (.int .i64 r), []))
def laws_heldInt64S.E : Env := []
def laws_heldInt64S.G6 (k : Nat) (avs : List AV) (H : List HE) : Option (Int) := match avs, H with
  | [.con (.int .i64) x0, .v (.int .i64 x1), .v (.int .i64 x5)], [] => laws_heldInt64S.p6 k x0 x1 x5
  | _, _ => none
def laws_heldInt64S.G (k p : Nat) (avs : List AV) (H : List HE) : Option (Int) := (pick1 6 (laws_heldInt64S.G6 k avs H) none p)
set_option maxRecDepth 100000 in
theorem laws_heldInt64S.eq (k : Nat) (a0 : List Int) (a1 : Int) : fromTop Tryd.prog laws_heldInt64S.E k laws_heldInt64S.a (laws_heldInt64S.G k) 1000 (bodyOf Tryd.prog 19) [.con (.int .i64) a0, .v (.int .i64 a1)] [] = laws_heldInt64S.f k a0 a1 := by kernel_rfl
set_option maxRecDepth 100000 in
theorem laws_heldInt64S.eq6 (k : Nat) (x0 : List Int) (x1 : Int) (x5 : Int) : fromPt Tryd.prog laws_heldInt64S.E k laws_heldInt64S.a (laws_heldInt64S.G k) 1000 (bodyOf Tryd.prog 19) 6 [.con (.int .i64) x0, .v (.int .i64 x1), .v (.int .i64 x5)] [] = laws_heldInt64S.p6 (k + 1) x0 x1 x5 := by kernel_rfl
theorem laws_heldInt64S.G6_0 {avs : List AV} {H : List HE} : laws_heldInt64S.G6 0 avs H = none := by unfold laws_heldInt64S.G6; split <;> rfl
theorem laws_heldInt64S.G6_s (k : Nat) {avs : List AV} {H : List HE} {x : Int} (h : laws_heldInt64S.G6 (k + 1) avs H = some x) : fromPt Tryd.prog laws_heldInt64S.E k laws_heldInt64S.a (laws_heldInt64S.G k) 1000 (bodyOf Tryd.prog 19) 6 avs H = some x := by
  unfold laws_heldInt64S.G6 at h
  split at h
  · rw [← h]; exact laws_heldInt64S.eq6 _ _ _ _
  · cases h
theorem laws_heldInt64S.E_ok : EnvOk Tryd.prog laws_heldInt64S.E := trivial
theorem laws_heldInt64S.sound : Sound Tryd.prog 19 laws_heldInt64S.s := by
  refine func_sound (f := laws_heldInt64S.a) (G := laws_heldInt64S.G) (fn := Tryd.f19) (body := bodyOf Tryd.prog 19) 1000 (by kernel_rfl) laws_heldInt64S.E_ok Tryd.func19 (by kernel_rfl) (by kernel_rfl) (by kernel_rfl) (ptsOk_of (by kernel_rfl)) ?_ ?_ ?_ ?_
  · intro r H x h
    unfold laws_heldInt64S.a at h
    simp only at h
    split at h
    · cases h; rfl
    · cases h
  · exact fun q avs H => pick1_none laws_heldInt64S.G6_0 (rfl)
  · intro k q pt avs H x _ h
    rcases pick1_some h with ⟨rfl, h⟩ | h
    · exact laws_heldInt64S.G6_s _ h
    cases h
  · intro k avs H o h
    try dsimp only at h
    split at h
    · cases h; exact laws_heldInt64S.eq _ _ _
    · cases h

def laws_FnExactReached.a : FnA (Bool) := ⟨92, [.tmp 4], .bool, [], [], fun x H => match x, H with
  | .bs false r, [] => some r
  | _, _ => none⟩
def laws_FnExactReached.s : Spec := mkS [.con .str, .agg [.con (.int .i64), .con (.pair (.int .i64) (.sl (.int .i64)))]] (fun k avs H => match avs, H with
  | [.con .str a0, .agg [.con (.int .i64) a1_0, .con (.pair (.int .i64) (.sl (.int .i64))) a1_1]], [] => some (laws_FnExactReached.f k a0 a1_0 a1_1)
  | _, _ => none) (fun r => (.bs false r, []))
def laws_FnExactReached.E : Env := [((5, []), laws_szStringS.s), ((6, []), laws_szGraph.s), ((8, []), laws_toStringS.s), ((9, []), laws_toGraph.s), ((13, []), spec_Reached.s), ((14, []), impl_Reached.s), ((15, []), laws_eqInt64S.s), ((11, []), laws_eqStringS.s), ((12, []), laws_eqGraph.s), ((16, []), laws_markStringS.s), ((17, []), laws_markGraph.s), ((18, []), laws_markInt64S.s), ((19, []), laws_heldInt64S.s)]
def laws_FnExactReached.G (k p : Nat) (avs : List AV) (H : List HE) : Option (Bool) := none
set_option maxRecDepth 100000 in
theorem laws_FnExactReached.eq (k : Nat) (a0 : List ByteArray) (a1_0 : List Int) (a1_1 : List (Int × List Int)) : fromTop Tryd.prog laws_FnExactReached.E k laws_FnExactReached.a (laws_FnExactReached.G k) 1000 (bodyOf Tryd.prog 4) [.con .str a0, .agg [.con (.int .i64) a1_0, .con (.pair (.int .i64) (.sl (.int .i64))) a1_1]] [] = laws_FnExactReached.f k a0 a1_0 a1_1 := by kernel_rfl
theorem laws_FnExactReached.E_ok : EnvOk Tryd.prog laws_FnExactReached.E := ⟨⟨laws_szStringS.sound, callable_of (by kernel_rfl)⟩, ⟨laws_szGraph.sound, callable_of (by kernel_rfl)⟩, ⟨laws_toStringS.sound, callable_of (by kernel_rfl)⟩, ⟨laws_toGraph.sound, callable_of (by kernel_rfl)⟩, ⟨spec_Reached.sound, callable_of (by kernel_rfl)⟩, ⟨impl_Reached.sound, callable_of (by kernel_rfl)⟩, ⟨laws_eqInt64S.sound, callable_of (by kernel_rfl)⟩, ⟨laws_eqStringS.sound, callable_of (by kernel_rfl)⟩, ⟨laws_eqGraph.sound, callable_of (by kernel_rfl)⟩, ⟨laws_markStringS.sound, callable_of (by kernel_rfl)⟩, ⟨laws_markGraph.sound, callable_of (by kernel_rfl)⟩, ⟨laws_markInt64S.sound, callable_of (by kernel_rfl)⟩, ⟨laws_heldInt64S.sound, callable_of (by kernel_rfl)⟩, trivial⟩
theorem laws_FnExactReached.sound : Sound Tryd.prog 4 laws_FnExactReached.s := by
  refine func_sound (f := laws_FnExactReached.a) (G := laws_FnExactReached.G) (fn := Tryd.f4) (body := bodyOf Tryd.prog 4) 1000 (by kernel_rfl) laws_FnExactReached.E_ok Tryd.func4 (by kernel_rfl) (by kernel_rfl) (by kernel_rfl) (ptsOk_of (by kernel_rfl)) ?_ ?_ ?_ ?_
  · intro r H x h
    unfold laws_FnExactReached.a at h
    simp only at h
    split at h
    · cases h; rfl
    · cases h
  · intro q avs H; rfl
  · intro k q pt avs H x _ h; cases h
  · intro k avs H o h
    try dsimp only at h
    split at h
    · cases h; exact laws_FnExactReached.eq _ _ _ _
    · cases h
end
end Go.Proofs.YtommgpkeicpokaaDoor.Abs
