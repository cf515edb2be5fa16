/- They are sound. -/
import Derived.Lib.SplitLaws
import Derived.Test.YtommgpkeicpokaaGreatDoorShelfSt
import Derived.Lib.ParseIntB
import Derived.Lib.AtoiErrMem
import Derived.Test.YtommgpkeicpokaaGreatDoorShelfSc
import Derived.Lib.ItoaNum
import Derived.Lib.LaidTab
import Derived.Sort.Grow
import Derived.Shelf.Strings.SlTrimAscii
import Derived.Test.YtommgpkeicpokaaGreatDoorAbsBld
import Derived.Test.YtommgpkeicpokaaGreatDoorShelfBu
import Derived.Laws.Externs
import Derived.Laws.IdiomCopy
import Derived.Shelf.RegionOpenPlain
import Derived.Test.YtommgpkeicpokaaGreatDoorF3
import Derived.Test.YtommgpkeicpokaaGreatDoorProg
import Derived.Test.YtommgpkeicpokaaGreatDoorF3s1
namespace Go.Proofs.YtommgpkeicpokaaGreatDoor.Abs
open Go Go.RowKit
set_option linter.unusedVariables false
set_option linter.unusedSectionVars false
set_option linter.unusedSimpArgs false
noncomputable section
def laws_markObjS_o1.a : FnA (List (Int × List Int) × Int) := ⟨27, [.tmp 4], .val, [.keep], [⟨6, [0, 1, 5], [.row 66 (.pair (.int .i64) (.sl (.int .i64))), .val, .val], [.keep]⟩], fun x H => match x, H with
  | .v (.int .i64 r), [.tre 1 none 66 2 (.pair (.int .i64) (.sl (.int .i64))) h0 none] => some (h0, r)
  | _, _ => none⟩
def laws_markObjS_o1.s : Spec := mkS [.tre 1 66 2 (.pair (.int .i64) (.sl (.int .i64))), .val] (fun k avs H => match avs, H with
  | [.own 0, .v (.int .i64 a1)], [.tre 1 none 66 2 (.pair (.int .i64) (.sl (.int .i64))) a0 none] => some (laws_markObjS_o1.f k a0 a1)
  | _, _ => none) (fun r => (.v (.int .i64 r.2), [.tre 1 none 66 2 (.pair (.int .i64) (.sl (.int .i64))) r.1 none]))
def laws_markObjS_o1.E : Env := [((31, []), laws_markInt64S_s1.s)]
def laws_markObjS_o1.G6 (k : Nat) (avs : List AV) (H : List HE) : Option (List (Int × List Int) × Int) := match avs, H with
  | [.own 0, .v (.int .i64 x1), .v (.int .i64 x5)], [.tre 1 none 66 2 (.pair (.int .i64) (.sl (.int .i64))) h0 none] => laws_markObjS_o1.p6 k h0 x1 x5
  | _, _ => none
def laws_markObjS_o1.G (k p : Nat) (avs : List AV) (H : List HE) : Option (List (Int × List Int) × Int) := (pick1 6 (laws_markObjS_o1.G6 k avs H) none p)
set_option maxRecDepth 100000 in
theorem laws_markObjS_o1.eq (k : Nat) (a0 : List (Int × List Int)) (a1 : Int) : fromTop Tryz.prog laws_markObjS_o1.E k laws_markObjS_o1.a (laws_markObjS_o1.G k) 1000 (bodyOf Tryz.prog 42) [.own 0, .v (.int .i64 a1)] [.tre 1 none 66 2 (.pair (.int .i64) (.sl (.int .i64))) a0 none] = laws_markObjS_o1.f k a0 a1 := by kernel_rfl
set_option maxRecDepth 100000 in
theorem laws_markObjS_o1.eq6 (k : Nat) (h0 : List (Int × List Int)) (x1 : Int) (x5 : Int) : fromPt Tryz.prog laws_markObjS_o1.E k laws_markObjS_o1.a (laws_markObjS_o1.G k) 1000 (bodyOf Tryz.prog 42) 6 [.own 0, .v (.int .i64 x1), .v (.int .i64 x5)] [.tre 1 none 66 2 (.pair (.int .i64) (.sl (.int .i64))) h0 none] = laws_markObjS_o1.p6 (k + 1) h0 x1 x5 := by kernel_rfl
theorem laws_markObjS_o1.G6_0 {avs : List AV} {H : List HE} : laws_markObjS_o1.G6 0 avs H = none := by unfold laws_markObjS_o1.G6; split <;> rfl
theorem laws_markObjS_o1.G6_s (k : Nat) {avs : List AV} {H : List HE} {x : List (Int × List Int) × Int} (h : laws_markObjS_o1.G6 (k + 1) avs H = some x) : fromPt Tryz.prog laws_markObjS_o1.E k laws_markObjS_o1.a (laws_markObjS_o1.G k) 1000 (bodyOf Tryz.prog 42) 6 avs H = some x := by
  unfold laws_markObjS_o1.G6 at h
  split at h
  · rw [← h]; exact laws_markObjS_o1.eq6 _ _ _ _
  · cases h
theorem laws_markObjS_o1.E_ok : EnvOk Tryz.prog laws_markObjS_o1.E := ⟨⟨laws_markInt64S_s1.sound, callable_of (by kernel_rfl)⟩, trivial⟩
theorem laws_markObjS_o1.sound : Sound Tryz.prog 42 laws_markObjS_o1.s := by
  refine func_sound (f := laws_markObjS_o1.a) (G := laws_markObjS_o1.G) (fn := Tryz.f42) (body := bodyOf Tryz.prog 42) 1000 (by kernel_rfl) laws_markObjS_o1.E_ok Tryz.func42 (by kernel_rfl) (by kernel_rfl) (by kernel_rfl) (ptsOk_of (by kernel_rfl)) ?_ ?_ ?_ ?_
  · intro r H x h
    unfold laws_markObjS_o1.a at h
    simp only at h
    split at h
    · cases h; rfl
    · cases h
  · exact fun q avs H => pick1_none laws_markObjS_o1.G6_0 (rfl)
  · intro k q pt avs H x _ h
    rcases pick1_some h with ⟨rfl, h⟩ | h
    · exact laws_markObjS_o1.G6_s _ h
    cases h
  · intro k avs H o h
    try dsimp only at h
    split at h
    · cases h; exact laws_markObjS_o1.eq _ _ _
    · cases h

def laws_markGraph_o1.a : FnA (List Int × List (Int × List Int) × Int) := ⟨14, [.tmp 4], .val, [.keep, .keep], [], fun x H => match x, H with
  | .v (.int .i64 r), [.row 2 (.int .i64) h0, .tre 1 none 66 2 (.pair (.int .i64) (.sl (.int .i64))) h1 none] => some (h0, h1, r)
  | _, _ => none⟩
def laws_markGraph_o1.s : Spec := mkS [.agg [.row 2 (.int .i64), .tre 1 66 2 (.pair (.int .i64) (.sl (.int .i64)))], .val] (fun k avs H => match avs, H with
  | [.agg [.own 0, .own 1], .v (.int .i64 a1)], [.row 2 (.int .i64) a0_0, .tre 1 none 66 2 (.pair (.int .i64) (.sl (.int .i64))) a0_1 none] => some (laws_markGraph_o1.f k a0_0 a0_1 a1)
  | _, _ => none) (fun r => (.v (.int .i64 r.2.2), [.row 2 (.int .i64) r.1, .tre 1 none 66 2 (.pair (.int .i64) (.sl (.int .i64))) r.2.1 none]))
def laws_markGraph_o1.E : Env := [((31, []), laws_markInt64S.s), ((42, []), laws_markObjS_o1.s)]
def laws_markGraph_o1.G (k p : Nat) (avs : List AV) (H : List HE) : Option (List Int × List (Int × List Int) × Int) := none
set_option maxRecDepth 100000 in
theorem laws_markGraph_o1.eq (k : Nat) (a0_0 : List Int) (a0_1 : List (Int × List Int)) (a1 : Int) : fromTop Tryz.prog laws_markGraph_o1.E k laws_markGraph_o1.a (laws_markGraph_o1.G k) 1000 (bodyOf Tryz.prog 14) [.agg [.own 0, .own 1], .v (.int .i64 a1)] [.row 2 (.int .i64) a0_0, .tre 1 none 66 2 (.pair (.int .i64) (.sl (.int .i64))) a0_1 none] = laws_markGraph_o1.f k a0_0 a0_1 a1 := by kernel_rfl
theorem laws_markGraph_o1.E_ok : EnvOk Tryz.prog laws_markGraph_o1.E := ⟨⟨laws_markInt64S.sound, callable_of (by kernel_rfl)⟩, ⟨laws_markObjS_o1.sound, callable_of (by kernel_rfl)⟩, trivial⟩
theorem laws_markGraph_o1.sound : Sound Tryz.prog 14 laws_markGraph_o1.s := by
  refine func_sound (f := laws_markGraph_o1.a) (G := laws_markGraph_o1.G) (fn := Tryz.f14) (body := bodyOf Tryz.prog 14) 1000 (by kernel_rfl) laws_markGraph_o1.E_ok Tryz.func14 (by kernel_rfl) (by kernel_rfl) (by kernel_rfl) (ptsOk_of (by kernel_rfl)) ?_ ?_ ?_ ?_
  · intro r H x h
    unfold laws_markGraph_o1.a at h
    simp only at h
    split at h
    · cases h; rfl
    · cases h
  · intro q avs H; rfl
  · intro k q pt avs H x _ h; cases h
  · intro k avs H o h
    try dsimp only at h
    split at h
    · cases h; exact laws_markGraph_o1.eq _ _ _ _
    · cases h

def laws_heldInt64S.a : FnA (Int) := ⟨21, [.tmp 4], .val, [], [⟨6, [0, 1, 5], [.con (.int .i64), .val, .val], []⟩], fun x H => match x, H with
  | .v (.int .i64 r), [] => some r
  | _, _ => none⟩
def laws_heldInt64S.s : Spec := mkS [.con (.int .i64), .val] (fun k avs H => match avs, H with
  | [.con (.int .i64) a0, .v (.int .i64 a1)], [] => some (laws_heldInt64S.f k a0 a1)
  | _, _ => none) (fun r => (.v (.int .i64 r), []))
def laws_heldInt64S.E : Env := []
def laws_heldInt64S.G6 (k : Nat) (avs : List AV) (H : List HE) : Option (Int) := match avs, H with
  | [.con (.int .i64) x0, .v (.int .i64 x1), .v (.int .i64 x5)], [] => laws_heldInt64S.p6 k x0 x1 x5
  | _, _ => none
def laws_heldInt64S.G (k p : Nat) (avs : List AV) (H : List HE) : Option (Int) := (pick1 6 (laws_heldInt64S.G6 k avs H) none p)
set_option maxRecDepth 100000 in
theorem laws_heldInt64S.eq (k : Nat) (a0 : List Int) (a1 : Int) : fromTop Tryz.prog laws_heldInt64S.E k laws_heldInt64S.a (laws_heldInt64S.G k) 1000 (bodyOf Tryz.prog 32) [.con (.int .i64) a0, .v (.int .i64 a1)] [] = laws_heldInt64S.f k a0 a1 := by kernel_rfl
set_option maxRecDepth 100000 in
theorem laws_heldInt64S.eq6 (k : Nat) (x0 : List Int) (x1 : Int) (x5 : Int) : fromPt Tryz.prog laws_heldInt64S.E k laws_heldInt64S.a (laws_heldInt64S.G k) 1000 (bodyOf Tryz.prog 32) 6 [.con (.int .i64) x0, .v (.int .i64 x1), .v (.int .i64 x5)] [] = laws_heldInt64S.p6 (k + 1) x0 x1 x5 := by kernel_rfl
theorem laws_heldInt64S.G6_0 {avs : List AV} {H : List HE} : laws_heldInt64S.G6 0 avs H = none := by unfold laws_heldInt64S.G6; split <;> rfl
theorem laws_heldInt64S.G6_s (k : Nat) {avs : List AV} {H : List HE} {x : Int} (h : laws_heldInt64S.G6 (k + 1) avs H = some x) : fromPt Tryz.prog laws_heldInt64S.E k laws_heldInt64S.a (laws_heldInt64S.G k) 1000 (bodyOf Tryz.prog 32) 6 avs H = some x := by
  unfold laws_heldInt64S.G6 at h
  split at h
  · rw [← h]; exact laws_heldInt64S.eq6 _ _ _ _
  · cases h
theorem laws_heldInt64S.E_ok : EnvOk Tryz.prog laws_heldInt64S.E := trivial
theorem laws_heldInt64S.sound : Sound Tryz.prog 32 laws_heldInt64S.s := by
  refine func_sound (f := laws_heldInt64S.a) (G := laws_heldInt64S.G) (fn := Tryz.f32) (body := bodyOf Tryz.prog 32) 1000 (by kernel_rfl) laws_heldInt64S.E_ok Tryz.func32 (by kernel_rfl) (by kernel_rfl) (by kernel_rfl) (ptsOk_of (by kernel_rfl)) ?_ ?_ ?_ ?_
  · intro r H x h
    unfold laws_heldInt64S.a at h
    simp only at h
    split at h
    · cases h; rfl
    · cases h
  · exact fun q avs H => pick1_none laws_heldInt64S.G6_0 (rfl)
  · intro k q pt avs H x _ h
    rcases pick1_some h with ⟨rfl, h⟩ | h
    · exact laws_heldInt64S.G6_s _ h
    cases h
  · intro k avs H o h
    try dsimp only at h
    split at h
    · cases h; exact laws_heldInt64S.eq _ _ _
    · cases h

def laws_heldObjS.a : FnA (Int) := ⟨31, [.tmp 4], .val, [], [⟨6, [0, 1, 5], [.con (.pair (.int .i64) (.sl (.int .i64))), .val, .val], []⟩], fun x H => match x, H with
  | .v (.int .i64 r), [] => some r
  | _, _ => none⟩
def laws_heldObjS.s : Spec := mkS [.con (.pair (.int .i64) (.sl (.int .i64))), .val] (fun k avs H => match avs, H with
  | [.con (.pair (.int .i64) (.sl (.int .i64))) a0, .v (.int .i64 a1)], [] => some (laws_heldObjS.f k a0 a1)
  | _, _ => none) (fun r => (.v (.int .i64 r), []))
def laws_heldObjS.E : Env := [((32, []), laws_heldInt64S.s)]
def laws_heldObjS.G6 (k : Nat) (avs : List AV) (H : List HE) : Option (Int) := match avs, H with
  | [.con (.pair (.int .i64) (.sl (.int .i64))) x0, .v (.int .i64 x1), .v (.int .i64 x5)], [] => laws_heldObjS.p6 k x0 x1 x5
  | _, _ => none
def laws_heldObjS.G (k p : Nat) (avs : List AV) (H : List HE) : Option (Int) := (pick1 6 (laws_heldObjS.G6 k avs H) none p)
set_option maxRecDepth 100000 in
theorem laws_heldObjS.eq (k : Nat) (a0 : List (Int × List Int)) (a1 : Int) : fromTop Tryz.prog laws_heldObjS.E k laws_heldObjS.a (laws_heldObjS.G k) 1000 (bodyOf Tryz.prog 43) [.con (.pair (.int .i64) (.sl (.int .i64))) a0, .v (.int .i64 a1)] [] = laws_heldObjS.f k a0 a1 := by kernel_rfl
set_option maxRecDepth 100000 in
theorem laws_heldObjS.eq6 (k : Nat) (x0 : List (Int × List Int)) (x1 : Int) (x5 : Int) : fromPt Tryz.prog laws_heldObjS.E k laws_heldObjS.a (laws_heldObjS.G k) 1000 (bodyOf Tryz.prog 43) 6 [.con (.pair (.int .i64) (.sl (.int .i64))) x0, .v (.int .i64 x1), .v (.int .i64 x5)] [] = laws_heldObjS.p6 (k + 1) x0 x1 x5 := by kernel_rfl
theorem laws_heldObjS.G6_0 {avs : List AV} {H : List HE} : laws_heldObjS.G6 0 avs H = none := by unfold laws_heldObjS.G6; split <;> rfl
theorem laws_heldObjS.G6_s (k : Nat) {avs : List AV} {H : List HE} {x : Int} (h : laws_heldObjS.G6 (k + 1) avs H = some x) : fromPt Tryz.prog laws_heldObjS.E k laws_heldObjS.a (laws_heldObjS.G k) 1000 (bodyOf Tryz.prog 43) 6 avs H = some x := by
  unfold laws_heldObjS.G6 at h
  split at h
  · rw [← h]; exact laws_heldObjS.eq6 _ _ _ _
  · cases h
theorem laws_heldObjS.E_ok : EnvOk Tryz.prog laws_heldObjS.E := ⟨⟨laws_heldInt64S.sound, callable_of (by kernel_rfl)⟩, trivial⟩
theorem laws_heldObjS.sound : Sound Tryz.prog 43 laws_heldObjS.s := by
  refine func_sound (f := laws_heldObjS.a) (G := laws_heldObjS.G) (fn := Tryz.f43) (body := bodyOf Tryz.prog 43) 1000 (by kernel_rfl) laws_heldObjS.E_ok Tryz.func43 (by kernel_rfl) (by kernel_rfl) (by kernel_rfl) (ptsOk_of (by kernel_rfl)) ?_ ?_ ?_ ?_
  · intro r H x h
    unfold laws_heldObjS.a at h
    simp only at h
    split at h
    · cases h; rfl
    · cases h
  · exact fun q avs H => pick1_none laws_heldObjS.G6_0 (rfl)
  · intro k q pt avs H x _ h
    rcases pick1_some h with ⟨rfl, h⟩ | h
    · exact laws_heldObjS.G6_s _ h
    cases h
  · intro k avs H o h
    try dsimp only at h
    split at h
    · cases h; exact laws_heldObjS.eq _ _ _
    · cases h

def laws_heldGraph.a : FnA (Int) := ⟨18, [.tmp 4], .val, [], [], fun x H => match x, H with
  | .v (.int .i64 r), [] => some r
  | _, _ => none⟩
def laws_heldGraph.s : Spec := mkS [.agg [.con (.int .i64), .con (.pair (.int .i64) (.sl (.int .i64)))], .val] (fun k avs H => match avs, H with
  | [.agg [.con (.int .i64) a0_0, .con (.pair (.int .i64) (.sl (.int .i64))) a0_1], .v (.int .i64 a1)], [] => some (laws_heldGraph.f k a0_0 a0_1 a1)
  | _, _ => none) (fun r => (.v (.int .i64 r), []))
def laws_heldGraph.E : Env := [((32, []), laws_heldInt64S.s), ((43, []), laws_heldObjS.s)]
def laws_heldGraph.G (k p : Nat) (avs : List AV) (H : List HE) : Option (Int) := none
set_option maxRecDepth 100000 in
theorem laws_heldGraph.eq (k : Nat) (a0_0 : List Int) (a0_1 : List (Int × List Int)) (a1 : Int) : fromTop Tryz.prog laws_heldGraph.E k laws_heldGraph.a (laws_heldGraph.G k) 1000 (bodyOf Tryz.prog 15) [.agg [.con (.int .i64) a0_0, .con (.pair (.int .i64) (.sl (.int .i64))) a0_1], .v (.int .i64 a1)] [] = laws_heldGraph.f k a0_0 a0_1 a1 := by kernel_rfl
theorem laws_heldGraph.E_ok : EnvOk Tryz.prog laws_heldGraph.E := ⟨⟨laws_heldInt64S.sound, callable_of (by kernel_rfl)⟩, ⟨laws_heldObjS.sound, callable_of (by kernel_rfl)⟩, trivial⟩
theorem laws_heldGraph.sound : Sound Tryz.prog 15 laws_heldGraph.s := by
  refine func_sound (f := laws_heldGraph.a) (G := laws_heldGraph.G) (fn := Tryz.f15) (body := bodyOf Tryz.prog 15) 1000 (by kernel_rfl) laws_heldGraph.E_ok Tryz.func15 (by kernel_rfl) (by kernel_rfl) (by kernel_rfl) (ptsOk_of (by kernel_rfl)) ?_ ?_ ?_ ?_
  · intro r H x h
    unfold laws_heldGraph.a at h
    simp only at h
    split at h
    · cases h; rfl
    · cases h
  · intro q avs H; rfl
  · intro k q pt avs H x _ h; cases h
  · intro k avs H o h
    try dsimp only at h
    split at h
    · cases h; exact laws_heldGraph.eq _ _ _ _
    · cases h

def laws_FnExactReadGraph.a : FnA (Bool) := ⟨104, [.tmp 4], .bool, [], [⟨31, [0, 1, 6, 7, 8, 9, 10, 47], [.con .str, .val, .box [.row 2 (.int .i64), .tre 1 66 2 (.pair (.int .i64) (.sl (.int .i64)))], .bool, .row 9 .str, .box [.row 2 (.int .i64), .tre 1 66 2 (.pair (.int .i64) (.sl (.int .i64)))], .bool, .bool], []⟩, ⟨51, [0, 1, 6, 7, 9, 68], [.con .str, .val, .box [.row 2 (.int .i64), .tre 1 66 2 (.pair (.int .i64) (.sl (.int .i64)))], .bool, .box [.row 2 (.int .i64), .tre 1 66 2 (.pair (.int .i64) (.sl (.int .i64)))], .bool], []⟩], fun x H => match x, H with
  | .bs false r, [] => some r
  | _, _ => none⟩
def laws_FnExactReadGraph.s : Spec := mkS [.con .str, .val] (fun k avs H => match avs, H with
  | [.con .str a0, .v (.string a1)], [] => some (laws_FnExactReadGraph.f k a0 a1)
  | _, _ => none) (fun r => (.bs false r, []))
def laws_FnExactReadGraph.E : Env := [((7, []), laws_szStringS.s), ((9, []), laws_toStringS.s), ((8, []), spec_ReadGraph.s), ((10, []), impl_ReadGraph.s), ((11, []), laws_eqGraph.s), ((14, []), laws_markGraph_o1.s), ((15, []), laws_heldGraph.s), ((12, []), laws_eqStringS.s), ((13, []), laws_markStringS.s)]
def laws_FnExactReadGraph.G31 (k : Nat) (avs : List AV) (H : List HE) : Option (Bool) := match avs, H with
  | [.con .str x0, .v (.string x1), .box 0 0, .bs false x7, .own 3, .box 4 0, .bs false x10, .bs false x47], [.box [.own 1, .own 2], .row 2 (.int .i64) x6_0, .tre 1 none 66 2 (.pair (.int .i64) (.sl (.int .i64))) x6_1 none, .row 9 .str x8, .box [.own 5, .own 6], .row 2 (.int .i64) x9_0, .tre 1 none 66 2 (.pair (.int .i64) (.sl (.int .i64))) x9_1 none] => laws_FnExactReadGraph.p31 k x0 x1 x6_0 x6_1 x7 x8 x9_0 x9_1 x10 x47
  | _, _ => none
def laws_FnExactReadGraph.G51 (k : Nat) (avs : List AV) (H : List HE) : Option (Bool) := match avs, H with
  | [.con .str x0, .v (.string x1), .box 0 0, .bs false x7, .box 3 0, .bs false x68], [.box [.own 1, .own 2], .row 2 (.int .i64) x6_0, .tre 1 none 66 2 (.pair (.int .i64) (.sl (.int .i64))) x6_1 none, .box [.own 4, .own 5], .row 2 (.int .i64) x9_0, .tre 1 none 66 2 (.pair (.int .i64) (.sl (.int .i64))) x9_1 none] => laws_FnExactReadGraph.p51 k x0 x1 x6_0 x6_1 x7 x9_0 x9_1 x68
  | _, _ => none
def laws_FnExactReadGraph.G (k p : Nat) (avs : List AV) (H : List HE) : Option (Bool) := (pick1 31 (laws_FnExactReadGraph.G31 k avs H) (pick1 51 (laws_FnExactReadGraph.G51 k avs H) none p) p)
set_option maxRecDepth 100000 in
theorem laws_FnExactReadGraph.eq (k : Nat) (a0 : List ByteArray) (a1 : ByteArray) : fromTop Tryz.prog laws_FnExactReadGraph.E k laws_FnExactReadGraph.a (laws_FnExactReadGraph.G k) 1000 (bodyOf Tryz.prog 3) [.con .str a0, .v (.string a1)] [] = laws_FnExactReadGraph.f k a0 a1 := by kernel_rfl
set_option maxRecDepth 100000 in
theorem laws_FnExactReadGraph.eq31 (k : Nat) (x0 : List ByteArray) (x1 : ByteArray) (x6_0 : List Int) (x6_1 : List (Int × List Int)) (x7 : Bool) (x8 : List ByteArray) (x9_0 : List Int) (x9_1 : List (Int × List Int)) (x10 : Bool) (x47 : Bool) : fromPt Tryz.prog laws_FnExactReadGraph.E k laws_FnExactReadGraph.a (laws_FnExactReadGraph.G k) 1000 (bodyOf Tryz.prog 3) 31 [.con .str x0, .v (.string x1), .box 0 0, .bs false x7, .own 3, .box 4 0, .bs false x10, .bs false x47] [.box [.own 1, .own 2], .row 2 (.int .i64) x6_0, .tre 1 none 66 2 (.pair (.int .i64) (.sl (.int .i64))) x6_1 none, .row 9 .str x8, .box [.own 5, .own 6], .row 2 (.int .i64) x9_0, .tre 1 none 66 2 (.pair (.int .i64) (.sl (.int .i64))) x9_1 none] = laws_FnExactReadGraph.p31 (k + 1) x0 x1 x6_0 x6_1 x7 x8 x9_0 x9_1 x10 x47 := by kernel_rfl
theorem laws_FnExactReadGraph.G31_0 {avs : List AV} {H : List HE} : laws_FnExactReadGraph.G31 0 avs H = none := by unfold laws_FnExactReadGraph.G31; split <;> rfl
theorem laws_FnExactReadGraph.G31_s (k : Nat) {avs : List AV} {H : List HE} {x : Bool} (h : laws_FnExactReadGraph.G31 (k + 1) avs H = some x) : fromPt Tryz.prog laws_FnExactReadGraph.E k laws_FnExactReadGraph.a (laws_FnExactReadGraph.G k) 1000 (bodyOf Tryz.prog 3) 31 avs H = some x := by
  unfold laws_FnExactReadGraph.G31 at h
  split at h
  · rw [← h]; exact laws_FnExactReadGraph.eq31 _ _ _ _ _ _ _ _ _ _ _
  · cases h
set_option maxRecDepth 100000 in
theorem laws_FnExactReadGraph.eq51 (k : Nat) (x0 : List ByteArray) (x1 : ByteArray) (x6_0 : List Int) (x6_1 : List (Int × List Int)) (x7 : Bool) (x9_0 : List Int) (x9_1 : List (Int × List Int)) (x68 : Bool) : fromPt Tryz.prog laws_FnExactReadGraph.E k laws_FnExactReadGraph.a (laws_FnExactReadGraph.G k) 1000 (bodyOf Tryz.prog 3) 51 [.con .str x0, .v (.string x1), .box 0 0, .bs false x7, .box 3 0, .bs false x68] [.box [.own 1, .own 2], .row 2 (.int .i64) x6_0, .tre 1 none 66 2 (.pair (.int .i64) (.sl (.int .i64))) x6_1 none, .box [.own 4, .own 5], .row 2 (.int .i64) x9_0, .tre 1 none 66 2 (.pair (.int .i64) (.sl (.int .i64))) x9_1 none] = laws_FnExactReadGraph.p51 (k + 1) x0 x1 x6_0 x6_1 x7 x9_0 x9_1 x68 := by kernel_rfl
theorem laws_FnExactReadGraph.G51_0 {avs : List AV} {H : List HE} : laws_FnExactReadGraph.G51 0 avs H = none := by unfold laws_FnExactReadGraph.G51; split <;> rfl
theorem laws_FnExactReadGraph.G51_s (k : Nat) {avs : List AV} {H : List HE} {x : Bool} (h : laws_FnExactReadGraph.G51 (k + 1) avs H = some x) : fromPt Tryz.prog laws_FnExactReadGraph.E k laws_FnExactReadGraph.a (laws_FnExactReadGraph.G k) 1000 (bodyOf Tryz.prog 3) 51 avs H = some x := by
  unfold laws_FnExactReadGraph.G51 at h
  split at h
  · rw [← h]; exact laws_FnExactReadGraph.eq51 _ _ _ _ _ _ _ _ _
  · cases h
theorem laws_FnExactReadGraph.E_ok : EnvOk Tryz.prog laws_FnExactReadGraph.E := ⟨⟨laws_szStringS.sound, callable_of (by kernel_rfl)⟩, ⟨laws_toStringS.sound, callable_of (by kernel_rfl)⟩, ⟨spec_ReadGraph.sound, callable_of (by kernel_rfl)⟩, ⟨impl_ReadGraph.sound, callable_of (by kernel_rfl)⟩, ⟨laws_eqGraph.sound, callable_of (by kernel_rfl)⟩, ⟨laws_markGraph_o1.sound, callable_of (by kernel_rfl)⟩, ⟨laws_heldGraph.sound, callable_of (by kernel_rfl)⟩, ⟨laws_eqStringS.sound, callable_of (by kernel_rfl)⟩, ⟨laws_markStringS.sound, callable_of (by kernel_rfl)⟩, trivial⟩
theorem laws_FnExactReadGraph.sound : Sound Tryz.prog 3 laws_FnExactReadGraph.s := by
  refine func_sound (f := laws_FnExactReadGraph.a) (G := laws_FnExactReadGraph.G) (fn := Tryz.f3) (body := bodyOf Tryz.prog 3) 1000 (by kernel_rfl) laws_FnExactReadGraph.E_ok Tryz.func3 (by kernel_rfl) (by kernel_rfl) (by kernel_rfl) (ptsOk_of (by kernel_rfl)) ?_ ?_ ?_ ?_
  · intro r H x h
    unfold laws_FnExactReadGraph.a at h
    simp only at h
    split at h
    · cases h; rfl
    · cases h
  · exact fun q avs H => pick1_none laws_FnExactReadGraph.G31_0 (pick1_none laws_FnExactReadGraph.G51_0 (rfl))
  · intro k q pt avs H x _ h
    rcases pick1_some h with ⟨rfl, h⟩ | h
    · exact laws_FnExactReadGraph.G31_s _ h
    rcases pick1_some h with ⟨rfl, h⟩ | h
    · exact laws_FnExactReadGraph.G51_s _ h
    cases h
  · intro k avs H o h
    try dsimp only at h
    split at h
    · cases h; exact laws_FnExactReadGraph.eq _ _ _
    · cases h
end
end Go.Proofs.YtommgpkeicpokaaGreatDoor.Abs
