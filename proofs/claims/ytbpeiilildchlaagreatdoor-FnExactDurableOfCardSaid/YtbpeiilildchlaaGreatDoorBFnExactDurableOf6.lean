/- They are sound. (Merged out of this claim's own texts.) -/
import Derived.Test.YtbpeiilildchlaaGreatDoorBFnExactDurableOf5
import Derived.Shelf.Strings.SlTrimAscii
import Derived.Lib.Repeat
import Derived.Test.YtbpeiilildchlaaGreatDoorProg
import Derived.Test.YtbpeiilildchlaaGreatDoorRows
import Derived.Test.YtbpeiilildchlaaGreatDoorTie
import Derived.Test.YtbpeiilildchlaaGreatDoorCards
import Derived.WalkKit
import Derived.LaidMore
import Derived.Lay
import Derived.SevenTiedAt
import Derived.Stop.Joined
import Derived.ProofKit
import Derived.OpenShut
import Derived.ShutString
import Derived.ChangeOld
import Derived.Below
import Derived.SizedLaws
import Derived.Carry
namespace Go.Proofs.YtbpeiilildchlaaGreatDoor.Abs
open Go Go.RowKit
set_option linter.unusedVariables false
set_option linter.unusedSectionVars false
set_option linter.unusedSimpArgs false
noncomputable section
def impl_oldObject.a : FnA (Int × List Int × Bool) := ⟨73, [.cell 6 46, .tmp 7], .tup [.agg [.val, .row 2 (.int .i64)], .bool], [], [⟨15, [1, 2, 3, 6, 8, 39], [.val, .val, .box [.val, .val, .val, .con .str], .box [.val, .val], .val, .bool], []⟩], fun x H => match x, H with
  | .tup [.agg [.v (.int .i64 r_0_0), .own 0], .bs false r_1], [.row 2 (.int .i64) r_0_1] => some (r_0_0, r_0_1, r_1)
  | _, _ => none⟩
def impl_oldObject.s : Spec := mkS [.agg [.val, .val, .val, .con .str], .val, .val] (fun k avs H => match avs, H with
  | [.agg [.v (.int .i64 a0_0), .v (.int .i64 a0_1), .v (.int .i64 a0_2), .con .str a0_3], .v (.string a1), .v (.int .i64 a2)], [] => some (impl_oldObject.f k a0_0 a0_1 a0_2 a0_3 a1 a2)
  | _, _ => none) (fun r => (.tup [.agg [.v (.int .i64 r.1), .own 0], .bs false r.2.2], [.row 2 (.int .i64) r.2.1]))
def impl_oldObject.E : Env := [((58, []), impl_isData.s), ((55, []), impl_wordAt.s), ((60, []), impl_size_string.s), ((46, []), impl_within.s), ((45, []), impl_runOf.s), ((61, []), impl_ReadObject.s), ((62, [63]), impl_isObject_at_impl_oldObject_1.s)]
def impl_oldObject.G15 (k : Nat) (avs : List AV) (H : List HE) : Option (Int × List Int × Bool) := match avs, H with
  | [.v (.string x1), .v (.int .i64 x2), .box 0 0, .box 1 0, .v (.int .i64 x8), .bs false x39], [.box [.v (.int .i64 x3_0), .v (.int .i64 x3_1), .v (.int .i64 x3_2), .con .str x3_3], .box [.v (.int .i64 x6_0), .v (.slice none 0 0)]] => impl_oldObject.p15 k x1 x2 x3_0 x3_1 x3_2 x3_3 x6_0 x8 x39
  | _, _ => none
def impl_oldObject.G (k p : Nat) (avs : List AV) (H : List HE) : Option (Int × List Int × Bool) := (pick1 15 (impl_oldObject.G15 k avs H) none p)
set_option maxRecDepth 100000 in
theorem impl_oldObject.eq (k : Nat) (a0_0 : Int) (a0_1 : Int) (a0_2 : Int) (a0_3 : List ByteArray) (a1 : ByteArray) (a2 : Int) : fromTop Tryz.prog impl_oldObject.E k impl_oldObject.a (impl_oldObject.G k) 1000 (bodyOf Tryz.prog 43) [.agg [.v (.int .i64 a0_0), .v (.int .i64 a0_1), .v (.int .i64 a0_2), .con .str a0_3], .v (.string a1), .v (.int .i64 a2)] [] = impl_oldObject.f k a0_0 a0_1 a0_2 a0_3 a1 a2 := by kernel_rfl
set_option maxRecDepth 100000 in
theorem impl_oldObject.eq15 (k : Nat) (x1 : ByteArray) (x2 : Int) (x3_0 : Int) (x3_1 : Int) (x3_2 : Int) (x3_3 : List ByteArray) (x6_0 : Int) (x8 : Int) (x39 : Bool) : fromPt Tryz.prog impl_oldObject.E k impl_oldObject.a (impl_oldObject.G k) 1000 (bodyOf Tryz.prog 43) 15 [.v (.string x1), .v (.int .i64 x2), .box 0 0, .box 1 0, .v (.int .i64 x8), .bs false x39] [.box [.v (.int .i64 x3_0), .v (.int .i64 x3_1), .v (.int .i64 x3_2), .con .str x3_3], .box [.v (.int .i64 x6_0), .v (.slice none 0 0)]] = impl_oldObject.p15 (k + 1) x1 x2 x3_0 x3_1 x3_2 x3_3 x6_0 x8 x39 := by kernel_rfl
theorem impl_oldObject.G15_0 {avs : List AV} {H : List HE} : impl_oldObject.G15 0 avs H = none := by unfold impl_oldObject.G15; split <;> rfl
theorem impl_oldObject.G15_s (k : Nat) {avs : List AV} {H : List HE} {x : Int × List Int × Bool} (h : impl_oldObject.G15 (k + 1) avs H = some x) : fromPt Tryz.prog impl_oldObject.E k impl_oldObject.a (impl_oldObject.G k) 1000 (bodyOf Tryz.prog 43) 15 avs H = some x := by
  unfold impl_oldObject.G15 at h
  split at h
  · rw [← h]; exact impl_oldObject.eq15 _ _ _ _ _ _ _ _ _ _
  · cases h
theorem impl_oldObject.E_ok : EnvOk Tryz.prog impl_oldObject.E := ⟨⟨impl_isData.sound, callable_of (by kernel_rfl)⟩, ⟨impl_wordAt.sound, callable_of (by kernel_rfl)⟩, ⟨impl_size_string.sound, callable_of (by kernel_rfl)⟩, ⟨impl_within.sound, callable_of (by kernel_rfl)⟩, ⟨impl_runOf.sound, callable_of (by kernel_rfl)⟩, ⟨impl_ReadObject.sound, callable_of (by kernel_rfl)⟩, ⟨impl_isObject_at_impl_oldObject_1.sound, callable_of (by kernel_rfl)⟩, trivial⟩
theorem impl_oldObject.sound : Sound Tryz.prog 43 impl_oldObject.s := by
  refine func_sound (f := impl_oldObject.a) (G := impl_oldObject.G) (fn := Tryz.f43) (body := bodyOf Tryz.prog 43) 1000 (by kernel_rfl) impl_oldObject.E_ok Tryz.func43 (by kernel_rfl) (by kernel_rfl) (by kernel_rfl) (ptsOk_of (by kernel_rfl)) ?_ ?_ ?_ ?_
  · intro r H x h
    unfold impl_oldObject.a at h
    simp only at h
    split at h
    · cases h; rfl
    · cases h
  · exact fun q avs H => pick1_none impl_oldObject.G15_0 (rfl)
  · intro k q pt avs H x _ h
    rcases pick1_some h with ⟨rfl, h⟩ | h
    · exact impl_oldObject.G15_s _ h
    cases h
  · intro k avs H o h
    try dsimp only at h
    split at h
    · cases h; exact impl_oldObject.eq _ _ _ _ _ _ _
    · cases h

def impl_isMap.a : FnA (Bool) := ⟨12, [.tmp 2], .bool, [], [], fun x H => match x, H with
  | .bs false r, [] => some r
  | _, _ => none⟩
def impl_isMap.s : Spec := mkS [.val] (fun k avs H => match avs, H with
  | [.v (.string a0)], [] => some (impl_isMap.f a0)
  | _, _ => none) (fun r => (.bs false r, []))
def impl_isMap.E : Env := [((42, []), impl_zeros.s)]
def impl_isMap.G (k p : Nat) (avs : List AV) (H : List HE) : Option (Bool) := none
set_option maxRecDepth 100000 in
theorem impl_isMap.eq (k : Nat) (a0 : ByteArray) : fromTop Tryz.prog impl_isMap.E k impl_isMap.a (impl_isMap.G k) 1000 (bodyOf Tryz.prog 82) [.v (.string a0)] [] = impl_isMap.f a0 := by kernel_rfl
theorem impl_isMap.E_ok : EnvOk Tryz.prog impl_isMap.E := ⟨⟨impl_zeros.sound, callable_of (by kernel_rfl)⟩, trivial⟩
theorem impl_isMap.sound : Sound Tryz.prog 82 impl_isMap.s := by
  refine func_sound (f := impl_isMap.a) (G := impl_isMap.G) (fn := Tryz.f82) (body := bodyOf Tryz.prog 82) 1000 (by kernel_rfl) impl_isMap.E_ok Tryz.func82 (by kernel_rfl) (by kernel_rfl) (by kernel_rfl) (ptsOk_of (by kernel_rfl)) ?_ ?_ ?_ ?_
  · intro r H x h
    unfold impl_isMap.a at h
    simp only at h
    split at h
    · cases h; rfl
    · cases h
  · intro q avs H; rfl
  · intro k q pt avs H x _ h; cases h
  · intro k avs H o h
    try dsimp only at h
    split at h
    · cases h; exact impl_isMap.eq _ _
    · cases h

def impl_isTaken.a : FnA (Bool) := ⟨14, [.tmp 4], .bool, [], [], fun x H => match x, H with
  | .bs false r, [] => some r
  | _, _ => none⟩
def impl_isTaken.s : Spec := mkS [.val, .val] (fun k avs H => match avs, H with
  | [.v (.string a0), .v (.int .i64 a1)], [] => some (impl_isTaken.f a0 a1)
  | _, _ => none) (fun r => (.bs false r, []))
def impl_isTaken.E : Env := []
def impl_isTaken.G (k p : Nat) (avs : List AV) (H : List HE) : Option (Bool) := none
set_option maxRecDepth 100000 in
theorem impl_isTaken.eq (k : Nat) (a0 : ByteArray) (a1 : Int) : fromTop Tryz.prog impl_isTaken.E k impl_isTaken.a (impl_isTaken.G k) 1000 (bodyOf Tryz.prog 83) [.v (.string a0), .v (.int .i64 a1)] [] = impl_isTaken.f a0 a1 := by kernel_rfl
theorem impl_isTaken.E_ok : EnvOk Tryz.prog impl_isTaken.E := trivial
theorem impl_isTaken.sound : Sound Tryz.prog 83 impl_isTaken.s := by
  refine func_sound (f := impl_isTaken.a) (G := impl_isTaken.G) (fn := Tryz.f83) (body := bodyOf Tryz.prog 83) 1000 (by kernel_rfl) impl_isTaken.E_ok Tryz.func83 (by kernel_rfl) (by kernel_rfl) (by kernel_rfl) (ptsOk_of (by kernel_rfl)) ?_ ?_ ?_ ?_
  · intro r H x h
    unfold impl_isTaken.a at h
    simp only at h
    split at h
    · cases h; rfl
    · cases h
  · intro q avs H; rfl
  · intro k q pt avs H x _ h; cases h
  · intro k avs H o h
    try dsimp only at h
    split at h
    · cases h; exact impl_isTaken.eq _ _ _
    · cases h

def impl_isRun.a : FnA (Bool) := ⟨38, [.tmp 8], .bool, [], [⟨14, [0, 1, 2, 3, 9], [.val, .val, .val, .bool, .val], []⟩], fun x H => match x, H with
  | .bs false r, [] => some r
  | _, _ => none⟩
def impl_isRun.s : Spec := mkS [.val, .val, .val, .bool] (fun k avs H => match avs, H with
  | [.v (.string a0), .v (.int .i64 a1), .v (.int .i64 a2), .bs false a3], [] => some (impl_isRun.f k a0 a1 a2 a3)
  | _, _ => none) (fun r => (.bs false r, []))
def impl_isRun.E : Env := [((82, []), impl_isMap.s), ((46, []), impl_within.s), ((83, []), impl_isTaken.s)]
def impl_isRun.G14 (k : Nat) (avs : List AV) (H : List HE) : Option (Bool) := match avs, H with
  | [.v (.string x0), .v (.int .i64 x1), .v (.int .i64 x2), .bs false x3, .v (.int .i64 x9)], [] => impl_isRun.p14 k x0 x1 x2 x3 x9
  | _, _ => none
def impl_isRun.G (k p : Nat) (avs : List AV) (H : List HE) : Option (Bool) := (pick1 14 (impl_isRun.G14 k avs H) none p)
set_option maxRecDepth 100000 in
theorem impl_isRun.eq (k : Nat) (a0 : ByteArray) (a1 : Int) (a2 : Int) (a3 : Bool) : fromTop Tryz.prog impl_isRun.E k impl_isRun.a (impl_isRun.G k) 1000 (bodyOf Tryz.prog 64) [.v (.string a0), .v (.int .i64 a1), .v (.int .i64 a2), .bs false a3] [] = impl_isRun.f k a0 a1 a2 a3 := by kernel_rfl
set_option maxRecDepth 100000 in
theorem impl_isRun.eq14 (k : Nat) (x0 : ByteArray) (x1 : Int) (x2 : Int) (x3 : Bool) (x9 : Int) : fromPt Tryz.prog impl_isRun.E k impl_isRun.a (impl_isRun.G k) 1000 (bodyOf Tryz.prog 64) 14 [.v (.string x0), .v (.int .i64 x1), .v (.int .i64 x2), .bs false x3, .v (.int .i64 x9)] [] = impl_isRun.p14 (k + 1) x0 x1 x2 x3 x9 := by kernel_rfl
theorem impl_isRun.G14_0 {avs : List AV} {H : List HE} : impl_isRun.G14 0 avs H = none := by unfold impl_isRun.G14; split <;> rfl
theorem impl_isRun.G14_s (k : Nat) {avs : List AV} {H : List HE} {x : Bool} (h : impl_isRun.G14 (k + 1) avs H = some x) : fromPt Tryz.prog impl_isRun.E k impl_isRun.a (impl_isRun.G k) 1000 (bodyOf Tryz.prog 64) 14 avs H = some x := by
  unfold impl_isRun.G14 at h
  split at h
  · rw [← h]; exact impl_isRun.eq14 _ _ _ _ _ _
  · cases h
theorem impl_isRun.E_ok : EnvOk Tryz.prog impl_isRun.E := ⟨⟨impl_isMap.sound, callable_of (by kernel_rfl)⟩, ⟨impl_within.sound, callable_of (by kernel_rfl)⟩, ⟨impl_isTaken.sound, callable_of (by kernel_rfl)⟩, trivial⟩
theorem impl_isRun.sound : Sound Tryz.prog 64 impl_isRun.s := by
  refine func_sound (f := impl_isRun.a) (G := impl_isRun.G) (fn := Tryz.f64) (body := bodyOf Tryz.prog 64) 1000 (by kernel_rfl) impl_isRun.E_ok Tryz.func64 (by kernel_rfl) (by kernel_rfl) (by kernel_rfl) (ptsOk_of (by kernel_rfl)) ?_ ?_ ?_ ?_
  · intro r H x h
    unfold impl_isRun.a at h
    simp only at h
    split at h
    · cases h; rfl
    · cases h
  · exact fun q avs H => pick1_none impl_isRun.G14_0 (rfl)
  · intro k q pt avs H x _ h
    rcases pick1_some h with ⟨rfl, h⟩ | h
    · exact impl_isRun.G14_s _ h
    cases h
  · intro k avs H o h
    try dsimp only at h
    split at h
    · cases h; exact impl_isRun.eq _ _ _ _ _
    · cases h

def impl_changedMap.a : FnA (ByteArray) := ⟨44, [.tmp 8], .val, [], [⟨8, [1, 2, 3, 9, 10], [.val, .val, .bool, .row 0 .bool, .val], []⟩, ⟨24, [1, 2, 3, 9, 10], [.val, .val, .bool, .row 0 .bool, .val], []⟩], fun x H => match x, H with
  | .v (.string r), [] => some r
  | _, _ => none⟩
def impl_changedMap.s : Spec := mkS [.val, .val, .val, .bool] (fun k avs H => match avs, H with
  | [.v (.string a0), .v (.int .i64 a1), .v (.int .i64 a2), .bs false a3], [] => some (impl_changedMap.f k a0 a1 a2 a3)
  | _, _ => none) (fun r => (.v (.string r), []))
def impl_changedMap.E : Env := []
def impl_changedMap.G8 (k : Nat) (avs : List AV) (H : List HE) : Option (ByteArray) := match avs, H with
  | [.v (.int .i64 x1), .v (.int .i64 x2), .bs false x3, .own 0, .v (.int .i64 x10)], [.bts x9] => impl_changedMap.p8 k x1 x2 x3 x9 x10
  | _, _ => none
def impl_changedMap.G24 (k : Nat) (avs : List AV) (H : List HE) : Option (ByteArray) := match avs, H with
  | [.v (.int .i64 x1), .v (.int .i64 x2), .bs false x3, .own 0, .v (.int .i64 x10)], [.bts x9] => impl_changedMap.p24 k x1 x2 x3 x9 x10
  | _, _ => none
def impl_changedMap.G (k p : Nat) (avs : List AV) (H : List HE) : Option (ByteArray) := (pick1 8 (impl_changedMap.G8 k avs H) (pick1 24 (impl_changedMap.G24 k avs H) none p) p)
set_option maxRecDepth 100000 in
theorem impl_changedMap.eq (k : Nat) (a0 : ByteArray) (a1 : Int) (a2 : Int) (a3 : Bool) : fromTop Tryz.prog impl_changedMap.E k impl_changedMap.a (impl_changedMap.G k) 1000 (bodyOf Tryz.prog 65) [.v (.string a0), .v (.int .i64 a1), .v (.int .i64 a2), .bs false a3] [] = impl_changedMap.f k a0 a1 a2 a3 := by kernel_rfl
set_option maxRecDepth 100000 in
theorem impl_changedMap.eq8 (k : Nat) (x1 : Int) (x2 : Int) (x3 : Bool) (x9 : List Int) (x10 : Int) : fromPt Tryz.prog impl_changedMap.E k impl_changedMap.a (impl_changedMap.G k) 1000 (bodyOf Tryz.prog 65) 8 [.v (.int .i64 x1), .v (.int .i64 x2), .bs false x3, .own 0, .v (.int .i64 x10)] [.bts x9] = impl_changedMap.p8 (k + 1) x1 x2 x3 x9 x10 := by kernel_rfl
theorem impl_changedMap.G8_0 {avs : List AV} {H : List HE} : impl_changedMap.G8 0 avs H = none := by unfold impl_changedMap.G8; split <;> rfl
theorem impl_changedMap.G8_s (k : Nat) {avs : List AV} {H : List HE} {x : ByteArray} (h : impl_changedMap.G8 (k + 1) avs H = some x) : fromPt Tryz.prog impl_changedMap.E k impl_changedMap.a (impl_changedMap.G k) 1000 (bodyOf Tryz.prog 65) 8 avs H = some x := by
  unfold impl_changedMap.G8 at h
  split at h
  · rw [← h]; exact impl_changedMap.eq8 _ _ _ _ _ _
  · cases h
set_option maxRecDepth 100000 in
theorem impl_changedMap.eq24 (k : Nat) (x1 : Int) (x2 : Int) (x3 : Bool) (x9 : List Int) (x10 : Int) : fromPt Tryz.prog impl_changedMap.E k impl_changedMap.a (impl_changedMap.G k) 1000 (bodyOf Tryz.prog 65) 24 [.v (.int .i64 x1), .v (.int .i64 x2), .bs false x3, .own 0, .v (.int .i64 x10)] [.bts x9] = impl_changedMap.p24 (k + 1) x1 x2 x3 x9 x10 := by kernel_rfl
theorem impl_changedMap.G24_0 {avs : List AV} {H : List HE} : impl_changedMap.G24 0 avs H = none := by unfold impl_changedMap.G24; split <;> rfl
theorem impl_changedMap.G24_s (k : Nat) {avs : List AV} {H : List HE} {x : ByteArray} (h : impl_changedMap.G24 (k + 1) avs H = some x) : fromPt Tryz.prog impl_changedMap.E k impl_changedMap.a (impl_changedMap.G k) 1000 (bodyOf Tryz.prog 65) 24 avs H = some x := by
  unfold impl_changedMap.G24 at h
  split at h
  · rw [← h]; exact impl_changedMap.eq24 _ _ _ _ _ _
  · cases h
theorem impl_changedMap.E_ok : EnvOk Tryz.prog impl_changedMap.E := trivial
theorem impl_changedMap.sound : Sound Tryz.prog 65 impl_changedMap.s := by
  refine func_sound (f := impl_changedMap.a) (G := impl_changedMap.G) (fn := Tryz.f65) (body := bodyOf Tryz.prog 65) 1000 (by kernel_rfl) impl_changedMap.E_ok Tryz.func65 (by kernel_rfl) (by kernel_rfl) (by kernel_rfl) (ptsOk_of (by kernel_rfl)) ?_ ?_ ?_ ?_
  · intro r H x h
    unfold impl_changedMap.a at h
    simp only at h
    split at h
    · cases h; rfl
    · cases h
  · exact fun q avs H => pick1_none impl_changedMap.G8_0 (pick1_none impl_changedMap.G24_0 (rfl))
  · intro k q pt avs H x _ h
    rcases pick1_some h with ⟨rfl, h⟩ | h
    · exact impl_changedMap.G8_s _ h
    rcases pick1_some h with ⟨rfl, h⟩ | h
    · exact impl_changedMap.G24_s _ h
    cases h
  · intro k avs H o h
    try dsimp only at h
    split at h
    · cases h; exact impl_changedMap.eq _ _ _ _ _
    · cases h

def impl_TakeRun.a : FnA (ByteArray × Bool) := ⟨17, [.tmp 6, .tmp 7], .tup [.val, .bool], [], [], fun x H => match x, H with
  | .tup [.v (.string r_0), .bs false r_1], [] => some (r_0, r_1)
  | _, _ => none⟩
def impl_TakeRun.s : Spec := mkS [.val, .val, .val] (fun k avs H => match avs, H with
  | [.v (.string a0), .v (.int .i64 a1), .v (.int .i64 a2)], [] => some (impl_TakeRun.f k a0 a1 a2)
  | _, _ => none) (fun r => (.tup [.v (.string r.1), .bs false r.2], []))
def impl_TakeRun.E : Env := [((64, []), impl_isRun.s), ((65, []), impl_changedMap.s)]
def impl_TakeRun.G (k p : Nat) (avs : List AV) (H : List HE) : Option (ByteArray × Bool) := none
set_option maxRecDepth 100000 in
theorem impl_TakeRun.eq (k : Nat) (a0 : ByteArray) (a1 : Int) (a2 : Int) : fromTop Tryz.prog impl_TakeRun.E k impl_TakeRun.a (impl_TakeRun.G k) 1000 (bodyOf Tryz.prog 44) [.v (.string a0), .v (.int .i64 a1), .v (.int .i64 a2)] [] = impl_TakeRun.f k a0 a1 a2 := by kernel_rfl
theorem impl_TakeRun.E_ok : EnvOk Tryz.prog impl_TakeRun.E := ⟨⟨impl_isRun.sound, callable_of (by kernel_rfl)⟩, ⟨impl_changedMap.sound, callable_of (by kernel_rfl)⟩, trivial⟩
theorem impl_TakeRun.sound : Sound Tryz.prog 44 impl_TakeRun.s := by
  refine func_sound (f := impl_TakeRun.a) (G := impl_TakeRun.G) (fn := Tryz.f44) (body := bodyOf Tryz.prog 44) 1000 (by kernel_rfl) impl_TakeRun.E_ok Tryz.func44 (by kernel_rfl) (by kernel_rfl) (by kernel_rfl) (ptsOk_of (by kernel_rfl)) ?_ ?_ ?_ ?_
  · intro r H x h
    unfold impl_TakeRun.a at h
    simp only at h
    split at h
    · cases h; rfl
    · cases h
  · intro q avs H; rfl
  · intro k q pt avs H x _ h; cases h
  · intro k avs H o h
    try dsimp only at h
    split at h
    · cases h; exact impl_TakeRun.eq _ _ _ _
    · cases h

def impl_walked_2_q.a : FnA ((Int → Option Bool) × Nat × List (Int × Int × List Int) × List Int) := ⟨16, [], .tup [], [.box [.mp .bool], .keep, .box [.trq], .keep, .drop], [], fun x H => match x, H with
  | .tup [], [.box [.mp 1], .mp .bool h1, .box [.own 5], .row 2 (.int .i64) h3, .gone, .tre 0 none 53 2 (.pair (.int .i64) (.pair (.int .i64) (.sl (.int .i64)))) h2_0 (some (h2_0j, 3))] => some (h1, h2_0j, h2_0, h3)
  | _, _ => none⟩
def impl_walked_2_q.s : Spec := mkS [.val, .box [.mp .bool], .box [.trq]] (fun k avs H => match avs, H with
  | [.v (.int .i64 a0), .box 0 0, .box 2 0], [.box [.mp 1], .mp .bool a1_0, .box [.own 4], .row 2 (.int .i64) a2_0q, .tre 0 none 53 2 (.pair (.int .i64) (.pair (.int .i64) (.sl (.int .i64)))) a2_0 (some (a2_0j, 3))] => some (impl_walked_2_q.f a0 a1_0 a2_0q a2_0j a2_0)
  | _, _ => none) (fun r => (.tup [], [.box [.mp 1], .mp .bool r.1, .box [.own 5], .row 2 (.int .i64) r.2.2.2, .gone, .tre 0 none 53 2 (.pair (.int .i64) (.pair (.int .i64) (.sl (.int .i64)))) r.2.2.1 (some (r.2.1, 3))]))
def impl_walked_2_q.E : Env := []
def impl_walked_2_q.G (k p : Nat) (avs : List AV) (H : List HE) : Option ((Int → Option Bool) × Nat × List (Int × Int × List Int) × List Int) := none
set_option maxRecDepth 100000 in
theorem impl_walked_2_q.eq (k : Nat) (a0 : Int) (a1_0 : (Int → Option Bool)) (a2_0q : List Int) (a2_0j : Nat) (a2_0 : List (Int × Int × List Int)) : fromTop Tryz.prog impl_walked_2_q.E k impl_walked_2_q.a (impl_walked_2_q.G k) 1000 (bodyOf Tryz.prog 41) [.v (.int .i64 a0), .box 0 0, .box 2 0] [.box [.mp 1], .mp .bool a1_0, .box [.own 4], .row 2 (.int .i64) a2_0q, .tre 0 none 53 2 (.pair (.int .i64) (.pair (.int .i64) (.sl (.int .i64)))) a2_0 (some (a2_0j, 3))] = impl_walked_2_q.f a0 a1_0 a2_0q a2_0j a2_0 := by kernel_rfl
theorem impl_walked_2_q.E_ok : EnvOk Tryz.prog impl_walked_2_q.E := trivial
theorem impl_walked_2_q.sound : Sound Tryz.prog 41 impl_walked_2_q.s := by
  refine func_sound (f := impl_walked_2_q.a) (G := impl_walked_2_q.G) (fn := Tryz.f41) (body := bodyOf Tryz.prog 41) 1000 (by kernel_rfl) impl_walked_2_q.E_ok Tryz.func41 (by kernel_rfl) (by kernel_rfl) (by kernel_rfl) (ptsOk_of (by kernel_rfl)) ?_ ?_ ?_ ?_
  · intro r H x h
    unfold impl_walked_2_q.a at h
    simp only at h
    split at h
    · cases h; rfl
    · cases h
  · intro q avs H; rfl
  · intro k q pt avs H x _ h; cases h
  · intro k avs H o h
    try dsimp only at h
    split at h
    · cases h; exact impl_walked_2_q.eq _ _ _ _ _ _
    · cases h

def impl_walked.a : FnA (List (Int × Int × List Int) × ByteArray × Bool) := ⟨110, [.tmp 6, .tmp 7, .tmp 8], .tup [.tre 0 53 2 (.pair (.int .i64) (.pair (.int .i64) (.sl (.int .i64)))), .val, .bool], [], [⟨5, [1, 2, 3, 28], [.val, .con (.int .i64), .box [.val, .val, .val, .con .str], .bool], []⟩, ⟨20, [1, 3, 9, 11, 33, 34, 35], [.val, .box [.val, .val, .val, .con .str], .box [.tre 0 53 2 (.pair (.int .i64) (.pair (.int .i64) (.sl (.int .i64))))], .fn 41 0 [.box [.mp .bool], .box []], .con (.int .i64), .val, .val], []⟩, ⟨39, [1, 3, 9, 11, 14, 15], [.val, .box [.val, .val, .val, .con .str], .box [.tre 0 53 2 (.pair (.int .i64) (.pair (.int .i64) (.sl (.int .i64))))], .fn 41 0 [.box [.mp .bool], .box []], .val, .val], []⟩, ⟨73, [1, 3, 9, 11, 14, 15, 16, 88, 89, 90], [.val, .box [.val, .val, .val, .con .str], .box [.trq], .fn 41 0 [.box [.mp .bool], .box []], .val, .val, .box [.val, .row 2 (.int .i64)], .row 2 (.int .i64), .val, .val], []⟩], fun x H => match x, H with
  | .tup [.own 0, .v (.string r_1), .bs false r_2], [.tre 0 none 53 2 (.pair (.int .i64) (.pair (.int .i64) (.sl (.int .i64)))) r_0 none] => some (r_0, r_1, r_2)
  | _, _ => none⟩
def impl_walked.s : Spec := mkS [.agg [.val, .val, .val, .con .str], .val, .con (.int .i64)] (fun k avs H => match avs, H with
  | [.agg [.v (.int .i64 a0_0), .v (.int .i64 a0_1), .v (.int .i64 a0_2), .con .str a0_3], .v (.string a1), .con (.int .i64) a2], [] => some (impl_walked.f k a0_0 a0_1 a0_2 a0_3 a1 a2)
  | _, _ => none) (fun r => (.tup [.own 0, .v (.string r.2.1), .bs false r.2.2], [.tre 0 none 53 2 (.pair (.int .i64) (.pair (.int .i64) (.sl (.int .i64)))) r.1 none]))
def impl_walked.E : Env := [((35, []), impl_isImage.s), ((37, [40]), slices_ContainsFunc_int64_at_impl_walked_1.s), ((41, []), impl_walked_2.s), ((42, []), impl_zeros.s), ((43, []), impl_oldObject.s), ((45, []), impl_runOf.s), ((44, []), impl_TakeRun.s), ((41, []), impl_walked_2_q.s)]
def impl_walked.G5 (k : Nat) (avs : List AV) (H : List HE) : Option (List (Int × Int × List Int) × ByteArray × Bool) := match avs, H with
  | [.v (.string x1), .con (.int .i64) x2, .box 0 0, .bs false x28], [.box [.v (.int .i64 x3_0), .v (.int .i64 x3_1), .v (.int .i64 x3_2), .con .str x3_3]] => impl_walked.p5 k x1 x2 x3_0 x3_1 x3_2 x3_3 x28
  | _, _ => none
def impl_walked.G20 (k : Nat) (avs : List AV) (H : List HE) : Option (List (Int × Int × List Int) × ByteArray × Bool) := match avs, H with
  | [.v (.string x1), .box 0 0, .box 1 0, .fn 41 0 [.box 3 0, .box 1 0], .con (.int .i64) x33, .v (.int .i64 x34), .v (.int .i64 x35)], [.box [.v (.int .i64 x3_0), .v (.int .i64 x3_1), .v (.int .i64 x3_2), .con .str x3_3], .box [.own 2], .tre 0 none 53 2 (.pair (.int .i64) (.pair (.int .i64) (.sl (.int .i64)))) x9_0 none, .box [.mp 4], .mp .bool x11_0_0] => impl_walked.p20 k x1 x3_0 x3_1 x3_2 x3_3 x9_0 x11_0_0 x33 x34 x35
  | _, _ => none
def impl_walked.G39 (k : Nat) (avs : List AV) (H : List HE) : Option (List (Int × Int × List Int) × ByteArray × Bool) := match avs, H with
  | [.v (.string x1), .box 0 0, .box 1 0, .fn 41 0 [.box 3 0, .box 1 0], .v (.string x14), .v (.int .i64 x15)], [.box [.v (.int .i64 x3_0), .v (.int .i64 x3_1), .v (.int .i64 x3_2), .con .str x3_3], .box [.own 2], .tre 0 none 53 2 (.pair (.int .i64) (.pair (.int .i64) (.sl (.int .i64)))) x9_0 none, .box [.mp 4], .mp .bool x11_0_0] => impl_walked.p39 k x1 x3_0 x3_1 x3_2 x3_3 x9_0 x11_0_0 x14 x15
  | _, _ => none
def impl_walked.G73 (k : Nat) (avs : List AV) (H : List HE) : Option (List (Int × Int × List Int) × ByteArray × Bool) := match avs, H with
  | [.v (.string x1), .box 0 0, .box 1 0, .fn 41 0 [.box 4 0, .box 1 0], .v (.string x14), .v (.int .i64 x15), .box 6 0, .own 2, .v (.int .i64 x89), .v (.int .i64 x90)], [.box [.v (.int .i64 x3_0), .v (.int .i64 x3_1), .v (.int .i64 x3_2), .con .str x3_3], .box [.own 3], .row 2 (.int .i64) x9_0q, .tre 0 none 53 2 (.pair (.int .i64) (.pair (.int .i64) (.sl (.int .i64)))) x9_0 (some (x9_0j, 2)), .box [.mp 5], .mp .bool x11_0_0, .box [.v (.int .i64 x16_0), .own 2]] => impl_walked.p73 k x1 x3_0 x3_1 x3_2 x3_3 x9_0q x9_0j x9_0 x11_0_0 x14 x15 x16_0 x89 x90
  | _, _ => none
def impl_walked.G (k p : Nat) (avs : List AV) (H : List HE) : Option (List (Int × Int × List Int) × ByteArray × Bool) := (pick1 5 (impl_walked.G5 k avs H) (pick1 20 (impl_walked.G20 k avs H) (pick1 39 (impl_walked.G39 k avs H) (pick1 73 (impl_walked.G73 k avs H) none p) p) p) p)
set_option maxRecDepth 100000 in
theorem impl_walked.eq (k : Nat) (a0_0 : Int) (a0_1 : Int) (a0_2 : Int) (a0_3 : List ByteArray) (a1 : ByteArray) (a2 : List Int) : fromTop Tryz.prog impl_walked.E k impl_walked.a (impl_walked.G k) 1000 (bodyOf Tryz.prog 19) [.agg [.v (.int .i64 a0_0), .v (.int .i64 a0_1), .v (.int .i64 a0_2), .con .str a0_3], .v (.string a1), .con (.int .i64) a2] [] = impl_walked.f k a0_0 a0_1 a0_2 a0_3 a1 a2 := by kernel_rfl
set_option maxRecDepth 100000 in
theorem impl_walked.eq5 (k : Nat) (x1 : ByteArray) (x2 : List Int) (x3_0 : Int) (x3_1 : Int) (x3_2 : Int) (x3_3 : List ByteArray) (x28 : Bool) : fromPt Tryz.prog impl_walked.E k impl_walked.a (impl_walked.G k) 1000 (bodyOf Tryz.prog 19) 5 [.v (.string x1), .con (.int .i64) x2, .box 0 0, .bs false x28] [.box [.v (.int .i64 x3_0), .v (.int .i64 x3_1), .v (.int .i64 x3_2), .con .str x3_3]] = impl_walked.p5 (k + 1) x1 x2 x3_0 x3_1 x3_2 x3_3 x28 := by kernel_rfl
theorem impl_walked.G5_0 {avs : List AV} {H : List HE} : impl_walked.G5 0 avs H = none := by unfold impl_walked.G5; split <;> rfl
theorem impl_walked.G5_s (k : Nat) {avs : List AV} {H : List HE} {x : List (Int × Int × List Int) × ByteArray × Bool} (h : impl_walked.G5 (k + 1) avs H = some x) : fromPt Tryz.prog impl_walked.E k impl_walked.a (impl_walked.G k) 1000 (bodyOf Tryz.prog 19) 5 avs H = some x := by
  unfold impl_walked.G5 at h
  split at h
  · rw [← h]; exact impl_walked.eq5 _ _ _ _ _ _ _ _
  · cases h
set_option maxRecDepth 100000 in
theorem impl_walked.eq20 (k : Nat) (x1 : ByteArray) (x3_0 : Int) (x3_1 : Int) (x3_2 : Int) (x3_3 : List ByteArray) (x9_0 : List (Int × Int × List Int)) (x11_0_0 : (Int → Option Bool)) (x33 : List Int) (x34 : Int) (x35 : Int) : fromPt Tryz.prog impl_walked.E k impl_walked.a (impl_walked.G k) 1000 (bodyOf Tryz.prog 19) 20 [.v (.string x1), .box 0 0, .box 1 0, .fn 41 0 [.box 3 0, .box 1 0], .con (.int .i64) x33, .v (.int .i64 x34), .v (.int .i64 x35)] [.box [.v (.int .i64 x3_0), .v (.int .i64 x3_1), .v (.int .i64 x3_2), .con .str x3_3], .box [.own 2], .tre 0 none 53 2 (.pair (.int .i64) (.pair (.int .i64) (.sl (.int .i64)))) x9_0 none, .box [.mp 4], .mp .bool x11_0_0] = impl_walked.p20 (k + 1) x1 x3_0 x3_1 x3_2 x3_3 x9_0 x11_0_0 x33 x34 x35 := by kernel_rfl
theorem impl_walked.G20_0 {avs : List AV} {H : List HE} : impl_walked.G20 0 avs H = none := by unfold impl_walked.G20; split <;> rfl
theorem impl_walked.G20_s (k : Nat) {avs : List AV} {H : List HE} {x : List (Int × Int × List Int) × ByteArray × Bool} (h : impl_walked.G20 (k + 1) avs H = some x) : fromPt Tryz.prog impl_walked.E k impl_walked.a (impl_walked.G k) 1000 (bodyOf Tryz.prog 19) 20 avs H = some x := by
  unfold impl_walked.G20 at h
  split at h
  · rw [← h]; exact impl_walked.eq20 _ _ _ _ _ _ _ _ _ _ _
  · cases h
set_option maxRecDepth 100000 in
theorem impl_walked.eq39 (k : Nat) (x1 : ByteArray) (x3_0 : Int) (x3_1 : Int) (x3_2 : Int) (x3_3 : List ByteArray) (x9_0 : List (Int × Int × List Int)) (x11_0_0 : (Int → Option Bool)) (x14 : ByteArray) (x15 : Int) : fromPt Tryz.prog impl_walked.E k impl_walked.a (impl_walked.G k) 1000 (bodyOf Tryz.prog 19) 39 [.v (.string x1), .box 0 0, .box 1 0, .fn 41 0 [.box 3 0, .box 1 0], .v (.string x14), .v (.int .i64 x15)] [.box [.v (.int .i64 x3_0), .v (.int .i64 x3_1), .v (.int .i64 x3_2), .con .str x3_3], .box [.own 2], .tre 0 none 53 2 (.pair (.int .i64) (.pair (.int .i64) (.sl (.int .i64)))) x9_0 none, .box [.mp 4], .mp .bool x11_0_0] = impl_walked.p39 (k + 1) x1 x3_0 x3_1 x3_2 x3_3 x9_0 x11_0_0 x14 x15 := by kernel_rfl
theorem impl_walked.G39_0 {avs : List AV} {H : List HE} : impl_walked.G39 0 avs H = none := by unfold impl_walked.G39; split <;> rfl
theorem impl_walked.G39_s (k : Nat) {avs : List AV} {H : List HE} {x : List (Int × Int × List Int) × ByteArray × Bool} (h : impl_walked.G39 (k + 1) avs H = some x) : fromPt Tryz.prog impl_walked.E k impl_walked.a (impl_walked.G k) 1000 (bodyOf Tryz.prog 19) 39 avs H = some x := by
  unfold impl_walked.G39 at h
  split at h
  · rw [← h]; exact impl_walked.eq39 _ _ _ _ _ _ _ _ _ _
  · cases h
set_option maxRecDepth 100000 in
theorem impl_walked.eq73 (k : Nat) (x1 : ByteArray) (x3_0 : Int) (x3_1 : Int) (x3_2 : Int) (x3_3 : List ByteArray) (x9_0q : List Int) (x9_0j : Nat) (x9_0 : List (Int × Int × List Int)) (x11_0_0 : (Int → Option Bool)) (x14 : ByteArray) (x15 : Int) (x16_0 : Int) (x89 : Int) (x90 : Int) : fromPt Tryz.prog impl_walked.E k impl_walked.a (impl_walked.G k) 1000 (bodyOf Tryz.prog 19) 73 [.v (.string x1), .box 0 0, .box 1 0, .fn 41 0 [.box 4 0, .box 1 0], .v (.string x14), .v (.int .i64 x15), .box 6 0, .own 2, .v (.int .i64 x89), .v (.int .i64 x90)] [.box [.v (.int .i64 x3_0), .v (.int .i64 x3_1), .v (.int .i64 x3_2), .con .str x3_3], .box [.own 3], .row 2 (.int .i64) x9_0q, .tre 0 none 53 2 (.pair (.int .i64) (.pair (.int .i64) (.sl (.int .i64)))) x9_0 (some (x9_0j, 2)), .box [.mp 5], .mp .bool x11_0_0, .box [.v (.int .i64 x16_0), .own 2]] = impl_walked.p73 (k + 1) x1 x3_0 x3_1 x3_2 x3_3 x9_0q x9_0j x9_0 x11_0_0 x14 x15 x16_0 x89 x90 := by kernel_rfl
theorem impl_walked.G73_0 {avs : List AV} {H : List HE} : impl_walked.G73 0 avs H = none := by unfold impl_walked.G73; split <;> rfl
theorem impl_walked.G73_s (k : Nat) {avs : List AV} {H : List HE} {x : List (Int × Int × List Int) × ByteArray × Bool} (h : impl_walked.G73 (k + 1) avs H = some x) : fromPt Tryz.prog impl_walked.E k impl_walked.a (impl_walked.G k) 1000 (bodyOf Tryz.prog 19) 73 avs H = some x := by
  unfold impl_walked.G73 at h
  split at h
  · rw [← h]; exact impl_walked.eq73 _ _ _ _ _ _ _ _ _ _ _ _ _ _ _
  · cases h
theorem impl_walked.E_ok : EnvOk Tryz.prog impl_walked.E := ⟨⟨impl_isImage.sound, callable_of (by kernel_rfl)⟩, ⟨slices_ContainsFunc_int64_at_impl_walked_1.sound, callable_of (by kernel_rfl)⟩, ⟨impl_walked_2.sound, callable_of (by kernel_rfl)⟩, ⟨impl_zeros.sound, callable_of (by kernel_rfl)⟩, ⟨impl_oldObject.sound, callable_of (by kernel_rfl)⟩, ⟨impl_runOf.sound, callable_of (by kernel_rfl)⟩, ⟨impl_TakeRun.sound, callable_of (by kernel_rfl)⟩, ⟨impl_walked_2_q.sound, callable_of (by kernel_rfl)⟩, trivial⟩
theorem impl_walked.sound : Sound Tryz.prog 19 impl_walked.s := by
  refine func_sound (f := impl_walked.a) (G := impl_walked.G) (fn := Tryz.f19) (body := bodyOf Tryz.prog 19) 1000 (by kernel_rfl) impl_walked.E_ok Tryz.func19 (by kernel_rfl) (by kernel_rfl) (by kernel_rfl) (ptsOk_of (by kernel_rfl)) ?_ ?_ ?_ ?_
  · intro r H x h
    unfold impl_walked.a at h
    simp only at h
    split at h
    · cases h; rfl
    · cases h
  · exact fun q avs H => pick1_none impl_walked.G5_0 (pick1_none impl_walked.G20_0 (pick1_none impl_walked.G39_0 (pick1_none impl_walked.G73_0 (rfl))))
  · intro k q pt avs H x _ h
    rcases pick1_some h with ⟨rfl, h⟩ | h
    · exact impl_walked.G5_s _ h
    rcases pick1_some h with ⟨rfl, h⟩ | h
    · exact impl_walked.G20_s _ h
    rcases pick1_some h with ⟨rfl, h⟩ | h
    · exact impl_walked.G39_s _ h
    rcases pick1_some h with ⟨rfl, h⟩ | h
    · exact impl_walked.G73_s _ h
    cases h
  · intro k avs H o h
    try dsimp only at h
    split at h
    · cases h; exact impl_walked.eq _ _ _ _ _ _ _
    · cases h

def impl_OldRef.a : FnA (Int) := ⟨8, [.tmp 2], .val, [], [], fun x H => match x, H with
  | .v (.int .i64 r), [] => some r
  | _, _ => none⟩
def impl_OldRef.s : Spec := mkS [.val] (fun k avs H => match avs, H with
  | [.v (.int .i64 a0)], [] => some (impl_OldRef.f a0)
  | _, _ => none) (fun r => (.v (.int .i64 r), []))
def impl_OldRef.E : Env := [((46, []), impl_within.s)]
def impl_OldRef.G (k p : Nat) (avs : List AV) (H : List HE) : Option (Int) := none
set_option maxRecDepth 100000 in
theorem impl_OldRef.eq (k : Nat) (a0 : Int) : fromTop Tryz.prog impl_OldRef.E k impl_OldRef.a (impl_OldRef.G k) 1000 (bodyOf Tryz.prog 20) [.v (.int .i64 a0)] [] = impl_OldRef.f a0 := by kernel_rfl
theorem impl_OldRef.E_ok : EnvOk Tryz.prog impl_OldRef.E := ⟨⟨impl_within.sound, callable_of (by kernel_rfl)⟩, trivial⟩
theorem impl_OldRef.sound : Sound Tryz.prog 20 impl_OldRef.s := by
  refine func_sound (f := impl_OldRef.a) (G := impl_OldRef.G) (fn := Tryz.f20) (body := bodyOf Tryz.prog 20) 1000 (by kernel_rfl) impl_OldRef.E_ok Tryz.func20 (by kernel_rfl) (by kernel_rfl) (by kernel_rfl) (ptsOk_of (by kernel_rfl)) ?_ ?_ ?_ ?_
  · intro r H x h
    unfold impl_OldRef.a at h
    simp only at h
    split at h
    · cases h; rfl
    · cases h
  · intro q avs H; rfl
  · intro k q pt avs H x _ h; cases h
  · intro k avs H o h
    try dsimp only at h
    split at h
    · cases h; exact impl_OldRef.eq _ _
    · cases h

def impl_DurableOf.a : FnA (List Int × List (Int × List Int) × Bool) := ⟨114, [.cell 4 29, .tmp 5], .tup [.agg [.row 2 (.int .i64), .tre 0 46 2 (.pair (.int .i64) (.sl (.int .i64)))], .bool], [], [⟨28, [2, 4, 6, 8, 10, 41, 42, 43], [.box [.val, .val, .val, .con .str], .box [.val, .val], .row 2 (.int .i64), .tre 0 53 2 (.pair (.int .i64) (.pair (.int .i64) (.sl (.int .i64)))), .mp (.int .i64), .row 53 (.pair (.int .i64) (.pair (.int .i64) (.sl (.int .i64)))), .val, .val], []⟩, ⟨47, [2, 4, 8, 10, 13, 56, 57, 58], [.box [.val, .val, .val, .con .str], .box [.val, .val], .tre 0 53 2 (.pair (.int .i64) (.pair (.int .i64) (.sl (.int .i64)))), .mp (.int .i64), .box [.row 2 (.int .i64), .val], .row 2 (.int .i64), .val, .val], []⟩, ⟨64, [2, 4, 10, 13, 71, 72, 73], [.box [.val, .val, .val, .con .str], .box [.val, .val], .mp (.int .i64), .box [.row 2 (.int .i64), .tre 0 46 2 (.pair (.int .i64) (.sl (.int .i64)))], .trs, .val, .val], []⟩, ⟨79, [2, 4, 10, 13, 17, 71, 72, 73, 79, 80, 81], [.box [.val, .val, .val, .con .str], .box [.val, .val], .mp (.int .i64), .box [.row 2 (.int .i64), .tre 0 46 2 (.pair (.int .i64) (.sl (.int .i64)))], .box [.val, .val, .row 2 (.int .i64)], .trs, .val, .val, .row 2 (.int .i64), .val, .val], []⟩], fun x H => match x, H with
  | .tup [.agg [.own 0, .own 1], .bs false r_1], [.row 2 (.int .i64) r_0_0, .tre 0 none 46 2 (.pair (.int .i64) (.sl (.int .i64))) r_0_1 none] => some (r_0_0, r_0_1, r_1)
  | _, _ => none⟩
def impl_DurableOf.s : Spec := mkS [.agg [.val, .val, .val, .con .str], .val] (fun k avs H => match avs, H with
  | [.agg [.v (.int .i64 a0_0), .v (.int .i64 a0_1), .v (.int .i64 a0_2), .con .str a0_3], .v (.string a1)], [] => some (impl_DurableOf.f k a0_0 a0_1 a0_2 a0_3 a1)
  | _, _ => none) (fun r => (.tup [.agg [.own 0, .own 1], .bs false r.2.2], [.row 2 (.int .i64) r.1, .tre 0 none 46 2 (.pair (.int .i64) (.sl (.int .i64))) r.2.1 none]))
def impl_DurableOf.E : Env := [((18, []), impl_RootsOf.s), ((19, []), impl_walked.s), ((20, []), impl_OldRef.s)]
def impl_DurableOf.G28 (k : Nat) (avs : List AV) (H : List HE) : Option (List Int × List (Int × List Int) × Bool) := match avs, H with
  | [.box 0 0, .box 1 0, .own 2, .own 3, .mp 4, .own 3, .v (.int .i64 x42), .v (.int .i64 x43)], [.box [.v (.int .i64 x2_0), .v (.int .i64 x2_1), .v (.int .i64 x2_2), .con .str x2_3], .box [.v (.slice none 0 0), .v (.slice none 0 0)], .row 2 (.int .i64) x6, .tre 0 none 53 2 (.pair (.int .i64) (.pair (.int .i64) (.sl (.int .i64)))) x8 none, .mp (.int .i64) x10] => impl_DurableOf.p28 k x2_0 x2_1 x2_2 x2_3 x6 x8 x10 x42 x43
  | _, _ => none
def impl_DurableOf.G47 (k : Nat) (avs : List AV) (H : List HE) : Option (List Int × List (Int × List Int) × Bool) := match avs, H with
  | [.box 0 0, .box 1 0, .own 2, .mp 3, .box 4 0, .own 6, .v (.int .i64 x57), .v (.int .i64 x58)], [.box [.v (.int .i64 x2_0), .v (.int .i64 x2_1), .v (.int .i64 x2_2), .con .str x2_3], .box [.v (.slice none 0 0), .v (.slice none 0 0)], .tre 0 none 53 2 (.pair (.int .i64) (.pair (.int .i64) (.sl (.int .i64)))) x8 none, .mp (.int .i64) x10, .box [.own 5, .v (.slice none 0 0)], .row 2 (.int .i64) x13_0, .row 2 (.int .i64) x56] => impl_DurableOf.p47 k x2_0 x2_1 x2_2 x2_3 x8 x10 x13_0 x56 x57 x58
  | _, _ => none
def impl_DurableOf.G64 (k : Nat) (avs : List AV) (H : List HE) : Option (List Int × List (Int × List Int) × Bool) := match avs, H with
  | [.box 0 0, .box 1 0, .mp 2, .box 3 0, .own 6, .v (.int .i64 x72), .v (.int .i64 x73)], [.box [.v (.int .i64 x2_0), .v (.int .i64 x2_1), .v (.int .i64 x2_2), .con .str x2_3], .box [.v (.slice none 0 0), .v (.slice none 0 0)], .mp (.int .i64) x10, .box [.own 4, .own 5], .row 2 (.int .i64) x13_0, .tre 0 none 46 2 (.pair (.int .i64) (.sl (.int .i64))) x13_1 none, .tre 0 (some x71f) 53 2 (.pair (.int .i64) (.pair (.int .i64) (.sl (.int .i64)))) x71 none] => impl_DurableOf.p64 k x2_0 x2_1 x2_2 x2_3 x10 x13_0 x13_1 x71f x71 x72 x73
  | _, _ => none
def impl_DurableOf.G79 (k : Nat) (avs : List AV) (H : List HE) : Option (List Int × List (Int × List Int) × Bool) := match avs, H with
  | [.box 0 0, .box 1 0, .mp 2, .box 3 0, .box 6 0, .own 8, .v (.int .i64 x72), .v (.int .i64 x73), .own 7, .v (.int .i64 x80), .v (.int .i64 x81)], [.box [.v (.int .i64 x2_0), .v (.int .i64 x2_1), .v (.int .i64 x2_2), .con .str x2_3], .box [.v (.slice none 0 0), .v (.slice none 0 0)], .mp (.int .i64) x10, .box [.own 4, .own 5], .row 2 (.int .i64) x13_0, .tre 0 none 46 2 (.pair (.int .i64) (.sl (.int .i64))) x13_1 none, .box [.v (.int .i64 x17_0), .v (.int .i64 x17_1), .own 7], .row 2 (.int .i64) x17_2, .tre 0 (some x71f) 53 2 (.pair (.int .i64) (.pair (.int .i64) (.sl (.int .i64)))) x71 none] => impl_DurableOf.p79 k x2_0 x2_1 x2_2 x2_3 x10 x13_0 x13_1 x17_0 x17_1 x17_2 x71f x71 x72 x73 x80 x81
  | _, _ => none
def impl_DurableOf.G (k p : Nat) (avs : List AV) (H : List HE) : Option (List Int × List (Int × List Int) × Bool) := (pick1 28 (impl_DurableOf.G28 k avs H) (pick1 47 (impl_DurableOf.G47 k avs H) (pick1 64 (impl_DurableOf.G64 k avs H) (pick1 79 (impl_DurableOf.G79 k avs H) none p) p) p) p)
set_option maxRecDepth 100000 in
theorem impl_DurableOf.eq (k : Nat) (a0_0 : Int) (a0_1 : Int) (a0_2 : Int) (a0_3 : List ByteArray) (a1 : ByteArray) : fromTop Tryz.prog impl_DurableOf.E k impl_DurableOf.a (impl_DurableOf.G k) 1000 (bodyOf Tryz.prog 7) [.agg [.v (.int .i64 a0_0), .v (.int .i64 a0_1), .v (.int .i64 a0_2), .con .str a0_3], .v (.string a1)] [] = impl_DurableOf.f k a0_0 a0_1 a0_2 a0_3 a1 := by kernel_rfl
set_option maxRecDepth 100000 in
theorem impl_DurableOf.eq28 (k : Nat) (x2_0 : Int) (x2_1 : Int) (x2_2 : Int) (x2_3 : List ByteArray) (x6 : List Int) (x8 : List (Int × Int × List Int)) (x10 : (Int → Option Int)) (x42 : Int) (x43 : Int) : fromPt Tryz.prog impl_DurableOf.E k impl_DurableOf.a (impl_DurableOf.G k) 1000 (bodyOf Tryz.prog 7) 28 [.box 0 0, .box 1 0, .own 2, .own 3, .mp 4, .own 3, .v (.int .i64 x42), .v (.int .i64 x43)] [.box [.v (.int .i64 x2_0), .v (.int .i64 x2_1), .v (.int .i64 x2_2), .con .str x2_3], .box [.v (.slice none 0 0), .v (.slice none 0 0)], .row 2 (.int .i64) x6, .tre 0 none 53 2 (.pair (.int .i64) (.pair (.int .i64) (.sl (.int .i64)))) x8 none, .mp (.int .i64) x10] = impl_DurableOf.p28 (k + 1) x2_0 x2_1 x2_2 x2_3 x6 x8 x10 x42 x43 := by kernel_rfl
theorem impl_DurableOf.G28_0 {avs : List AV} {H : List HE} : impl_DurableOf.G28 0 avs H = none := by unfold impl_DurableOf.G28; split <;> rfl
theorem impl_DurableOf.G28_s (k : Nat) {avs : List AV} {H : List HE} {x : List Int × List (Int × List Int) × Bool} (h : impl_DurableOf.G28 (k + 1) avs H = some x) : fromPt Tryz.prog impl_DurableOf.E k impl_DurableOf.a (impl_DurableOf.G k) 1000 (bodyOf Tryz.prog 7) 28 avs H = some x := by
  unfold impl_DurableOf.G28 at h
  split at h
  · rw [← h]; exact impl_DurableOf.eq28 _ _ _ _ _ _ _ _ _ _
  · cases h
set_option maxRecDepth 100000 in
theorem impl_DurableOf.eq47 (k : Nat) (x2_0 : Int) (x2_1 : Int) (x2_2 : Int) (x2_3 : List ByteArray) (x8 : List (Int × Int × List Int)) (x10 : (Int → Option Int)) (x13_0 : List Int) (x56 : List Int) (x57 : Int) (x58 : Int) : fromPt Tryz.prog impl_DurableOf.E k impl_DurableOf.a (impl_DurableOf.G k) 1000 (bodyOf Tryz.prog 7) 47 [.box 0 0, .box 1 0, .own 2, .mp 3, .box 4 0, .own 6, .v (.int .i64 x57), .v (.int .i64 x58)] [.box [.v (.int .i64 x2_0), .v (.int .i64 x2_1), .v (.int .i64 x2_2), .con .str x2_3], .box [.v (.slice none 0 0), .v (.slice none 0 0)], .tre 0 none 53 2 (.pair (.int .i64) (.pair (.int .i64) (.sl (.int .i64)))) x8 none, .mp (.int .i64) x10, .box [.own 5, .v (.slice none 0 0)], .row 2 (.int .i64) x13_0, .row 2 (.int .i64) x56] = impl_DurableOf.p47 (k + 1) x2_0 x2_1 x2_2 x2_3 x8 x10 x13_0 x56 x57 x58 := by kernel_rfl
theorem impl_DurableOf.G47_0 {avs : List AV} {H : List HE} : impl_DurableOf.G47 0 avs H = none := by unfold impl_DurableOf.G47; split <;> rfl
theorem impl_DurableOf.G47_s (k : Nat) {avs : List AV} {H : List HE} {x : List Int × List (Int × List Int) × Bool} (h : impl_DurableOf.G47 (k + 1) avs H = some x) : fromPt Tryz.prog impl_DurableOf.E k impl_DurableOf.a (impl_DurableOf.G k) 1000 (bodyOf Tryz.prog 7) 47 avs H = some x := by
  unfold impl_DurableOf.G47 at h
  split at h
  · rw [← h]; exact impl_DurableOf.eq47 _ _ _ _ _ _ _ _ _ _ _
  · cases h
set_option maxRecDepth 100000 in
theorem impl_DurableOf.eq64 (k : Nat) (x2_0 : Int) (x2_1 : Int) (x2_2 : Int) (x2_3 : List ByteArray) (x10 : (Int → Option Int)) (x13_0 : List Int) (x13_1 : List (Int × List Int)) (x71f : Nat) (x71 : List (Int × Int × List Int)) (x72 : Int) (x73 : Int) : fromPt Tryz.prog impl_DurableOf.E k impl_DurableOf.a (impl_DurableOf.G k) 1000 (bodyOf Tryz.prog 7) 64 [.box 0 0, .box 1 0, .mp 2, .box 3 0, .own 6, .v (.int .i64 x72), .v (.int .i64 x73)] [.box [.v (.int .i64 x2_0), .v (.int .i64 x2_1), .v (.int .i64 x2_2), .con .str x2_3], .box [.v (.slice none 0 0), .v (.slice none 0 0)], .mp (.int .i64) x10, .box [.own 4, .own 5], .row 2 (.int .i64) x13_0, .tre 0 none 46 2 (.pair (.int .i64) (.sl (.int .i64))) x13_1 none, .tre 0 (some x71f) 53 2 (.pair (.int .i64) (.pair (.int .i64) (.sl (.int .i64)))) x71 none] = impl_DurableOf.p64 (k + 1) x2_0 x2_1 x2_2 x2_3 x10 x13_0 x13_1 x71f x71 x72 x73 := by kernel_rfl
theorem impl_DurableOf.G64_0 {avs : List AV} {H : List HE} : impl_DurableOf.G64 0 avs H = none := by unfold impl_DurableOf.G64; split <;> rfl
theorem impl_DurableOf.G64_s (k : Nat) {avs : List AV} {H : List HE} {x : List Int × List (Int × List Int) × Bool} (h : impl_DurableOf.G64 (k + 1) avs H = some x) : fromPt Tryz.prog impl_DurableOf.E k impl_DurableOf.a (impl_DurableOf.G k) 1000 (bodyOf Tryz.prog 7) 64 avs H = some x := by
  unfold impl_DurableOf.G64 at h
  split at h
  · rw [← h]; exact impl_DurableOf.eq64 _ _ _ _ _ _ _ _ _ _ _ _
  · cases h
set_option maxRecDepth 100000 in
theorem impl_DurableOf.eq79 (k : Nat) (x2_0 : Int) (x2_1 : Int) (x2_2 : Int) (x2_3 : List ByteArray) (x10 : (Int → Option Int)) (x13_0 : List Int) (x13_1 : List (Int × List Int)) (x17_0 : Int) (x17_1 : Int) (x17_2 : List Int) (x71f : Nat) (x71 : List (Int × Int × List Int)) (x72 : Int) (x73 : Int) (x80 : Int) (x81 : Int) : fromPt Tryz.prog impl_DurableOf.E k impl_DurableOf.a (impl_DurableOf.G k) 1000 (bodyOf Tryz.prog 7) 79 [.box 0 0, .box 1 0, .mp 2, .box 3 0, .box 6 0, .own 8, .v (.int .i64 x72), .v (.int .i64 x73), .own 7, .v (.int .i64 x80), .v (.int .i64 x81)] [.box [.v (.int .i64 x2_0), .v (.int .i64 x2_1), .v (.int .i64 x2_2), .con .str x2_3], .box [.v (.slice none 0 0), .v (.slice none 0 0)], .mp (.int .i64) x10, .box [.own 4, .own 5], .row 2 (.int .i64) x13_0, .tre 0 none 46 2 (.pair (.int .i64) (.sl (.int .i64))) x13_1 none, .box [.v (.int .i64 x17_0), .v (.int .i64 x17_1), .own 7], .row 2 (.int .i64) x17_2, .tre 0 (some x71f) 53 2 (.pair (.int .i64) (.pair (.int .i64) (.sl (.int .i64)))) x71 none] = impl_DurableOf.p79 (k + 1) x2_0 x2_1 x2_2 x2_3 x10 x13_0 x13_1 x17_0 x17_1 x17_2 x71f x71 x72 x73 x80 x81 := by kernel_rfl
theorem impl_DurableOf.G79_0 {avs : List AV} {H : List HE} : impl_DurableOf.G79 0 avs H = none := by unfold impl_DurableOf.G79; split <;> rfl
theorem impl_DurableOf.G79_s (k : Nat) {avs : List AV} {H : List HE} {x : List Int × List (Int × List Int) × Bool} (h : impl_DurableOf.G79 (k + 1) avs H = some x) : fromPt Tryz.prog impl_DurableOf.E k impl_DurableOf.a (impl_DurableOf.G k) 1000 (bodyOf Tryz.prog 7) 79 avs H = some x := by
  unfold impl_DurableOf.G79 at h
  split at h
  · rw [← h]; exact impl_DurableOf.eq79 _ _ _ _ _ _ _ _ _ _ _ _ _ _ _ _ _
  · cases h
theorem impl_DurableOf.E_ok : EnvOk Tryz.prog impl_DurableOf.E := ⟨⟨impl_RootsOf.sound, callable_of (by kernel_rfl)⟩, ⟨impl_walked.sound, callable_of (by kernel_rfl)⟩, ⟨impl_OldRef.sound, callable_of (by kernel_rfl)⟩, trivial⟩
theorem impl_DurableOf.sound : Sound Tryz.prog 7 impl_DurableOf.s := by
  refine func_sound (f := impl_DurableOf.a) (G := impl_DurableOf.G) (fn := Tryz.f7) (body := bodyOf Tryz.prog 7) 1000 (by kernel_rfl) impl_DurableOf.E_ok Tryz.func7 (by kernel_rfl) (by kernel_rfl) (by kernel_rfl) (ptsOk_of (by kernel_rfl)) ?_ ?_ ?_ ?_
  · intro r H x h
    unfold impl_DurableOf.a at h
    simp only at h
    split at h
    · cases h; rfl
    · cases h
  · exact fun q avs H => pick1_none impl_DurableOf.G28_0 (pick1_none impl_DurableOf.G47_0 (pick1_none impl_DurableOf.G64_0 (pick1_none impl_DurableOf.G79_0 (rfl))))
  · intro k q pt avs H x _ h
    rcases pick1_some h with ⟨rfl, h⟩ | h
    · exact impl_DurableOf.G28_s _ h
    rcases pick1_some h with ⟨rfl, h⟩ | h
    · exact impl_DurableOf.G47_s _ h
    rcases pick1_some h with ⟨rfl, h⟩ | h
    · exact impl_DurableOf.G64_s _ h
    rcases pick1_some h with ⟨rfl, h⟩ | h
    · exact impl_DurableOf.G79_s _ h
    cases h
  · intro k avs H o h
    try dsimp only at h
    split at h
    · cases h; exact impl_DurableOf.eq _ _ _ _ _ _
    · cases h

def laws_eqInt64S.a : FnA (Bool) := ⟨26, [.tmp 4], .bool, [], [⟨14, [0, 1, 5], [.con (.int .i64), .con (.int .i64), .val], []⟩], fun x H => match x, H with
  | .bs false r, [] => some r
  | _, _ => none⟩
def laws_eqInt64S.s : Spec := mkS [.con (.int .i64), .con (.int .i64)] (fun k avs H => match avs, H with
  | [.con (.int .i64) a0, .con (.int .i64) a1], [] => some (laws_eqInt64S.f k a0 a1)
  | _, _ => none) (fun r => (.bs false r, []))
def laws_eqInt64S.E : Env := []
def laws_eqInt64S.G14 (k : Nat) (avs : List AV) (H : List HE) : Option (Bool) := match avs, H with
  | [.con (.int .i64) x0, .con (.int .i64) x1, .v (.int .i64 x5)], [] => laws_eqInt64S.p14 k x0 x1 x5
  | _, _ => none
def laws_eqInt64S.G (k p : Nat) (avs : List AV) (H : List HE) : Option (Bool) := (pick1 14 (laws_eqInt64S.G14 k avs H) none p)
set_option maxRecDepth 100000 in
theorem laws_eqInt64S.eq (k : Nat) (a0 : List Int) (a1 : List Int) : fromTop Tryz.prog laws_eqInt64S.E k laws_eqInt64S.a (laws_eqInt64S.G k) 1000 (bodyOf Tryz.prog 21) [.con (.int .i64) a0, .con (.int .i64) a1] [] = laws_eqInt64S.f k a0 a1 := by kernel_rfl
set_option maxRecDepth 100000 in
theorem laws_eqInt64S.eq14 (k : Nat) (x0 : List Int) (x1 : List Int) (x5 : Int) : fromPt Tryz.prog laws_eqInt64S.E k laws_eqInt64S.a (laws_eqInt64S.G k) 1000 (bodyOf Tryz.prog 21) 14 [.con (.int .i64) x0, .con (.int .i64) x1, .v (.int .i64 x5)] [] = laws_eqInt64S.p14 (k + 1) x0 x1 x5 := by kernel_rfl
theorem laws_eqInt64S.G14_0 {avs : List AV} {H : List HE} : laws_eqInt64S.G14 0 avs H = none := by unfold laws_eqInt64S.G14; split <;> rfl
theorem laws_eqInt64S.G14_s (k : Nat) {avs : List AV} {H : List HE} {x : Bool} (h : laws_eqInt64S.G14 (k + 1) avs H = some x) : fromPt Tryz.prog laws_eqInt64S.E k laws_eqInt64S.a (laws_eqInt64S.G k) 1000 (bodyOf Tryz.prog 21) 14 avs H = some x := by
  unfold laws_eqInt64S.G14 at h
  split at h
  · rw [← h]; exact laws_eqInt64S.eq14 _ _ _ _
  · cases h
theorem laws_eqInt64S.E_ok : EnvOk Tryz.prog laws_eqInt64S.E := trivial
theorem laws_eqInt64S.sound : Sound Tryz.prog 21 laws_eqInt64S.s := by
  refine func_sound (f := laws_eqInt64S.a) (G := laws_eqInt64S.G) (fn := Tryz.f21) (body := bodyOf Tryz.prog 21) 1000 (by kernel_rfl) laws_eqInt64S.E_ok Tryz.func21 (by kernel_rfl) (by kernel_rfl) (by kernel_rfl) (ptsOk_of (by kernel_rfl)) ?_ ?_ ?_ ?_
  · intro r H x h
    unfold laws_eqInt64S.a at h
    simp only at h
    split at h
    · cases h; rfl
    · cases h
  · exact fun q avs H => pick1_none laws_eqInt64S.G14_0 (rfl)
  · intro k q pt avs H x _ h
    rcases pick1_some h with ⟨rfl, h⟩ | h
    · exact laws_eqInt64S.G14_s _ h
    cases h
  · intro k avs H o h
    try dsimp only at h
    split at h
    · cases h; exact laws_eqInt64S.eq _ _ _
    · cases h

def laws_eqObj.a : FnA (Bool) := ⟨16, [.tmp 4], .bool, [], [], fun x H => match x, H with
  | .bs false r, [] => some r
  | _, _ => none⟩
def laws_eqObj.s : Spec := mkS [.agg [.val, .con (.int .i64)], .agg [.val, .con (.int .i64)]] (fun k avs H => match avs, H with
  | [.agg [.v (.int .i64 a0_0), .con (.int .i64) a0_1], .agg [.v (.int .i64 a1_0), .con (.int .i64) a1_1]], [] => some (laws_eqObj.f k a0_0 a0_1 a1_0 a1_1)
  | _, _ => none) (fun r => (.bs false r, []))
def laws_eqObj.E : Env := [((21, []), laws_eqInt64S.s)]
def laws_eqObj.G (k p : Nat) (avs : List AV) (H : List HE) : Option (Bool) := none
set_option maxRecDepth 100000 in
theorem laws_eqObj.eq (k : Nat) (a0_0 : Int) (a0_1 : List Int) (a1_0 : Int) (a1_1 : List Int) : fromTop Tryz.prog laws_eqObj.E k laws_eqObj.a (laws_eqObj.G k) 1000 (bodyOf Tryz.prog 47) [.agg [.v (.int .i64 a0_0), .con (.int .i64) a0_1], .agg [.v (.int .i64 a1_0), .con (.int .i64) a1_1]] [] = laws_eqObj.f k a0_0 a0_1 a1_0 a1_1 := by kernel_rfl
theorem laws_eqObj.E_ok : EnvOk Tryz.prog laws_eqObj.E := ⟨⟨laws_eqInt64S.sound, callable_of (by kernel_rfl)⟩, trivial⟩
theorem laws_eqObj.sound : Sound Tryz.prog 47 laws_eqObj.s := by
  refine func_sound (f := laws_eqObj.a) (G := laws_eqObj.G) (fn := Tryz.f47) (body := bodyOf Tryz.prog 47) 1000 (by kernel_rfl) laws_eqObj.E_ok Tryz.func47 (by kernel_rfl) (by kernel_rfl) (by kernel_rfl) (ptsOk_of (by kernel_rfl)) ?_ ?_ ?_ ?_
  · intro r H x h
    unfold laws_eqObj.a at h
    simp only at h
    split at h
    · cases h; rfl
    · cases h
  · intro q avs H; rfl
  · intro k q pt avs H x _ h; cases h
  · intro k avs H o h
    try dsimp only at h
    split at h
    · cases h; exact laws_eqObj.eq _ _ _ _ _
    · cases h

def laws_eqObjS.a : FnA (Bool) := ⟨27, [.tmp 4], .bool, [], [⟨14, [0, 1, 5], [.con (.pair (.int .i64) (.sl (.int .i64))), .con (.pair (.int .i64) (.sl (.int .i64))), .val], []⟩], fun x H => match x, H with
  | .bs false r, [] => some r
  | _, _ => none⟩
def laws_eqObjS.s : Spec := mkS [.con (.pair (.int .i64) (.sl (.int .i64))), .con (.pair (.int .i64) (.sl (.int .i64)))] (fun k avs H => match avs, H with
  | [.con (.pair (.int .i64) (.sl (.int .i64))) a0, .con (.pair (.int .i64) (.sl (.int .i64))) a1], [] => some (laws_eqObjS.f k a0 a1)
  | _, _ => none) (fun r => (.bs false r, []))
def laws_eqObjS.E : Env := [((47, []), laws_eqObj.s)]
def laws_eqObjS.G14 (k : Nat) (avs : List AV) (H : List HE) : Option (Bool) := match avs, H with
  | [.con (.pair (.int .i64) (.sl (.int .i64))) x0, .con (.pair (.int .i64) (.sl (.int .i64))) x1, .v (.int .i64 x5)], [] => laws_eqObjS.p14 k x0 x1 x5
  | _, _ => none
def laws_eqObjS.G (k p : Nat) (avs : List AV) (H : List HE) : Option (Bool) := (pick1 14 (laws_eqObjS.G14 k avs H) none p)
set_option maxRecDepth 100000 in
theorem laws_eqObjS.eq (k : Nat) (a0 : List (Int × List Int)) (a1 : List (Int × List Int)) : fromTop Tryz.prog laws_eqObjS.E k laws_eqObjS.a (laws_eqObjS.G k) 1000 (bodyOf Tryz.prog 22) [.con (.pair (.int .i64) (.sl (.int .i64))) a0, .con (.pair (.int .i64) (.sl (.int .i64))) a1] [] = laws_eqObjS.f k a0 a1 := by kernel_rfl
set_option maxRecDepth 100000 in
theorem laws_eqObjS.eq14 (k : Nat) (x0 : List (Int × List Int)) (x1 : List (Int × List Int)) (x5 : Int) : fromPt Tryz.prog laws_eqObjS.E k laws_eqObjS.a (laws_eqObjS.G k) 1000 (bodyOf Tryz.prog 22) 14 [.con (.pair (.int .i64) (.sl (.int .i64))) x0, .con (.pair (.int .i64) (.sl (.int .i64))) x1, .v (.int .i64 x5)] [] = laws_eqObjS.p14 (k + 1) x0 x1 x5 := by kernel_rfl
theorem laws_eqObjS.G14_0 {avs : List AV} {H : List HE} : laws_eqObjS.G14 0 avs H = none := by unfold laws_eqObjS.G14; split <;> rfl
theorem laws_eqObjS.G14_s (k : Nat) {avs : List AV} {H : List HE} {x : Bool} (h : laws_eqObjS.G14 (k + 1) avs H = some x) : fromPt Tryz.prog laws_eqObjS.E k laws_eqObjS.a (laws_eqObjS.G k) 1000 (bodyOf Tryz.prog 22) 14 avs H = some x := by
  unfold laws_eqObjS.G14 at h
  split at h
  · rw [← h]; exact laws_eqObjS.eq14 _ _ _ _
  · cases h
theorem laws_eqObjS.E_ok : EnvOk Tryz.prog laws_eqObjS.E := ⟨⟨laws_eqObj.sound, callable_of (by kernel_rfl)⟩, trivial⟩
theorem laws_eqObjS.sound : Sound Tryz.prog 22 laws_eqObjS.s := by
  refine func_sound (f := laws_eqObjS.a) (G := laws_eqObjS.G) (fn := Tryz.f22) (body := bodyOf Tryz.prog 22) 1000 (by kernel_rfl) laws_eqObjS.E_ok Tryz.func22 (by kernel_rfl) (by kernel_rfl) (by kernel_rfl) (ptsOk_of (by kernel_rfl)) ?_ ?_ ?_ ?_
  · intro r H x h
    unfold laws_eqObjS.a at h
    simp only at h
    split at h
    · cases h; rfl
    · cases h
  · exact fun q avs H => pick1_none laws_eqObjS.G14_0 (rfl)
  · intro k q pt avs H x _ h
    rcases pick1_some h with ⟨rfl, h⟩ | h
    · exact laws_eqObjS.G14_s _ h
    cases h
  · intro k avs H o h
    try dsimp only at h
    split at h
    · cases h; exact laws_eqObjS.eq _ _ _
    · cases h

def laws_eqGraph.a : FnA (Bool) := ⟨17, [.tmp 4], .bool, [], [], fun x H => match x, H with
  | .bs false r, [] => some r
  | _, _ => none⟩
def laws_eqGraph.s : Spec := mkS [.agg [.con (.int .i64), .con (.pair (.int .i64) (.sl (.int .i64)))], .agg [.con (.int .i64), .con (.pair (.int .i64) (.sl (.int .i64)))]] (fun k avs H => match avs, H with
  | [.agg [.con (.int .i64) a0_0, .con (.pair (.int .i64) (.sl (.int .i64))) a0_1], .agg [.con (.int .i64) a1_0, .con (.pair (.int .i64) (.sl (.int .i64))) a1_1]], [] => some (laws_eqGraph.f k a0_0 a0_1 a1_0 a1_1)
  | _, _ => none) (fun r => (.bs false r, []))
def laws_eqGraph.E : Env := [((21, []), laws_eqInt64S.s), ((22, []), laws_eqObjS.s)]
def laws_eqGraph.G (k p : Nat) (avs : List AV) (H : List HE) : Option (Bool) := none
set_option maxRecDepth 100000 in
theorem laws_eqGraph.eq (k : Nat) (a0_0 : List Int) (a0_1 : List (Int × List Int)) (a1_0 : List Int) (a1_1 : List (Int × List Int)) : fromTop Tryz.prog laws_eqGraph.E k laws_eqGraph.a (laws_eqGraph.G k) 1000 (bodyOf Tryz.prog 8) [.agg [.con (.int .i64) a0_0, .con (.pair (.int .i64) (.sl (.int .i64))) a0_1], .agg [.con (.int .i64) a1_0, .con (.pair (.int .i64) (.sl (.int .i64))) a1_1]] [] = laws_eqGraph.f k a0_0 a0_1 a1_0 a1_1 := by kernel_rfl
theorem laws_eqGraph.E_ok : EnvOk Tryz.prog laws_eqGraph.E := ⟨⟨laws_eqInt64S.sound, callable_of (by kernel_rfl)⟩, ⟨laws_eqObjS.sound, callable_of (by kernel_rfl)⟩, trivial⟩
theorem laws_eqGraph.sound : Sound Tryz.prog 8 laws_eqGraph.s := by
  refine func_sound (f := laws_eqGraph.a) (G := laws_eqGraph.G) (fn := Tryz.f8) (body := bodyOf Tryz.prog 8) 1000 (by kernel_rfl) laws_eqGraph.E_ok Tryz.func8 (by kernel_rfl) (by kernel_rfl) (by kernel_rfl) (ptsOk_of (by kernel_rfl)) ?_ ?_ ?_ ?_
  · intro r H x h
    unfold laws_eqGraph.a at h
    simp only at h
    split at h
    · cases h; rfl
    · cases h
  · intro q avs H; rfl
  · intro k q pt avs H x _ h; cases h
  · intro k avs H o h
    try dsimp only at h
    split at h
    · cases h; exact laws_eqGraph.eq _ _ _ _ _
    · cases h

def laws_eqStringS.a : FnA (Bool) := ⟨26, [.tmp 4], .bool, [], [⟨14, [0, 1, 5], [.con .str, .con .str, .val], []⟩], fun x H => match x, H with
  | .bs false r, [] => some r
  | _, _ => none⟩
def laws_eqStringS.s : Spec := mkS [.con .str, .con .str] (fun k avs H => match avs, H with
  | [.con .str a0, .con .str a1], [] => some (laws_eqStringS.f k a0 a1)
  | _, _ => none) (fun r => (.bs false r, []))
def laws_eqStringS.E : Env := []
def laws_eqStringS.G14 (k : Nat) (avs : List AV) (H : List HE) : Option (Bool) := match avs, H with
  | [.con .str x0, .con .str x1, .v (.int .i64 x5)], [] => laws_eqStringS.p14 k x0 x1 x5
  | _, _ => none
def laws_eqStringS.G (k p : Nat) (avs : List AV) (H : List HE) : Option (Bool) := (pick1 14 (laws_eqStringS.G14 k avs H) none p)
set_option maxRecDepth 100000 in
theorem laws_eqStringS.eq (k : Nat) (a0 : List ByteArray) (a1 : List ByteArray) : fromTop Tryz.prog laws_eqStringS.E k laws_eqStringS.a (laws_eqStringS.G k) 1000 (bodyOf Tryz.prog 23) [.con .str a0, .con .str a1] [] = laws_eqStringS.f k a0 a1 := by kernel_rfl
set_option maxRecDepth 100000 in
theorem laws_eqStringS.eq14 (k : Nat) (x0 : List ByteArray) (x1 : List ByteArray) (x5 : Int) : fromPt Tryz.prog laws_eqStringS.E k laws_eqStringS.a (laws_eqStringS.G k) 1000 (bodyOf Tryz.prog 23) 14 [.con .str x0, .con .str x1, .v (.int .i64 x5)] [] = laws_eqStringS.p14 (k + 1) x0 x1 x5 := by kernel_rfl
theorem laws_eqStringS.G14_0 {avs : List AV} {H : List HE} : laws_eqStringS.G14 0 avs H = none := by unfold laws_eqStringS.G14; split <;> rfl
theorem laws_eqStringS.G14_s (k : Nat) {avs : List AV} {H : List HE} {x : Bool} (h : laws_eqStringS.G14 (k + 1) avs H = some x) : fromPt Tryz.prog laws_eqStringS.E k laws_eqStringS.a (laws_eqStringS.G k) 1000 (bodyOf Tryz.prog 23) 14 avs H = some x := by
  unfold laws_eqStringS.G14 at h
  split at h
  · rw [← h]; exact laws_eqStringS.eq14 _ _ _ _
  · cases h
theorem laws_eqStringS.E_ok : EnvOk Tryz.prog laws_eqStringS.E := trivial
theorem laws_eqStringS.sound : Sound Tryz.prog 23 laws_eqStringS.s := by
  refine func_sound (f := laws_eqStringS.a) (G := laws_eqStringS.G) (fn := Tryz.f23) (body := bodyOf Tryz.prog 23) 1000 (by kernel_rfl) laws_eqStringS.E_ok Tryz.func23 (by kernel_rfl) (by kernel_rfl) (by kernel_rfl) (ptsOk_of (by kernel_rfl)) ?_ ?_ ?_ ?_
  · intro r H x h
    unfold laws_eqStringS.a at h
    simp only at h
    split at h
    · cases h; rfl
    · cases h
  · exact fun q avs H => pick1_none laws_eqStringS.G14_0 (rfl)
  · intro k q pt avs H x _ h
    rcases pick1_some h with ⟨rfl, h⟩ | h
    · exact laws_eqStringS.G14_s _ h
    cases h
  · intro k avs H o h
    try dsimp only at h
    split at h
    · cases h; exact laws_eqStringS.eq _ _ _
    · cases h

def laws_eqConfig.a : FnA (Bool) := ⟨26, [.tmp 4], .bool, [], [], fun x H => match x, H with
  | .bs false r, [] => some r
  | _, _ => none⟩
def laws_eqConfig.s : Spec := mkS [.agg [.val, .val, .val, .con .str], .agg [.val, .val, .val, .con .str]] (fun k avs H => match avs, H with
  | [.agg [.v (.int .i64 a0_0), .v (.int .i64 a0_1), .v (.int .i64 a0_2), .con .str a0_3], .agg [.v (.int .i64 a1_0), .v (.int .i64 a1_1), .v (.int .i64 a1_2), .con .str a1_3]], [] => some (laws_eqConfig.f k a0_0 a0_1 a0_2 a0_3 a1_0 a1_1 a1_2 a1_3)
  | _, _ => none) (fun r => (.bs false r, []))
def laws_eqConfig.E : Env := [((23, []), laws_eqStringS.s)]
def laws_eqConfig.G (k p : Nat) (avs : List AV) (H : List HE) : Option (Bool) := none
set_option maxRecDepth 100000 in
theorem laws_eqConfig.eq (k : Nat) (a0_0 : Int) (a0_1 : Int) (a0_2 : Int) (a0_3 : List ByteArray) (a1_0 : Int) (a1_1 : Int) (a1_2 : Int) (a1_3 : List ByteArray) : fromTop Tryz.prog laws_eqConfig.E k laws_eqConfig.a (laws_eqConfig.G k) 1000 (bodyOf Tryz.prog 9) [.agg [.v (.int .i64 a0_0), .v (.int .i64 a0_1), .v (.int .i64 a0_2), .con .str a0_3], .agg [.v (.int .i64 a1_0), .v (.int .i64 a1_1), .v (.int .i64 a1_2), .con .str a1_3]] [] = laws_eqConfig.f k a0_0 a0_1 a0_2 a0_3 a1_0 a1_1 a1_2 a1_3 := by kernel_rfl
theorem laws_eqConfig.E_ok : EnvOk Tryz.prog laws_eqConfig.E := ⟨⟨laws_eqStringS.sound, callable_of (by kernel_rfl)⟩, trivial⟩
theorem laws_eqConfig.sound : Sound Tryz.prog 9 laws_eqConfig.s := by
  refine func_sound (f := laws_eqConfig.a) (G := laws_eqConfig.G) (fn := Tryz.f9) (body := bodyOf Tryz.prog 9) 1000 (by kernel_rfl) laws_eqConfig.E_ok Tryz.func9 (by kernel_rfl) (by kernel_rfl) (by kernel_rfl) (ptsOk_of (by kernel_rfl)) ?_ ?_ ?_ ?_
  · intro r H x h
    unfold laws_eqConfig.a at h
    simp only at h
    split at h
    · cases h; rfl
    · cases h
  · intro q avs H; rfl
  · intro k q pt avs H x _ h; cases h
  · intro k avs H o h
    try dsimp only at h
    split at h
    · cases h; exact laws_eqConfig.eq _ _ _ _ _ _ _ _ _
    · cases h

def laws_markText.a : FnA (ByteArray) := ⟨20, [.tmp 2], .val, [], [⟨14, [0, 3], [.val, .val], []⟩], fun x H => match x, H with
  | .v (.string r), [] => some r
  | _, _ => none⟩
def laws_markText.s : Spec := mkS [.val] (fun k avs H => match avs, H with
  | [.v (.int .i64 a0)], [] => some (laws_markText.f k a0)
  | _, _ => none) (fun r => (.v (.string r), []))
def laws_markText.E : Env := []
def laws_markText.G14 (k : Nat) (avs : List AV) (H : List HE) : Option (ByteArray) := match avs, H with
  | [.v (.int .i64 x0), .v (.string x3)], [] => laws_markText.p14 k x0 x3
  | _, _ => none
def laws_markText.G (k p : Nat) (avs : List AV) (H : List HE) : Option (ByteArray) := (pick1 14 (laws_markText.G14 k avs H) none p)
set_option maxRecDepth 100000 in
theorem laws_markText.eq (k : Nat) (a0 : Int) : fromTop Tryz.prog laws_markText.E k laws_markText.a (laws_markText.G k) 1000 (bodyOf Tryz.prog 48) [.v (.int .i64 a0)] [] = laws_markText.f k a0 := by kernel_rfl
set_option maxRecDepth 100000 in
theorem laws_markText.eq14 (k : Nat) (x0 : Int) (x3 : ByteArray) : fromPt Tryz.prog laws_markText.E k laws_markText.a (laws_markText.G k) 1000 (bodyOf Tryz.prog 48) 14 [.v (.int .i64 x0), .v (.string x3)] [] = laws_markText.p14 (k + 1) x0 x3 := by kernel_rfl
theorem laws_markText.G14_0 {avs : List AV} {H : List HE} : laws_markText.G14 0 avs H = none := by unfold laws_markText.G14; split <;> rfl
theorem laws_markText.G14_s (k : Nat) {avs : List AV} {H : List HE} {x : ByteArray} (h : laws_markText.G14 (k + 1) avs H = some x) : fromPt Tryz.prog laws_markText.E k laws_markText.a (laws_markText.G k) 1000 (bodyOf Tryz.prog 48) 14 avs H = some x := by
  unfold laws_markText.G14 at h
  split at h
  · rw [← h]; exact laws_markText.eq14 _ _ _
  · cases h
theorem laws_markText.E_ok : EnvOk Tryz.prog laws_markText.E := trivial
theorem laws_markText.sound : Sound Tryz.prog 48 laws_markText.s := by
  refine func_sound (f := laws_markText.a) (G := laws_markText.G) (fn := Tryz.f48) (body := bodyOf Tryz.prog 48) 1000 (by kernel_rfl) laws_markText.E_ok Tryz.func48 (by kernel_rfl) (by kernel_rfl) (by kernel_rfl) (ptsOk_of (by kernel_rfl)) ?_ ?_ ?_ ?_
  · intro r H x h
    unfold laws_markText.a at h
    simp only at h
    split at h
    · cases h; rfl
    · cases h
  · exact fun q avs H => pick1_none laws_markText.G14_0 (rfl)
  · intro k q pt avs H x _ h
    rcases pick1_some h with ⟨rfl, h⟩ | h
    · exact laws_markText.G14_s _ h
    cases h
  · intro k avs H o h
    try dsimp only at h
    split at h
    · cases h; exact laws_markText.eq _ _
    · cases h

def laws_markStringS.a : FnA (List ByteArray × Int) := ⟨20, [.tmp 4], .val, [.keep], [⟨6, [0, 1, 5], [.row 9 .str, .val, .val], [.keep]⟩], fun x H => match x, H with
  | .v (.int .i64 r), [.row 9 .str h0] => some (h0, r)
  | _, _ => none⟩
def laws_markStringS.s : Spec := mkS [.row 9 .str, .val] (fun k avs H => match avs, H with
  | [.own 0, .v (.int .i64 a1)], [.row 9 .str a0] => some (laws_markStringS.f k a0 a1)
  | _, _ => none) (fun r => (.v (.int .i64 r.2), [.row 9 .str r.1]))
def laws_markStringS.E : Env := [((48, []), laws_markText.s)]
def laws_markStringS.G6 (k : Nat) (avs : List AV) (H : List HE) : Option (List ByteArray × Int) := match avs, H with
  | [.own 0, .v (.int .i64 x1), .v (.int .i64 x5)], [.row 9 .str h0] => laws_markStringS.p6 k h0 x1 x5
  | _, _ => none
def laws_markStringS.G (k p : Nat) (avs : List AV) (H : List HE) : Option (List ByteArray × Int) := (pick1 6 (laws_markStringS.G6 k avs H) none p)
set_option maxRecDepth 100000 in
theorem laws_markStringS.eq (k : Nat) (a0 : List ByteArray) (a1 : Int) : fromTop Tryz.prog laws_markStringS.E k laws_markStringS.a (laws_markStringS.G k) 1000 (bodyOf Tryz.prog 24) [.own 0, .v (.int .i64 a1)] [.row 9 .str a0] = laws_markStringS.f k a0 a1 := by kernel_rfl
set_option maxRecDepth 100000 in
theorem laws_markStringS.eq6 (k : Nat) (h0 : List ByteArray) (x1 : Int) (x5 : Int) : fromPt Tryz.prog laws_markStringS.E k laws_markStringS.a (laws_markStringS.G k) 1000 (bodyOf Tryz.prog 24) 6 [.own 0, .v (.int .i64 x1), .v (.int .i64 x5)] [.row 9 .str h0] = laws_markStringS.p6 (k + 1) h0 x1 x5 := by kernel_rfl
theorem laws_markStringS.G6_0 {avs : List AV} {H : List HE} : laws_markStringS.G6 0 avs H = none := by unfold laws_markStringS.G6; split <;> rfl
theorem laws_markStringS.G6_s (k : Nat) {avs : List AV} {H : List HE} {x : List ByteArray × Int} (h : laws_markStringS.G6 (k + 1) avs H = some x) : fromPt Tryz.prog laws_markStringS.E k laws_markStringS.a (laws_markStringS.G k) 1000 (bodyOf Tryz.prog 24) 6 avs H = some x := by
  unfold laws_markStringS.G6 at h
  split at h
  · rw [← h]; exact laws_markStringS.eq6 _ _ _ _
  · cases h
theorem laws_markStringS.E_ok : EnvOk Tryz.prog laws_markStringS.E := ⟨⟨laws_markText.sound, callable_of (by kernel_rfl)⟩, trivial⟩
theorem laws_markStringS.sound : Sound Tryz.prog 24 laws_markStringS.s := by
  refine func_sound (f := laws_markStringS.a) (G := laws_markStringS.G) (fn := Tryz.f24) (body := bodyOf Tryz.prog 24) 1000 (by kernel_rfl) laws_markStringS.E_ok Tryz.func24 (by kernel_rfl) (by kernel_rfl) (by kernel_rfl) (ptsOk_of (by kernel_rfl)) ?_ ?_ ?_ ?_
  · intro r H x h
    unfold laws_markStringS.a at h
    simp only at h
    split at h
    · cases h; rfl
    · cases h
  · exact fun q avs H => pick1_none laws_markStringS.G6_0 (rfl)
  · intro k q pt avs H x _ h
    rcases pick1_some h with ⟨rfl, h⟩ | h
    · exact laws_markStringS.G6_s _ h
    cases h
  · intro k avs H o h
    try dsimp only at h
    split at h
    · cases h; exact laws_markStringS.eq _ _ _
    · cases h

def laws_markConfig.a : FnA (List ByteArray × Int) := ⟨10, [.tmp 4], .val, [.keep], [], fun x H => match x, H with
  | .v (.int .i64 r), [.row 9 .str h0] => some (h0, r)
  | _, _ => none⟩
def laws_markConfig.s : Spec := mkS [.agg [.val, .val, .val, .row 9 .str], .val] (fun k avs H => match avs, H with
  | [.agg [.v (.int .i64 a0_0), .v (.int .i64 a0_1), .v (.int .i64 a0_2), .own 0], .v (.int .i64 a1)], [.row 9 .str a0_3] => some (laws_markConfig.f k a0_0 a0_1 a0_2 a0_3 a1)
  | _, _ => none) (fun r => (.v (.int .i64 r.2), [.row 9 .str r.1]))
def laws_markConfig.E : Env := [((24, []), laws_markStringS.s)]
def laws_markConfig.G (k p : Nat) (avs : List AV) (H : List HE) : Option (List ByteArray × Int) := none
set_option maxRecDepth 100000 in
theorem laws_markConfig.eq (k : Nat) (a0_0 : Int) (a0_1 : Int) (a0_2 : Int) (a0_3 : List ByteArray) (a1 : Int) : fromTop Tryz.prog laws_markConfig.E k laws_markConfig.a (laws_markConfig.G k) 1000 (bodyOf Tryz.prog 10) [.agg [.v (.int .i64 a0_0), .v (.int .i64 a0_1), .v (.int .i64 a0_2), .own 0], .v (.int .i64 a1)] [.row 9 .str a0_3] = laws_markConfig.f k a0_0 a0_1 a0_2 a0_3 a1 := by kernel_rfl
theorem laws_markConfig.E_ok : EnvOk Tryz.prog laws_markConfig.E := ⟨⟨laws_markStringS.sound, callable_of (by kernel_rfl)⟩, trivial⟩
theorem laws_markConfig.sound : Sound Tryz.prog 10 laws_markConfig.s := by
  refine func_sound (f := laws_markConfig.a) (G := laws_markConfig.G) (fn := Tryz.f10) (body := bodyOf Tryz.prog 10) 1000 (by kernel_rfl) laws_markConfig.E_ok Tryz.func10 (by kernel_rfl) (by kernel_rfl) (by kernel_rfl) (ptsOk_of (by kernel_rfl)) ?_ ?_ ?_ ?_
  · intro r H x h
    unfold laws_markConfig.a at h
    simp only at h
    split at h
    · cases h; rfl
    · cases h
  · intro q avs H; rfl
  · intro k q pt avs H x _ h; cases h
  · intro k avs H o h
    try dsimp only at h
    split at h
    · cases h; exact laws_markConfig.eq _ _ _ _ _ _
    · cases h

def laws_markInt64S.a : FnA (List Int × Int) := ⟨19, [.tmp 4], .val, [.keep], [⟨6, [0, 1, 5], [.row 2 (.int .i64), .val, .val], [.keep]⟩], fun x H => match x, H with
  | .v (.int .i64 r), [.row 2 (.int .i64) h0] => some (h0, r)
  | _, _ => none⟩
def laws_markInt64S.s : Spec := mkS [.row 2 (.int .i64), .val] (fun k avs H => match avs, H with
  | [.own 0, .v (.int .i64 a1)], [.row 2 (.int .i64) a0] => some (laws_markInt64S.f k a0 a1)
  | _, _ => none) (fun r => (.v (.int .i64 r.2), [.row 2 (.int .i64) r.1]))
def laws_markInt64S.E : Env := []
def laws_markInt64S.G6 (k : Nat) (avs : List AV) (H : List HE) : Option (List Int × Int) := match avs, H with
  | [.own 0, .v (.int .i64 x1), .v (.int .i64 x5)], [.row 2 (.int .i64) h0] => laws_markInt64S.p6 k h0 x1 x5
  | _, _ => none
def laws_markInt64S.G (k p : Nat) (avs : List AV) (H : List HE) : Option (List Int × Int) := (pick1 6 (laws_markInt64S.G6 k avs H) none p)
set_option maxRecDepth 100000 in
theorem laws_markInt64S.eq (k : Nat) (a0 : List Int) (a1 : Int) : fromTop Tryz.prog laws_markInt64S.E k laws_markInt64S.a (laws_markInt64S.G k) 1000 (bodyOf Tryz.prog 25) [.own 0, .v (.int .i64 a1)] [.row 2 (.int .i64) a0] = laws_markInt64S.f k a0 a1 := by kernel_rfl
set_option maxRecDepth 100000 in
theorem laws_markInt64S.eq6 (k : Nat) (h0 : List Int) (x1 : Int) (x5 : Int) : fromPt Tryz.prog laws_markInt64S.E k laws_markInt64S.a (laws_markInt64S.G k) 1000 (bodyOf Tryz.prog 25) 6 [.own 0, .v (.int .i64 x1), .v (.int .i64 x5)] [.row 2 (.int .i64) h0] = laws_markInt64S.p6 (k + 1) h0 x1 x5 := by kernel_rfl
theorem laws_markInt64S.G6_0 {avs : List AV} {H : List HE} : laws_markInt64S.G6 0 avs H = none := by unfold laws_markInt64S.G6; split <;> rfl
theorem laws_markInt64S.G6_s (k : Nat) {avs : List AV} {H : List HE} {x : List Int × Int} (h : laws_markInt64S.G6 (k + 1) avs H = some x) : fromPt Tryz.prog laws_markInt64S.E k laws_markInt64S.a (laws_markInt64S.G k) 1000 (bodyOf Tryz.prog 25) 6 avs H = some x := by
  unfold laws_markInt64S.G6 at h
  split at h
  · rw [← h]; exact laws_markInt64S.eq6 _ _ _ _
  · cases h
theorem laws_markInt64S.E_ok : EnvOk Tryz.prog laws_markInt64S.E := trivial
theorem laws_markInt64S.sound : Sound Tryz.prog 25 laws_markInt64S.s := by
  refine func_sound (f := laws_markInt64S.a) (G := laws_markInt64S.G) (fn := Tryz.f25) (body := bodyOf Tryz.prog 25) 1000 (by kernel_rfl) laws_markInt64S.E_ok Tryz.func25 (by kernel_rfl) (by kernel_rfl) (by kernel_rfl) (ptsOk_of (by kernel_rfl)) ?_ ?_ ?_ ?_
  · intro r H x h
    unfold laws_markInt64S.a at h
    simp only at h
    split at h
    · cases h; rfl
    · cases h
  · exact fun q avs H => pick1_none laws_markInt64S.G6_0 (rfl)
  · intro k q pt avs H x _ h
    rcases pick1_some h with ⟨rfl, h⟩ | h
    · exact laws_markInt64S.G6_s _ h
    cases h
  · intro k avs H o h
    try dsimp only at h
    split at h
    · cases h; exact laws_markInt64S.eq _ _ _
    · cases h

def laws_markObjS.a : FnA (List (Int × List Int) × Int) := ⟨27, [.tmp 4], .val, [.keep], [⟨6, [0, 1, 5], [.row 46 (.pair (.int .i64) (.sl (.int .i64))), .val, .val], [.keep]⟩], fun x H => match x, H with
  | .v (.int .i64 r), [.tre 0 none 46 2 (.pair (.int .i64) (.sl (.int .i64))) h0 none] => some (h0, r)
  | _, _ => none⟩
def laws_markObjS.s : Spec := mkS [.tre 0 46 2 (.pair (.int .i64) (.sl (.int .i64))), .val] (fun k avs H => match avs, H with
  | [.own 0, .v (.int .i64 a1)], [.tre 0 none 46 2 (.pair (.int .i64) (.sl (.int .i64))) a0 none] => some (laws_markObjS.f k a0 a1)
  | _, _ => none) (fun r => (.v (.int .i64 r.2), [.tre 0 none 46 2 (.pair (.int .i64) (.sl (.int .i64))) r.1 none]))
def laws_markObjS.E : Env := [((25, []), laws_markInt64S.s)]
def laws_markObjS.G6 (k : Nat) (avs : List AV) (H : List HE) : Option (List (Int × List Int) × Int) := match avs, H with
  | [.own 0, .v (.int .i64 x1), .v (.int .i64 x5)], [.tre 0 none 46 2 (.pair (.int .i64) (.sl (.int .i64))) h0 none] => laws_markObjS.p6 k h0 x1 x5
  | _, _ => none
def laws_markObjS.G (k p : Nat) (avs : List AV) (H : List HE) : Option (List (Int × List Int) × Int) := (pick1 6 (laws_markObjS.G6 k avs H) none p)
set_option maxRecDepth 100000 in
theorem laws_markObjS.eq (k : Nat) (a0 : List (Int × List Int)) (a1 : Int) : fromTop Tryz.prog laws_markObjS.E k laws_markObjS.a (laws_markObjS.G k) 1000 (bodyOf Tryz.prog 26) [.own 0, .v (.int .i64 a1)] [.tre 0 none 46 2 (.pair (.int .i64) (.sl (.int .i64))) a0 none] = laws_markObjS.f k a0 a1 := by kernel_rfl
set_option maxRecDepth 100000 in
theorem laws_markObjS.eq6 (k : Nat) (h0 : List (Int × List Int)) (x1 : Int) (x5 : Int) : fromPt Tryz.prog laws_markObjS.E k laws_markObjS.a (laws_markObjS.G k) 1000 (bodyOf Tryz.prog 26) 6 [.own 0, .v (.int .i64 x1), .v (.int .i64 x5)] [.tre 0 none 46 2 (.pair (.int .i64) (.sl (.int .i64))) h0 none] = laws_markObjS.p6 (k + 1) h0 x1 x5 := by kernel_rfl
theorem laws_markObjS.G6_0 {avs : List AV} {H : List HE} : laws_markObjS.G6 0 avs H = none := by unfold laws_markObjS.G6; split <;> rfl
theorem laws_markObjS.G6_s (k : Nat) {avs : List AV} {H : List HE} {x : List (Int × List Int) × Int} (h : laws_markObjS.G6 (k + 1) avs H = some x) : fromPt Tryz.prog laws_markObjS.E k laws_markObjS.a (laws_markObjS.G k) 1000 (bodyOf Tryz.prog 26) 6 avs H = some x := by
  unfold laws_markObjS.G6 at h
  split at h
  · rw [← h]; exact laws_markObjS.eq6 _ _ _ _
  · cases h
theorem laws_markObjS.E_ok : EnvOk Tryz.prog laws_markObjS.E := ⟨⟨laws_markInt64S.sound, callable_of (by kernel_rfl)⟩, trivial⟩
theorem laws_markObjS.sound : Sound Tryz.prog 26 laws_markObjS.s := by
  refine func_sound (f := laws_markObjS.a) (G := laws_markObjS.G) (fn := Tryz.f26) (body := bodyOf Tryz.prog 26) 1000 (by kernel_rfl) laws_markObjS.E_ok Tryz.func26 (by kernel_rfl) (by kernel_rfl) (by kernel_rfl) (ptsOk_of (by kernel_rfl)) ?_ ?_ ?_ ?_
  · intro r H x h
    unfold laws_markObjS.a at h
    simp only at h
    split at h
    · cases h; rfl
    · cases h
  · exact fun q avs H => pick1_none laws_markObjS.G6_0 (rfl)
  · intro k q pt avs H x _ h
    rcases pick1_some h with ⟨rfl, h⟩ | h
    · exact laws_markObjS.G6_s _ h
    cases h
  · intro k avs H o h
    try dsimp only at h
    split at h
    · cases h; exact laws_markObjS.eq _ _ _
    · cases h

def laws_markGraph.a : FnA (List Int × List (Int × List Int) × Int) := ⟨14, [.tmp 4], .val, [.keep, .keep], [], fun x H => match x, H with
  | .v (.int .i64 r), [.row 2 (.int .i64) h0, .tre 0 none 46 2 (.pair (.int .i64) (.sl (.int .i64))) h1 none] => some (h0, h1, r)
  | _, _ => none⟩
def laws_markGraph.s : Spec := mkS [.agg [.row 2 (.int .i64), .tre 0 46 2 (.pair (.int .i64) (.sl (.int .i64)))], .val] (fun k avs H => match avs, H with
  | [.agg [.own 0, .own 1], .v (.int .i64 a1)], [.row 2 (.int .i64) a0_0, .tre 0 none 46 2 (.pair (.int .i64) (.sl (.int .i64))) a0_1 none] => some (laws_markGraph.f k a0_0 a0_1 a1)
  | _, _ => none) (fun r => (.v (.int .i64 r.2.2), [.row 2 (.int .i64) r.1, .tre 0 none 46 2 (.pair (.int .i64) (.sl (.int .i64))) r.2.1 none]))
def laws_markGraph.E : Env := [((25, []), laws_markInt64S.s), ((26, []), laws_markObjS.s)]
def laws_markGraph.G (k p : Nat) (avs : List AV) (H : List HE) : Option (List Int × List (Int × List Int) × Int) := none
set_option maxRecDepth 100000 in
theorem laws_markGraph.eq (k : Nat) (a0_0 : List Int) (a0_1 : List (Int × List Int)) (a1 : Int) : fromTop Tryz.prog laws_markGraph.E k laws_markGraph.a (laws_markGraph.G k) 1000 (bodyOf Tryz.prog 11) [.agg [.own 0, .own 1], .v (.int .i64 a1)] [.row 2 (.int .i64) a0_0, .tre 0 none 46 2 (.pair (.int .i64) (.sl (.int .i64))) a0_1 none] = laws_markGraph.f k a0_0 a0_1 a1 := by kernel_rfl
theorem laws_markGraph.E_ok : EnvOk Tryz.prog laws_markGraph.E := ⟨⟨laws_markInt64S.sound, callable_of (by kernel_rfl)⟩, ⟨laws_markObjS.sound, callable_of (by kernel_rfl)⟩, trivial⟩
theorem laws_markGraph.sound : Sound Tryz.prog 11 laws_markGraph.s := by
  refine func_sound (f := laws_markGraph.a) (G := laws_markGraph.G) (fn := Tryz.f11) (body := bodyOf Tryz.prog 11) 1000 (by kernel_rfl) laws_markGraph.E_ok Tryz.func11 (by kernel_rfl) (by kernel_rfl) (by kernel_rfl) (ptsOk_of (by kernel_rfl)) ?_ ?_ ?_ ?_
  · intro r H x h
    unfold laws_markGraph.a at h
    simp only at h
    split at h
    · cases h; rfl
    · cases h
  · intro q avs H; rfl
  · intro k q pt avs H x _ h; cases h
  · intro k avs H o h
    try dsimp only at h
    split at h
    · cases h; exact laws_markGraph.eq _ _ _ _
    · cases h

def laws_heldInt64S.a : FnA (Int) := ⟨21, [.tmp 4], .val, [], [⟨6, [0, 1, 5], [.con (.int .i64), .val, .val], []⟩], fun x H => match x, H with
  | .v (.int .i64 r), [] => some r
  | _, _ => none⟩
def laws_heldInt64S.s : Spec := mkS [.con (.int .i64), .val] (fun k avs H => match avs, H with
  | [.con (.int .i64) a0, .v (.int .i64 a1)], [] => some (laws_heldInt64S.f k a0 a1)
  | _, _ => none) (fun r => (.v (.int .i64 r), []))
def laws_heldInt64S.E : Env := []
def laws_heldInt64S.G6 (k : Nat) (avs : List AV) (H : List HE) : Option (Int) := match avs, H with
  | [.con (.int .i64) x0, .v (.int .i64 x1), .v (.int .i64 x5)], [] => laws_heldInt64S.p6 k x0 x1 x5
  | _, _ => none
def laws_heldInt64S.G (k p : Nat) (avs : List AV) (H : List HE) : Option (Int) := (pick1 6 (laws_heldInt64S.G6 k avs H) none p)
set_option maxRecDepth 100000 in
theorem laws_heldInt64S.eq (k : Nat) (a0 : List Int) (a1 : Int) : fromTop Tryz.prog laws_heldInt64S.E k laws_heldInt64S.a (laws_heldInt64S.G k) 1000 (bodyOf Tryz.prog 27) [.con (.int .i64) a0, .v (.int .i64 a1)] [] = laws_heldInt64S.f k a0 a1 := by kernel_rfl
set_option maxRecDepth 100000 in
theorem laws_heldInt64S.eq6 (k : Nat) (x0 : List Int) (x1 : Int) (x5 : Int) : fromPt Tryz.prog laws_heldInt64S.E k laws_heldInt64S.a (laws_heldInt64S.G k) 1000 (bodyOf Tryz.prog 27) 6 [.con (.int .i64) x0, .v (.int .i64 x1), .v (.int .i64 x5)] [] = laws_heldInt64S.p6 (k + 1) x0 x1 x5 := by kernel_rfl
theorem laws_heldInt64S.G6_0 {avs : List AV} {H : List HE} : laws_heldInt64S.G6 0 avs H = none := by unfold laws_heldInt64S.G6; split <;> rfl
theorem laws_heldInt64S.G6_s (k : Nat) {avs : List AV} {H : List HE} {x : Int} (h : laws_heldInt64S.G6 (k + 1) avs H = some x) : fromPt Tryz.prog laws_heldInt64S.E k laws_heldInt64S.a (laws_heldInt64S.G k) 1000 (bodyOf Tryz.prog 27) 6 avs H = some x := by
  unfold laws_heldInt64S.G6 at h
  split at h
  · rw [← h]; exact laws_heldInt64S.eq6 _ _ _ _
  · cases h
theorem laws_heldInt64S.E_ok : EnvOk Tryz.prog laws_heldInt64S.E := trivial
theorem laws_heldInt64S.sound : Sound Tryz.prog 27 laws_heldInt64S.s := by
  refine func_sound (f := laws_heldInt64S.a) (G := laws_heldInt64S.G) (fn := Tryz.f27) (body := bodyOf Tryz.prog 27) 1000 (by kernel_rfl) laws_heldInt64S.E_ok Tryz.func27 (by kernel_rfl) (by kernel_rfl) (by kernel_rfl) (ptsOk_of (by kernel_rfl)) ?_ ?_ ?_ ?_
  · intro r H x h
    unfold laws_heldInt64S.a at h
    simp only at h
    split at h
    · cases h; rfl
    · cases h
  · exact fun q avs H => pick1_none laws_heldInt64S.G6_0 (rfl)
  · intro k q pt avs H x _ h
    rcases pick1_some h with ⟨rfl, h⟩ | h
    · exact laws_heldInt64S.G6_s _ h
    cases h
  · intro k avs H o h
    try dsimp only at h
    split at h
    · cases h; exact laws_heldInt64S.eq _ _ _
    · cases h

def laws_heldObjS.a : FnA (Int) := ⟨31, [.tmp 4], .val, [], [⟨6, [0, 1, 5], [.con (.pair (.int .i64) (.sl (.int .i64))), .val, .val], []⟩], fun x H => match x, H with
  | .v (.int .i64 r), [] => some r
  | _, _ => none⟩
def laws_heldObjS.s : Spec := mkS [.con (.pair (.int .i64) (.sl (.int .i64))), .val] (fun k avs H => match avs, H with
  | [.con (.pair (.int .i64) (.sl (.int .i64))) a0, .v (.int .i64 a1)], [] => some (laws_heldObjS.f k a0 a1)
  | _, _ => none) (fun r => (.v (.int .i64 r), []))
def laws_heldObjS.E : Env := [((27, []), laws_heldInt64S.s)]
def laws_heldObjS.G6 (k : Nat) (avs : List AV) (H : List HE) : Option (Int) := match avs, H with
  | [.con (.pair (.int .i64) (.sl (.int .i64))) x0, .v (.int .i64 x1), .v (.int .i64 x5)], [] => laws_heldObjS.p6 k x0 x1 x5
  | _, _ => none
def laws_heldObjS.G (k p : Nat) (avs : List AV) (H : List HE) : Option (Int) := (pick1 6 (laws_heldObjS.G6 k avs H) none p)
set_option maxRecDepth 100000 in
theorem laws_heldObjS.eq (k : Nat) (a0 : List (Int × List Int)) (a1 : Int) : fromTop Tryz.prog laws_heldObjS.E k laws_heldObjS.a (laws_heldObjS.G k) 1000 (bodyOf Tryz.prog 28) [.con (.pair (.int .i64) (.sl (.int .i64))) a0, .v (.int .i64 a1)] [] = laws_heldObjS.f k a0 a1 := by kernel_rfl
set_option maxRecDepth 100000 in
theorem laws_heldObjS.eq6 (k : Nat) (x0 : List (Int × List Int)) (x1 : Int) (x5 : Int) : fromPt Tryz.prog laws_heldObjS.E k laws_heldObjS.a (laws_heldObjS.G k) 1000 (bodyOf Tryz.prog 28) 6 [.con (.pair (.int .i64) (.sl (.int .i64))) x0, .v (.int .i64 x1), .v (.int .i64 x5)] [] = laws_heldObjS.p6 (k + 1) x0 x1 x5 := by kernel_rfl
theorem laws_heldObjS.G6_0 {avs : List AV} {H : List HE} : laws_heldObjS.G6 0 avs H = none := by unfold laws_heldObjS.G6; split <;> rfl
theorem laws_heldObjS.G6_s (k : Nat) {avs : List AV} {H : List HE} {x : Int} (h : laws_heldObjS.G6 (k + 1) avs H = some x) : fromPt Tryz.prog laws_heldObjS.E k laws_heldObjS.a (laws_heldObjS.G k) 1000 (bodyOf Tryz.prog 28) 6 avs H = some x := by
  unfold laws_heldObjS.G6 at h
  split at h
  · rw [← h]; exact laws_heldObjS.eq6 _ _ _ _
  · cases h
theorem laws_heldObjS.E_ok : EnvOk Tryz.prog laws_heldObjS.E := ⟨⟨laws_heldInt64S.sound, callable_of (by kernel_rfl)⟩, trivial⟩
theorem laws_heldObjS.sound : Sound Tryz.prog 28 laws_heldObjS.s := by
  refine func_sound (f := laws_heldObjS.a) (G := laws_heldObjS.G) (fn := Tryz.f28) (body := bodyOf Tryz.prog 28) 1000 (by kernel_rfl) laws_heldObjS.E_ok Tryz.func28 (by kernel_rfl) (by kernel_rfl) (by kernel_rfl) (ptsOk_of (by kernel_rfl)) ?_ ?_ ?_ ?_
  · intro r H x h
    unfold laws_heldObjS.a at h
    simp only at h
    split at h
    · cases h; rfl
    · cases h
  · exact fun q avs H => pick1_none laws_heldObjS.G6_0 (rfl)
  · intro k q pt avs H x _ h
    rcases pick1_some h with ⟨rfl, h⟩ | h
    · exact laws_heldObjS.G6_s _ h
    cases h
  · intro k avs H o h
    try dsimp only at h
    split at h
    · cases h; exact laws_heldObjS.eq _ _ _
    · cases h

def laws_heldGraph.a : FnA (Int) := ⟨18, [.tmp 4], .val, [], [], fun x H => match x, H with
  | .v (.int .i64 r), [] => some r
  | _, _ => none⟩
def laws_heldGraph.s : Spec := mkS [.agg [.con (.int .i64), .con (.pair (.int .i64) (.sl (.int .i64)))], .val] (fun k avs H => match avs, H with
  | [.agg [.con (.int .i64) a0_0, .con (.pair (.int .i64) (.sl (.int .i64))) a0_1], .v (.int .i64 a1)], [] => some (laws_heldGraph.f k a0_0 a0_1 a1)
  | _, _ => none) (fun r => (.v (.int .i64 r), []))
def laws_heldGraph.E : Env := [((27, []), laws_heldInt64S.s), ((28, []), laws_heldObjS.s)]
def laws_heldGraph.G (k p : Nat) (avs : List AV) (H : List HE) : Option (Int) := none
set_option maxRecDepth 100000 in
theorem laws_heldGraph.eq (k : Nat) (a0_0 : List Int) (a0_1 : List (Int × List Int)) (a1 : Int) : fromTop Tryz.prog laws_heldGraph.E k laws_heldGraph.a (laws_heldGraph.G k) 1000 (bodyOf Tryz.prog 12) [.agg [.con (.int .i64) a0_0, .con (.pair (.int .i64) (.sl (.int .i64))) a0_1], .v (.int .i64 a1)] [] = laws_heldGraph.f k a0_0 a0_1 a1 := by kernel_rfl
theorem laws_heldGraph.E_ok : EnvOk Tryz.prog laws_heldGraph.E := ⟨⟨laws_heldInt64S.sound, callable_of (by kernel_rfl)⟩, ⟨laws_heldObjS.sound, callable_of (by kernel_rfl)⟩, trivial⟩
theorem laws_heldGraph.sound : Sound Tryz.prog 12 laws_heldGraph.s := by
  refine func_sound (f := laws_heldGraph.a) (G := laws_heldGraph.G) (fn := Tryz.f12) (body := bodyOf Tryz.prog 12) 1000 (by kernel_rfl) laws_heldGraph.E_ok Tryz.func12 (by kernel_rfl) (by kernel_rfl) (by kernel_rfl) (ptsOk_of (by kernel_rfl)) ?_ ?_ ?_ ?_
  · intro r H x h
    unfold laws_heldGraph.a at h
    simp only at h
    split at h
    · cases h; rfl
    · cases h
  · intro q avs H; rfl
  · intro k q pt avs H x _ h; cases h
  · intro k avs H o h
    try dsimp only at h
    split at h
    · cases h; exact laws_heldGraph.eq _ _ _ _
    · cases h

def laws_FnExactDurableOf.a : FnA (Bool) := ⟨104, [.tmp 4], .bool, [], [⟨31, [1, 2, 6, 7, 8, 9, 10, 47], [.val, .box [.val, .val, .val, .con .str], .box [.row 2 (.int .i64), .tre 0 46 2 (.pair (.int .i64) (.sl (.int .i64)))], .bool, .box [.val, .val, .val, .row 9 .str], .box [.row 2 (.int .i64), .tre 0 46 2 (.pair (.int .i64) (.sl (.int .i64)))], .bool, .bool], []⟩, ⟨51, [1, 2, 6, 7, 9, 68], [.val, .box [.val, .val, .val, .con .str], .box [.row 2 (.int .i64), .tre 0 46 2 (.pair (.int .i64) (.sl (.int .i64)))], .bool, .box [.row 2 (.int .i64), .tre 0 46 2 (.pair (.int .i64) (.sl (.int .i64)))], .bool], []⟩], fun x H => match x, H with
  | .bs false r, [] => some r
  | _, _ => none⟩
def laws_FnExactDurableOf.s : Spec := mkS [.agg [.val, .val, .val, .con .str], .val] (fun k avs H => match avs, H with
  | [.agg [.v (.int .i64 a0_0), .v (.int .i64 a0_1), .v (.int .i64 a0_2), .con .str a0_3], .v (.string a1)], [] => some (laws_FnExactDurableOf.f k a0_0 a0_1 a0_2 a0_3 a1)
  | _, _ => none) (fun r => (.bs false r, []))
def laws_FnExactDurableOf.E : Env := [((4, []), laws_szConfig.s), ((6, []), laws_toConfig.s), ((5, []), spec_DurableOf.s), ((7, []), impl_DurableOf.s), ((8, []), laws_eqGraph.s), ((11, []), laws_markGraph.s), ((12, []), laws_heldGraph.s), ((9, []), laws_eqConfig.s), ((10, []), laws_markConfig.s)]
def laws_FnExactDurableOf.G31 (k : Nat) (avs : List AV) (H : List HE) : Option (Bool) := match avs, H with
  | [.v (.string x1), .box 0 0, .box 1 0, .bs false x7, .box 4 0, .box 6 0, .bs false x10, .bs false x47], [.box [.v (.int .i64 x2_0), .v (.int .i64 x2_1), .v (.int .i64 x2_2), .con .str x2_3], .box [.own 2, .own 3], .row 2 (.int .i64) x6_0, .tre 0 none 46 2 (.pair (.int .i64) (.sl (.int .i64))) x6_1 none, .box [.v (.int .i64 x8_0), .v (.int .i64 x8_1), .v (.int .i64 x8_2), .own 5], .row 9 .str x8_3, .box [.own 7, .own 8], .row 2 (.int .i64) x9_0, .tre 0 none 46 2 (.pair (.int .i64) (.sl (.int .i64))) x9_1 none] => laws_FnExactDurableOf.p31 k x1 x2_0 x2_1 x2_2 x2_3 x6_0 x6_1 x7 x8_0 x8_1 x8_2 x8_3 x9_0 x9_1 x10 x47
  | _, _ => none
def laws_FnExactDurableOf.G51 (k : Nat) (avs : List AV) (H : List HE) : Option (Bool) := match avs, H with
  | [.v (.string x1), .box 0 0, .box 1 0, .bs false x7, .box 4 0, .bs false x68], [.box [.v (.int .i64 x2_0), .v (.int .i64 x2_1), .v (.int .i64 x2_2), .con .str x2_3], .box [.own 2, .own 3], .row 2 (.int .i64) x6_0, .tre 0 none 46 2 (.pair (.int .i64) (.sl (.int .i64))) x6_1 none, .box [.own 5, .own 6], .row 2 (.int .i64) x9_0, .tre 0 none 46 2 (.pair (.int .i64) (.sl (.int .i64))) x9_1 none] => laws_FnExactDurableOf.p51 k x1 x2_0 x2_1 x2_2 x2_3 x6_0 x6_1 x7 x9_0 x9_1 x68
  | _, _ => none
def laws_FnExactDurableOf.G (k p : Nat) (avs : List AV) (H : List HE) : Option (Bool) := (pick1 31 (laws_FnExactDurableOf.G31 k avs H) (pick1 51 (laws_FnExactDurableOf.G51 k avs H) none p) p)
set_option maxRecDepth 100000 in
theorem laws_FnExactDurableOf.eq (k : Nat) (a0_0 : Int) (a0_1 : Int) (a0_2 : Int) (a0_3 : List ByteArray) (a1 : ByteArray) : fromTop Tryz.prog laws_FnExactDurableOf.E k laws_FnExactDurableOf.a (laws_FnExactDurableOf.G k) 1000 (bodyOf Tryz.prog 3) [.agg [.v (.int .i64 a0_0), .v (.int .i64 a0_1), .v (.int .i64 a0_2), .con .str a0_3], .v (.string a1)] [] = laws_FnExactDurableOf.f k a0_0 a0_1 a0_2 a0_3 a1 := by kernel_rfl
set_option maxRecDepth 100000 in
theorem laws_FnExactDurableOf.eq31 (k : Nat) (x1 : ByteArray) (x2_0 : Int) (x2_1 : Int) (x2_2 : Int) (x2_3 : List ByteArray) (x6_0 : List Int) (x6_1 : List (Int × List Int)) (x7 : Bool) (x8_0 : Int) (x8_1 : Int) (x8_2 : Int) (x8_3 : List ByteArray) (x9_0 : List Int) (x9_1 : List (Int × List Int)) (x10 : Bool) (x47 : Bool) : fromPt Tryz.prog laws_FnExactDurableOf.E k laws_FnExactDurableOf.a (laws_FnExactDurableOf.G k) 1000 (bodyOf Tryz.prog 3) 31 [.v (.string x1), .box 0 0, .box 1 0, .bs false x7, .box 4 0, .box 6 0, .bs false x10, .bs false x47] [.box [.v (.int .i64 x2_0), .v (.int .i64 x2_1), .v (.int .i64 x2_2), .con .str x2_3], .box [.own 2, .own 3], .row 2 (.int .i64) x6_0, .tre 0 none 46 2 (.pair (.int .i64) (.sl (.int .i64))) x6_1 none, .box [.v (.int .i64 x8_0), .v (.int .i64 x8_1), .v (.int .i64 x8_2), .own 5], .row 9 .str x8_3, .box [.own 7, .own 8], .row 2 (.int .i64) x9_0, .tre 0 none 46 2 (.pair (.int .i64) (.sl (.int .i64))) x9_1 none] = laws_FnExactDurableOf.p31 (k + 1) x1 x2_0 x2_1 x2_2 x2_3 x6_0 x6_1 x7 x8_0 x8_1 x8_2 x8_3 x9_0 x9_1 x10 x47 := by kernel_rfl
theorem laws_FnExactDurableOf.G31_0 {avs : List AV} {H : List HE} : laws_FnExactDurableOf.G31 0 avs H = none := by unfold laws_FnExactDurableOf.G31; split <;> rfl
theorem laws_FnExactDurableOf.G31_s (k : Nat) {avs : List AV} {H : List HE} {x : Bool} (h : laws_FnExactDurableOf.G31 (k + 1) avs H = some x) : fromPt Tryz.prog laws_FnExactDurableOf.E k laws_FnExactDurableOf.a (laws_FnExactDurableOf.G k) 1000 (bodyOf Tryz.prog 3) 31 avs H = some x := by
  unfold laws_FnExactDurableOf.G31 at h
  split at h
  · rw [← h]; exact laws_FnExactDurableOf.eq31 _ _ _ _ _ _ _ _ _ _ _ _ _ _ _ _ _
  · cases h
set_option maxRecDepth 100000 in
theorem laws_FnExactDurableOf.eq51 (k : Nat) (x1 : ByteArray) (x2_0 : Int) (x2_1 : Int) (x2_2 : Int) (x2_3 : List ByteArray) (x6_0 : List Int) (x6_1 : List (Int × List Int)) (x7 : Bool) (x9_0 : List Int) (x9_1 : List (Int × List Int)) (x68 : Bool) : fromPt Tryz.prog laws_FnExactDurableOf.E k laws_FnExactDurableOf.a (laws_FnExactDurableOf.G k) 1000 (bodyOf Tryz.prog 3) 51 [.v (.string x1), .box 0 0, .box 1 0, .bs false x7, .box 4 0, .bs false x68] [.box [.v (.int .i64 x2_0), .v (.int .i64 x2_1), .v (.int .i64 x2_2), .con .str x2_3], .box [.own 2, .own 3], .row 2 (.int .i64) x6_0, .tre 0 none 46 2 (.pair (.int .i64) (.sl (.int .i64))) x6_1 none, .box [.own 5, .own 6], .row 2 (.int .i64) x9_0, .tre 0 none 46 2 (.pair (.int .i64) (.sl (.int .i64))) x9_1 none] = laws_FnExactDurableOf.p51 (k + 1) x1 x2_0 x2_1 x2_2 x2_3 x6_0 x6_1 x7 x9_0 x9_1 x68 := by kernel_rfl
theorem laws_FnExactDurableOf.G51_0 {avs : List AV} {H : List HE} : laws_FnExactDurableOf.G51 0 avs H = none := by unfold laws_FnExactDurableOf.G51; split <;> rfl
theorem laws_FnExactDurableOf.G51_s (k : Nat) {avs : List AV} {H : List HE} {x : Bool} (h : laws_FnExactDurableOf.G51 (k + 1) avs H = some x) : fromPt Tryz.prog laws_FnExactDurableOf.E k laws_FnExactDurableOf.a (laws_FnExactDurableOf.G k) 1000 (bodyOf Tryz.prog 3) 51 avs H = some x := by
  unfold laws_FnExactDurableOf.G51 at h
  split at h
  · rw [← h]; exact laws_FnExactDurableOf.eq51 _ _ _ _ _ _ _ _ _ _ _ _
  · cases h
theorem laws_FnExactDurableOf.E_ok : EnvOk Tryz.prog laws_FnExactDurableOf.E := ⟨⟨laws_szConfig.sound, callable_of (by kernel_rfl)⟩, ⟨laws_toConfig.sound, callable_of (by kernel_rfl)⟩, ⟨spec_DurableOf.sound, callable_of (by kernel_rfl)⟩, ⟨impl_DurableOf.sound, callable_of (by kernel_rfl)⟩, ⟨laws_eqGraph.sound, callable_of (by kernel_rfl)⟩, ⟨laws_markGraph.sound, callable_of (by kernel_rfl)⟩, ⟨laws_heldGraph.sound, callable_of (by kernel_rfl)⟩, ⟨laws_eqConfig.sound, callable_of (by kernel_rfl)⟩, ⟨laws_markConfig.sound, callable_of (by kernel_rfl)⟩, trivial⟩
theorem laws_FnExactDurableOf.sound : Sound Tryz.prog 3 laws_FnExactDurableOf.s := by
  refine func_sound (f := laws_FnExactDurableOf.a) (G := laws_FnExactDurableOf.G) (fn := Tryz.f3) (body := bodyOf Tryz.prog 3) 1000 (by kernel_rfl) laws_FnExactDurableOf.E_ok Tryz.func3 (by kernel_rfl) (by kernel_rfl) (by kernel_rfl) (ptsOk_of (by kernel_rfl)) ?_ ?_ ?_ ?_
  · intro r H x h
    unfold laws_FnExactDurableOf.a at h
    simp only at h
    split at h
    · cases h; rfl
    · cases h
  · exact fun q avs H => pick1_none laws_FnExactDurableOf.G31_0 (pick1_none laws_FnExactDurableOf.G51_0 (rfl))
  · intro k q pt avs H x _ h
    rcases pick1_some h with ⟨rfl, h⟩ | h
    · exact laws_FnExactDurableOf.G31_s _ h
    rcases pick1_some h with ⟨rfl, h⟩ | h
    · exact laws_FnExactDurableOf.G51_s _ h
    cases h
  · intro k avs H o h
    try dsimp only at h
    split at h
    · cases h; exact laws_FnExactDurableOf.eq _ _ _ _ _ _
    · cases h
end
end Go.Proofs.YtbpeiilildchlaaGreatDoor.Abs
namespace Go.Proofs.YtbpeiilildchlaaGreatDoor.fnExactDurableOf
open Go.ChangeShapes Go.WideShapes Go.ChangeAt Go.RowKit
open Go.ChangeMaps (open_string shut_string)
set_option linter.unusedVariables false
theorem own : ownKnob Tryz.prog.godebug = none := by kernel_rfl
theorem laidOut : laidOutB Tryz.prog = true := by kernel_rfl
set_option maxRecDepth 100000 in
theorem lifted (os : Os) (started : os.Started) (H : Type) (enc : TypeId × Value → H) :
    ReturnsInHanded {} Tryz.checked os 3 .any (fun w args => (Rows.fnExactDurableOfSpec.pre enc Tryz.prog Tryz.f3 Rows.fnExactDurableOfRow.domain false w args ∧ laidMetH Tryz.prog Rows.fnExactDurableOfRow.laid w) ∧ sizedMet enc Tryz.prog Tryz.f3 (OpenSpec.ofChange Rows.fnExactDurableOfSpec) false w args) (Rows.fnExactDurableOfSpec.post enc Tryz.prog Tryz.f3 false true false false) := by
  refine returnsInHanded_of_change_and (C := Tryz.checked) (X := fun w _ => laidMetH Tryz.prog Rows.fnExactDurableOfRow.laid w) (fun _ _ _ hh h => h.of_heap hh) own started (by kernel_rfl) Tryz.func3
    (ChangeSpec.witness_shaped (enc := enc) (C := Tryz.checked) (os := os) (X := fun w _ => laidMetH Tryz.prog Rows.fnExactDurableOfRow.laid w) false (World.laidAll Tryz.prog os Rows.fnExactDurableOfRow.laid) #[.agg #[.int .i64 0, .int .i64 0, .int .i64 0, .slice none 0 0], .string ByteArray.empty] 8 (World.laidAll_os _ _ _)
      (World.shaped_of_ZipB (by kernel_rfl) (by kernel_rfl)) (by kernel_rfl) (by kernel_rfl) (by kernel_rfl)
      (by rw [MakeChecks.laidMetH_plain _ _ _ (by kernel_rfl)]; exact laidMet_laidAll _ (by kernel_rfl) (by kernel_rfl))) ?_
  intro W base args ds gs before hval0 hW hcnd hsz0 _ _
  have hval : ∀ (j : Nat) t v, Tryz.f3.params[j]? = some t → args[j]? = some v → Value.okWide Tryz.prog W .any base t v := hval0
  have hW' := hW
  obtain ⟨p, q, hA0, hV, rfl, hfz, hnd⟩ := hW
  have hA : DataW.TrodAll enc Tryz.prog W 0 (fun _ => true) true Tryz.f3.params.toList args.toList ds p := hA0
  rw [Tryz.params3] at hA hval
  obtain ⟨v0, vs0, d0, ds0, p0, q0, hargs, rfl, rfl, h0, r0⟩ := trodAll_cons hA
  obtain ⟨v1, vs1, d1, ds1, p1, q1, rfl, rfl, rfl, h1, r1⟩ := trodAll_cons r0
  obtain ⟨rfl, rfl, rfl⟩ := trodAll_nil r1
  obtain rfl : args = #[v0, v1] := by cases args; simp_all
  obtain ⟨rfl, rfl⟩ := trodVars_none hV
  obtain ⟨cs0, rfl, _⟩ := okWide_struct Tryz.underlying24 (hval 0 24 v0 rfl rfl)
  have k0 := h0
  have lt0 : ∀ x ∈ p0, x.block < W.heap.size := by obtain ⟨m, hm⟩ := k0; exact DataW.trod_lt m _ _ _ hm
  obtain ⟨fuel0, hf0⟩ := h0
  obtain ⟨x0, kr0, ok0⟩ := Abs.opens (M := Abs.Mut (fun _ => False) (Abs.hpOf []) (fun _ => undef)) (Abs.not_mut _) 9 24 (.pair (.int .i64) (.pair (.int .i64) (.pair (.int .i64) (.sl .str)))) (by kernel_rfl) _ _ _ hf0
  have hc1 := Abs.okWide_cell (by kernel_rfl) (hval 1 9 v1 rfl rfl)
  have k1 := h1
  have lt1 : ∀ x ∈ p1, x.block < W.heap.size := by obtain ⟨m, hm⟩ := k1; exact DataW.trod_lt m _ _ _ hm
  obtain ⟨fuel1, hf1⟩ := h1
  obtain ⟨x1, kr1, ok1⟩ := Abs.opens (M := Abs.Mut (fun _ => False) (Abs.hpOf []) (fun _ => undef)) (Abs.not_mut _) 9 9 .str (by kernel_rfl) _ _ _ hf1
  clear hA0 hval0 hsz0
  obtain ⟨k, hP⟩ := Abs.Pu.FnExactDurableOf x0 x1 ok0 ok1
  refine (Abs.law_calls Abs.laws_FnExactDurableOf.sound (k := k) (htb := Abs.tb_of (fun p hp => by simp [Abs.tabs] at hp)) (avs := [Abs.argAV true (Abs.Ty.cells (.pair (.int .i64) (.pair (.int .i64) (.pair (.int .i64) (.sl .str)))) x0), Abs.argAV false (Abs.Ty.cells .str x1)]) (c := ⟨Bool, Abs.laws_FnExactDurableOf.f k x0.1 x0.2.1 x0.2.2.1 x0.2.2.2 x1, fun r => (.bs false r, [])⟩) (x := true) (Abs.mkS_pat rfl) hP rfl (w := W) (vals := [.agg cs0, v1]) ⟨_, _, rfl, Abs.arg_struct (t := (.pair (.int .i64) (.pair (.int .i64) (.pair (.int .i64) (.sl .str))))) kr0, ⟨_, _, rfl, Abs.arg_cell (t := .str) hc1 kr1 rfl, rfl⟩⟩).mono fun e W' ⟨he, bel⟩ => ?_
  subst he
  exact ⟨_, rfl, _, _, _, [], _, [], hW', trodAll_mk1 (shut_bool Tryz.underlying4 _), (trodAll_cons_mk (Below.trod laidOut (by kernel_rfl) (of_decide_eq_true (by kernel_rfl)) k0 bel lt0) (trodAll_cons_mk (Below.trod laidOut (by kernel_rfl) (of_decide_eq_true (by kernel_rfl)) k1 bel lt1) trodAll_mk0)), rfl, bel.frame _, fun h => by cases h⟩
theorem over : Rows.fnExactDurableOfRow.holds Tryz.pinned (OpenSpec.ofChange Rows.fnExactDurableOfSpec) :=
  OpenClaim.holds_of_wide 3 Tryz.f3 rfl rfl rfl rfl rfl rfl rfl ⟨rfl, rfl, rfl, rfl, rfl⟩ rfl rfl rfl rfl rfl (by kernel_rfl) Tryz.func3 (by kernel_rfl)
    (of_decide_eq_true (by kernel_rfl)) (by unfold Func.isWrapper; first | (rw [if_pos (by decide +kernel)]; kernel_rfl) | (rw [if_neg (by decide +kernel)]; exact ⟨rfl, rfl⟩))
    (fun os started H enc _ => lifted os started H enc)
theorem card : Rows.FnExactDurableOfCardSaid :=
  Claim7.holds_tied_plain_at .later [] [.data, .pinned] true (true, "161c761b4f697d7ace84288acd7bd5237c31fa073f56c5bcd22ce6be90d89d4b") false over (fun _ h => by cases h) (by kernel_rfl) (fun _ h => by cases h) fnExactDurableOf_row_tie rfl ⟨rfl, rfl⟩ (by kernel_rfl) rfl
    (fun f fn hf hfn => by
      obtain rfl : f = 3 := Option.some.inj ((show Tryz.prog.funcNamed "loop.example/g00648/laws.FnExactDurableOf" = some 3 by kernel_rfl).symm.trans hf) |>.symm
      obtain rfl : fn = Tryz.f3 := (Option.some.inj (Tryz.func3.symm.trans hfn)).symm
      exact ⟨by kernel_rfl, fun j t ht => by
        rw [Tryz.params3] at ht
        have hm : t ∈ [24, 9] := by
          have hm_ := Array.mem_of_getElem? ht
          simpa using hm_
        have hall : ([24, 9].all fun u => !Tryz.prog.wantsStandIn u) = true := by kernel_rfl
        exact (show Tryz.prog.wantsStandIn t = false by simpa using List.all_eq_true.1 hall t hm)⟩)
    (by kernel_rfl)
#print axioms card
end Go.Proofs.YtbpeiilildchlaaGreatDoor.fnExactDurableOf
namespace Go.Proofs.YtbpeiilildchlaaGreatDoor
/-- The row, under a short name, for the claim. -/
theorem fnExactDurableOf_holds : Rows.FnExactDurableOfCardSaid := fnExactDurableOf.card
end Go.Proofs.YtbpeiilildchlaaGreatDoor
