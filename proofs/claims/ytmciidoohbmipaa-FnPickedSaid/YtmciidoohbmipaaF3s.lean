/- They are sound. -/
import Derived.Test.YtmciidoohbmipaaAbsBld
import Derived.Test.YtmciidoohbmipaaShelfBu
import Derived.Laws.Externs
import Derived.Laws.IdiomCopy
import Derived.Shelf.RegionOpenPlain
import Derived.Test.YtmciidoohbmipaaF3
import Derived.Test.YtmciidoohbmipaaProg
namespace Go.Proofs.Ytmciidoohbmipaa.Abs
open Go Go.RowKit
set_option linter.unusedVariables false
set_option linter.unusedSectionVars false
set_option linter.unusedSimpArgs false
noncomputable section
def laws_big.a : FnA (Bool) := ⟨6, [.tmp 2], .bool, [], [], fun x H => match x, H with
  | .bs false r, [] => some r
  | _, _ => none⟩
def laws_big.s : Spec := mkS [.con (.int .u8)] (fun k avs H => match avs, H with
  | [.con (.int .u8) a0], [] => some (laws_big.f a0)
  | _, _ => none) (fun r => (.bs false r, []))
def laws_big.E : Env := []
def laws_big.G (k p : Nat) (avs : List AV) (H : List HE) : Option (Bool) := none
set_option maxRecDepth 100000 in
theorem laws_big.eq (k : Nat) (a0 : List Int) : fromTop Try.prog laws_big.E k laws_big.a (laws_big.G k) 1000 (bodyOf Try.prog 4) [.con (.int .u8) a0] [] = laws_big.f a0 := by kernel_rfl
theorem laws_big.E_ok : EnvOk Try.prog laws_big.E := trivial
theorem laws_big.sound : Sound Try.prog 4 laws_big.s := by
  refine func_sound (f := laws_big.a) (G := laws_big.G) (fn := Try.f4) (body := bodyOf Try.prog 4) 1000 (by kernel_rfl) laws_big.E_ok Try.func4 (by kernel_rfl) (by kernel_rfl) (by kernel_rfl) (ptsOk_of (by kernel_rfl)) ?_ ?_ ?_ ?_
  · intro r H x h
    unfold laws_big.a at h
    simp only at h
    split at h
    · cases h; rfl
    · cases h
  · intro q avs H; rfl
  · intro k q pt avs H x _ h; cases h
  · intro k avs H o h
    try dsimp only at h
    split at h
    · cases h; exact laws_big.eq _ _
    · cases h

def spec_l1Open.a : FnA (List Int × Int) := ⟨6, [.tmp 2], .box [.con (.int .u8), .val], [], [], fun x H => match x, H with
  | .box 0 0, [.box [.con (.int .u8) r_0, .v (.int .i64 r_1)]] => some (r_0, r_1)
  | _, _ => none⟩
def spec_l1Open.s : Spec := mkS [.con (.int .u8)] (fun k avs H => match avs, H with
  | [.con (.int .u8) a0], [] => some (spec_l1Open.f a0)
  | _, _ => none) (fun r => (.box 0 0, [.box [.con (.int .u8) r.1, .v (.int .i64 r.2)]]))
def spec_l1Open.E : Env := []
def spec_l1Open.G (k p : Nat) (avs : List AV) (H : List HE) : Option (List Int × Int) := none
set_option maxRecDepth 100000 in
theorem spec_l1Open.eq (k : Nat) (a0 : List Int) : fromTop Try.prog spec_l1Open.E k spec_l1Open.a (spec_l1Open.G k) 1000 (bodyOf Try.prog 11) [.con (.int .u8) a0] [] = spec_l1Open.f a0 := by kernel_rfl
theorem spec_l1Open.E_ok : EnvOk Try.prog spec_l1Open.E := trivial
theorem spec_l1Open.sound : Sound Try.prog 11 spec_l1Open.s := by
  refine func_sound (f := spec_l1Open.a) (G := spec_l1Open.G) (fn := Try.f11) (body := bodyOf Try.prog 11) 1000 (by kernel_rfl) spec_l1Open.E_ok Try.func11 (by kernel_rfl) (by kernel_rfl) (by kernel_rfl) (ptsOk_of (by kernel_rfl)) ?_ ?_ ?_ ?_
  · intro r H x h
    unfold spec_l1Open.a at h
    simp only at h
    split at h
    · cases h; rfl
    · cases h
  · intro q avs H; rfl
  · intro k q pt avs H x _ h; cases h
  · intro k avs H o h
    try dsimp only at h
    split at h
    · cases h; exact spec_l1Open.eq _ _
    · cases h

def spec_l1Rd_next.a : FnA (List Int × Int × Int) := ⟨32, [.tmp 2], .val, [.box [.con (.int .u8), .val]], [], fun x H => match x, H with
  | .v (.int .i64 r), [.box [.con (.int .u8) h0_0, .v (.int .i64 h0_1)]] => some (h0_0, h0_1, r)
  | _, _ => none⟩
def spec_l1Rd_next.s : Spec := mkS [.box [.con (.int .u8), .val]] (fun k avs H => match avs, H with
  | [.box 0 0], [.box [.con (.int .u8) a0_0, .v (.int .i64 a0_1)]] => some (spec_l1Rd_next.f a0_0 a0_1)
  | _, _ => none) (fun r => (.v (.int .i64 r.2.2), [.box [.con (.int .u8) r.1, .v (.int .i64 r.2.1)]]))
def spec_l1Rd_next.E : Env := []
def spec_l1Rd_next.G (k p : Nat) (avs : List AV) (H : List HE) : Option (List Int × Int × Int) := none
set_option maxRecDepth 100000 in
theorem spec_l1Rd_next.eq (k : Nat) (a0_0 : List Int) (a0_1 : Int) : fromTop Try.prog spec_l1Rd_next.E k spec_l1Rd_next.a (spec_l1Rd_next.G k) 1000 (bodyOf Try.prog 36) [.box 0 0] [.box [.con (.int .u8) a0_0, .v (.int .i64 a0_1)]] = spec_l1Rd_next.f a0_0 a0_1 := by kernel_rfl
theorem spec_l1Rd_next.E_ok : EnvOk Try.prog spec_l1Rd_next.E := trivial
theorem spec_l1Rd_next.sound : Sound Try.prog 36 spec_l1Rd_next.s := by
  refine func_sound (f := spec_l1Rd_next.a) (G := spec_l1Rd_next.G) (fn := Try.f36) (body := bodyOf Try.prog 36) 1000 (by kernel_rfl) spec_l1Rd_next.E_ok Try.func36 (by kernel_rfl) (by kernel_rfl) (by kernel_rfl) (ptsOk_of (by kernel_rfl)) ?_ ?_ ?_ ?_
  · intro r H x h
    unfold spec_l1Rd_next.a at h
    simp only at h
    split at h
    · cases h; rfl
    · cases h
  · intro q avs H; rfl
  · intro k q pt avs H x _ h; cases h
  · intro k avs H o h
    try dsimp only at h
    split at h
    · cases h; exact spec_l1Rd_next.eq _ _ _
    · cases h

def spec_l1Rd_below.a : FnA (List Int × Int × Int) := ⟨24, [.tmp 4], .val, [.box [.con (.int .u8), .val]], [], fun x H => match x, H with
  | .v (.int .i64 r), [.box [.con (.int .u8) h0_0, .v (.int .i64 h0_1)]] => some (h0_0, h0_1, r)
  | _, _ => none⟩
def spec_l1Rd_below.s : Spec := mkS [.box [.con (.int .u8), .val], .val] (fun k avs H => match avs, H with
  | [.box 0 0, .v (.int .i64 a1)], [.box [.con (.int .u8) a0_0, .v (.int .i64 a0_1)]] => some (spec_l1Rd_below.f a0_0 a0_1 a1)
  | _, _ => none) (fun r => (.v (.int .i64 r.2.2), [.box [.con (.int .u8) r.1, .v (.int .i64 r.2.1)]]))
def spec_l1Rd_below.E : Env := [((36, []), spec_l1Rd_next.s)]
def spec_l1Rd_below.G (k p : Nat) (avs : List AV) (H : List HE) : Option (List Int × Int × Int) := none
set_option maxRecDepth 100000 in
theorem spec_l1Rd_below.eq (k : Nat) (a0_0 : List Int) (a0_1 : Int) (a1 : Int) : fromTop Try.prog spec_l1Rd_below.E k spec_l1Rd_below.a (spec_l1Rd_below.G k) 1000 (bodyOf Try.prog 20) [.box 0 0, .v (.int .i64 a1)] [.box [.con (.int .u8) a0_0, .v (.int .i64 a0_1)]] = spec_l1Rd_below.f a0_0 a0_1 a1 := by kernel_rfl
theorem spec_l1Rd_below.E_ok : EnvOk Try.prog spec_l1Rd_below.E := ⟨⟨spec_l1Rd_next.sound, callable_of (by kernel_rfl)⟩, trivial⟩
theorem spec_l1Rd_below.sound : Sound Try.prog 20 spec_l1Rd_below.s := by
  refine func_sound (f := spec_l1Rd_below.a) (G := spec_l1Rd_below.G) (fn := Try.f20) (body := bodyOf Try.prog 20) 1000 (by kernel_rfl) spec_l1Rd_below.E_ok Try.func20 (by kernel_rfl) (by kernel_rfl) (by kernel_rfl) (ptsOk_of (by kernel_rfl)) ?_ ?_ ?_ ?_
  · intro r H x h
    unfold spec_l1Rd_below.a at h
    simp only at h
    split at h
    · cases h; rfl
    · cases h
  · intro q avs H; rfl
  · intro k q pt avs H x _ h; cases h
  · intro k avs H o h
    try dsimp only at h
    split at h
    · cases h; exact spec_l1Rd_below.eq _ _ _ _
    · cases h

def spec_l1Zeros.a : FnA (ByteArray) := ⟨6, [.tmp 2], .val, [], [], fun x H => match x, H with
  | .v (.string r), [] => some r
  | _, _ => none⟩
def spec_l1Zeros.s : Spec := mkS [.val] (fun k avs H => match avs, H with
  | [.v (.int .i64 a0)], [] => some (spec_l1Zeros.f a0)
  | _, _ => none) (fun r => (.v (.string r), []))
def spec_l1Zeros.E : Env := []
def spec_l1Zeros.G (k p : Nat) (avs : List AV) (H : List HE) : Option (ByteArray) := none
set_option maxRecDepth 100000 in
theorem spec_l1Zeros.eq (k : Nat) (a0 : Int) : fromTop Try.prog spec_l1Zeros.E k spec_l1Zeros.a (spec_l1Zeros.G k) 1000 (bodyOf Try.prog 22) [.v (.int .i64 a0)] [] = spec_l1Zeros.f a0 := by kernel_rfl
theorem spec_l1Zeros.E_ok : EnvOk Try.prog spec_l1Zeros.E := trivial
theorem spec_l1Zeros.sound : Sound Try.prog 22 spec_l1Zeros.s := by
  refine func_sound (f := spec_l1Zeros.a) (G := spec_l1Zeros.G) (fn := Try.f22) (body := bodyOf Try.prog 22) 1000 (by kernel_rfl) spec_l1Zeros.E_ok Try.func22 (by kernel_rfl) (by kernel_rfl) (by kernel_rfl) (ptsOk_of (by kernel_rfl)) ?_ ?_ ?_ ?_
  · intro r H x h
    unfold spec_l1Zeros.a at h
    simp only at h
    split at h
    · cases h; rfl
    · cases h
  · intro q avs H; rfl
  · intro k q pt avs H x _ h; cases h
  · intro k avs H o h
    try dsimp only at h
    split at h
    · cases h; exact spec_l1Zeros.eq _ _
    · cases h

def spec_l1Rd_bytes.a : FnA (List Int × Int × ByteArray) := ⟨24, [.tmp 4], .val, [.box [.con (.int .u8), .val]], [⟨8, [0, 5, 6], [.box [], .row 5 (.int .u8), .val], [.box [.con (.int .u8), .val]]⟩], fun x H => match x, H with
  | .v (.string r), [.box [.con (.int .u8) h0_0, .v (.int .i64 h0_1)]] => some (h0_0, h0_1, r)
  | _, _ => none⟩
def spec_l1Rd_bytes.s : Spec := mkS [.box [.con (.int .u8), .val], .val] (fun k avs H => match avs, H with
  | [.box 0 0, .v (.int .i64 a1)], [.box [.con (.int .u8) a0_0, .v (.int .i64 a0_1)]] => some (spec_l1Rd_bytes.f k a0_0 a0_1 a1)
  | _, _ => none) (fun r => (.v (.string r.2.2), [.box [.con (.int .u8) r.1, .v (.int .i64 r.2.1)]]))
def spec_l1Rd_bytes.E : Env := [((20, []), spec_l1Rd_below.s)]
def spec_l1Rd_bytes.G8 (k : Nat) (avs : List AV) (H : List HE) : Option (List Int × Int × ByteArray) := match avs, H with
  | [.box 0 0, .own 1, .v (.int .i64 x6)], [.box [.con (.int .u8) h0_0, .v (.int .i64 h0_1)], .row 5 (.int .u8) x5] => spec_l1Rd_bytes.p8 k h0_0 h0_1 x5 x6
  | _, _ => none
def spec_l1Rd_bytes.G (k p : Nat) (avs : List AV) (H : List HE) : Option (List Int × Int × ByteArray) := (pick1 8 (spec_l1Rd_bytes.G8 k avs H) none p)
set_option maxRecDepth 100000 in
theorem spec_l1Rd_bytes.eq (k : Nat) (a0_0 : List Int) (a0_1 : Int) (a1 : Int) : fromTop Try.prog spec_l1Rd_bytes.E k spec_l1Rd_bytes.a (spec_l1Rd_bytes.G k) 1000 (bodyOf Try.prog 23) [.box 0 0, .v (.int .i64 a1)] [.box [.con (.int .u8) a0_0, .v (.int .i64 a0_1)]] = spec_l1Rd_bytes.f k a0_0 a0_1 a1 := by kernel_rfl
set_option maxRecDepth 100000 in
theorem spec_l1Rd_bytes.eq8 (k : Nat) (h0_0 : List Int) (h0_1 : Int) (x5 : List Int) (x6 : Int) : fromPt Try.prog spec_l1Rd_bytes.E k spec_l1Rd_bytes.a (spec_l1Rd_bytes.G k) 1000 (bodyOf Try.prog 23) 8 [.box 0 0, .own 1, .v (.int .i64 x6)] [.box [.con (.int .u8) h0_0, .v (.int .i64 h0_1)], .row 5 (.int .u8) x5] = spec_l1Rd_bytes.p8 (k + 1) h0_0 h0_1 x5 x6 := by kernel_rfl
theorem spec_l1Rd_bytes.G8_0 {avs : List AV} {H : List HE} : spec_l1Rd_bytes.G8 0 avs H = none := by unfold spec_l1Rd_bytes.G8; split <;> rfl
theorem spec_l1Rd_bytes.G8_s (k : Nat) {avs : List AV} {H : List HE} {x : List Int × Int × ByteArray} (h : spec_l1Rd_bytes.G8 (k + 1) avs H = some x) : fromPt Try.prog spec_l1Rd_bytes.E k spec_l1Rd_bytes.a (spec_l1Rd_bytes.G k) 1000 (bodyOf Try.prog 23) 8 avs H = some x := by
  unfold spec_l1Rd_bytes.G8 at h
  split at h
  · rw [← h]; exact spec_l1Rd_bytes.eq8 _ _ _ _ _
  · cases h
theorem spec_l1Rd_bytes.E_ok : EnvOk Try.prog spec_l1Rd_bytes.E := ⟨⟨spec_l1Rd_below.sound, callable_of (by kernel_rfl)⟩, trivial⟩
theorem spec_l1Rd_bytes.sound : Sound Try.prog 23 spec_l1Rd_bytes.s := by
  refine func_sound (f := spec_l1Rd_bytes.a) (G := spec_l1Rd_bytes.G) (fn := Try.f23) (body := bodyOf Try.prog 23) 1000 (by kernel_rfl) spec_l1Rd_bytes.E_ok Try.func23 (by kernel_rfl) (by kernel_rfl) (by kernel_rfl) (ptsOk_of (by kernel_rfl)) ?_ ?_ ?_ ?_
  · intro r H x h
    unfold spec_l1Rd_bytes.a at h
    simp only at h
    split at h
    · cases h; rfl
    · cases h
  · exact fun q avs H => pick1_none spec_l1Rd_bytes.G8_0 (rfl)
  · intro k q pt avs H x _ h
    rcases pick1_some h with ⟨rfl, h⟩ | h
    · exact spec_l1Rd_bytes.G8_s _ h
    cases h
  · intro k avs H o h
    try dsimp only at h
    split at h
    · cases h; exact spec_l1Rd_bytes.eq _ _ _ _
    · cases h

def spec_l2With.a : FnA (ByteArray) := ⟨19, [.tmp 6], .val, [], [], fun x H => match x, H with
  | .v (.string r), [] => some r
  | _, _ => none⟩
def spec_l2With.s : Spec := mkS [.val, .val, .val] (fun k avs H => match avs, H with
  | [.v (.string a0), .v (.int .i64 a1), .v (.string a2)], [] => some (spec_l2With.f a0 a1 a2)
  | _, _ => none) (fun r => (.v (.string r), []))
def spec_l2With.E : Env := []
def spec_l2With.G (k p : Nat) (avs : List AV) (H : List HE) : Option (ByteArray) := none
set_option maxRecDepth 100000 in
theorem spec_l2With.eq (k : Nat) (a0 : ByteArray) (a1 : Int) (a2 : ByteArray) : fromTop Try.prog spec_l2With.E k spec_l2With.a (spec_l2With.G k) 1000 (bodyOf Try.prog 21) [.v (.string a0), .v (.int .i64 a1), .v (.string a2)] [] = spec_l2With.f a0 a1 a2 := by kernel_rfl
theorem spec_l2With.E_ok : EnvOk Try.prog spec_l2With.E := trivial
theorem spec_l2With.sound : Sound Try.prog 21 spec_l2With.s := by
  refine func_sound (f := spec_l2With.a) (G := spec_l2With.G) (fn := Try.f21) (body := bodyOf Try.prog 21) 1000 (by kernel_rfl) spec_l2With.E_ok Try.func21 (by kernel_rfl) (by kernel_rfl) (by kernel_rfl) (ptsOk_of (by kernel_rfl)) ?_ ?_ ?_ ?_
  · intro r H x h
    unfold spec_l2With.a at h
    simp only at h
    split at h
    · cases h; rfl
    · cases h
  · intro q avs H; rfl
  · intro k q pt avs H x _ h; cases h
  · intro k avs H o h
    try dsimp only at h
    split at h
    · cases h; exact spec_l2With.eq _ _ _ _
    · cases h

def spec_l1Rd_size.a : FnA (List Int × Int × Int) := ⟨24, [.tmp 6], .val, [.box [.con (.int .u8), .val]], [], fun x H => match x, H with
  | .v (.int .i64 r), [.box [.con (.int .u8) h0_0, .v (.int .i64 h0_1)]] => some (h0_0, h0_1, r)
  | _, _ => none⟩
def spec_l1Rd_size.s : Spec := mkS [.box [.con (.int .u8), .val], .val, .val] (fun k avs H => match avs, H with
  | [.box 0 0, .v (.int .i64 a1), .v (.int .i64 a2)], [.box [.con (.int .u8) a0_0, .v (.int .i64 a0_1)]] => some (spec_l1Rd_size.f a0_0 a0_1 a1 a2)
  | _, _ => none) (fun r => (.v (.int .i64 r.2.2), [.box [.con (.int .u8) r.1, .v (.int .i64 r.2.1)]]))
def spec_l1Rd_size.E : Env := [((20, []), spec_l1Rd_below.s)]
def spec_l1Rd_size.G (k p : Nat) (avs : List AV) (H : List HE) : Option (List Int × Int × Int) := none
set_option maxRecDepth 100000 in
theorem spec_l1Rd_size.eq (k : Nat) (a0_0 : List Int) (a0_1 : Int) (a1 : Int) (a2 : Int) : fromTop Try.prog spec_l1Rd_size.E k spec_l1Rd_size.a (spec_l1Rd_size.G k) 1000 (bodyOf Try.prog 24) [.box 0 0, .v (.int .i64 a1), .v (.int .i64 a2)] [.box [.con (.int .u8) a0_0, .v (.int .i64 a0_1)]] = spec_l1Rd_size.f a0_0 a0_1 a1 a2 := by kernel_rfl
theorem spec_l1Rd_size.E_ok : EnvOk Try.prog spec_l1Rd_size.E := ⟨⟨spec_l1Rd_below.sound, callable_of (by kernel_rfl)⟩, trivial⟩
theorem spec_l1Rd_size.sound : Sound Try.prog 24 spec_l1Rd_size.s := by
  refine func_sound (f := spec_l1Rd_size.a) (G := spec_l1Rd_size.G) (fn := Try.f24) (body := bodyOf Try.prog 24) 1000 (by kernel_rfl) spec_l1Rd_size.E_ok Try.func24 (by kernel_rfl) (by kernel_rfl) (by kernel_rfl) (ptsOk_of (by kernel_rfl)) ?_ ?_ ?_ ?_
  · intro r H x h
    unfold spec_l1Rd_size.a at h
    simp only at h
    split at h
    · cases h; rfl
    · cases h
  · intro q avs H; rfl
  · intro k q pt avs H x _ h; cases h
  · intro k avs H o h
    try dsimp only at h
    split at h
    · cases h; exact spec_l1Rd_size.eq _ _ _ _ _
    · cases h

def spec_l2Fence.a : FnA (ByteArray × List (Int × ByteArray × ByteArray)) := ⟨47, [.cell 2 26], .agg [.val, .row 34 (.pair (.int .i64) (.pair .str .str))], [], [⟨10, [1, 2, 3, 4, 5], [.box [.val, .con (.pair (.int .i64) (.pair .str .str))], .box [.val, .val], .row 0 .bool, .box [.val, .row 34 (.pair (.int .i64) (.pair .str .str))], .val], []⟩], fun x H => match x, H with
  | .agg [.v (.string r_0), .own 0], [.row 34 (.pair (.int .i64) (.pair .str .str)) r_1] => some (r_0, r_1)
  | _, _ => none⟩
def spec_l2Fence.s : Spec := mkS [.agg [.val, .con (.pair (.int .i64) (.pair .str .str))]] (fun k avs H => match avs, H with
  | [.agg [.v (.string a0_0), .con (.pair (.int .i64) (.pair .str .str)) a0_1]], [] => some (spec_l2Fence.f k a0_0 a0_1)
  | _, _ => none) (fun r => (.agg [.v (.string r.1), .own 0], [.row 34 (.pair (.int .i64) (.pair .str .str)) r.2]))
def spec_l2Fence.E : Env := []
def spec_l2Fence.G10 (k : Nat) (avs : List AV) (H : List HE) : Option (ByteArray × List (Int × ByteArray × ByteArray)) := match avs, H with
  | [.box 0 0, .box 1 0, .own 2, .box 3 0, .v (.int .i64 x5)], [.box [.v (.string x1_0), .con (.pair (.int .i64) (.pair .str .str)) x1_1], .box [.v (.string x2_0), .v (.slice none 0 0)], .bts x3, .box [.v (.string x4_0), .own 4], .row 34 (.pair (.int .i64) (.pair .str .str)) x4_1] => spec_l2Fence.p10 k x1_0 x1_1 x2_0 x3 x4_0 x4_1 x5
  | _, _ => none
def spec_l2Fence.G (k p : Nat) (avs : List AV) (H : List HE) : Option (ByteArray × List (Int × ByteArray × ByteArray)) := (pick1 10 (spec_l2Fence.G10 k avs H) none p)
set_option maxRecDepth 100000 in
theorem spec_l2Fence.eq (k : Nat) (a0_0 : ByteArray) (a0_1 : List (Int × ByteArray × ByteArray)) : fromTop Try.prog spec_l2Fence.E k spec_l2Fence.a (spec_l2Fence.G k) 1000 (bodyOf Try.prog 25) [.agg [.v (.string a0_0), .con (.pair (.int .i64) (.pair .str .str)) a0_1]] [] = spec_l2Fence.f k a0_0 a0_1 := by kernel_rfl
set_option maxRecDepth 100000 in
theorem spec_l2Fence.eq10 (k : Nat) (x1_0 : ByteArray) (x1_1 : List (Int × ByteArray × ByteArray)) (x2_0 : ByteArray) (x3 : List Int) (x4_0 : ByteArray) (x4_1 : List (Int × ByteArray × ByteArray)) (x5 : Int) : fromPt Try.prog spec_l2Fence.E k spec_l2Fence.a (spec_l2Fence.G k) 1000 (bodyOf Try.prog 25) 10 [.box 0 0, .box 1 0, .own 2, .box 3 0, .v (.int .i64 x5)] [.box [.v (.string x1_0), .con (.pair (.int .i64) (.pair .str .str)) x1_1], .box [.v (.string x2_0), .v (.slice none 0 0)], .bts x3, .box [.v (.string x4_0), .own 4], .row 34 (.pair (.int .i64) (.pair .str .str)) x4_1] = spec_l2Fence.p10 (k + 1) x1_0 x1_1 x2_0 x3 x4_0 x4_1 x5 := by kernel_rfl
theorem spec_l2Fence.G10_0 {avs : List AV} {H : List HE} : spec_l2Fence.G10 0 avs H = none := by unfold spec_l2Fence.G10; split <;> rfl
theorem spec_l2Fence.G10_s (k : Nat) {avs : List AV} {H : List HE} {x : ByteArray × List (Int × ByteArray × ByteArray)} (h : spec_l2Fence.G10 (k + 1) avs H = some x) : fromPt Try.prog spec_l2Fence.E k spec_l2Fence.a (spec_l2Fence.G k) 1000 (bodyOf Try.prog 25) 10 avs H = some x := by
  unfold spec_l2Fence.G10 at h
  split at h
  · rw [← h]; exact spec_l2Fence.eq10 _ _ _ _ _ _ _ _
  · cases h
theorem spec_l2Fence.E_ok : EnvOk Try.prog spec_l2Fence.E := trivial
theorem spec_l2Fence.sound : Sound Try.prog 25 spec_l2Fence.s := by
  refine func_sound (f := spec_l2Fence.a) (G := spec_l2Fence.G) (fn := Try.f25) (body := bodyOf Try.prog 25) 1000 (by kernel_rfl) spec_l2Fence.E_ok Try.func25 (by kernel_rfl) (by kernel_rfl) (by kernel_rfl) (ptsOk_of (by kernel_rfl)) ?_ ?_ ?_ ?_
  · intro r H x h
    unfold spec_l2Fence.a at h
    simp only at h
    split at h
    · cases h; rfl
    · cases h
  · exact fun q avs H => pick1_none spec_l2Fence.G10_0 (rfl)
  · intro k q pt avs H x _ h
    rcases pick1_some h with ⟨rfl, h⟩ | h
    · exact spec_l2Fence.G10_s _ h
    cases h
  · intro k avs H o h
    try dsimp only at h
    split at h
    · cases h; exact spec_l2Fence.eq _ _ _
    · cases h

def spec_l2Evict.a : FnA (ByteArray × List (Int × ByteArray × ByteArray)) := ⟨42, [.cell 4 26], .agg [.val, .row 34 (.pair (.int .i64) (.pair .str .str))], [], [⟨8, [1, 2, 4, 5, 6], [.val, .box [.val, .con (.pair (.int .i64) (.pair .str .str))], .box [.val, .val], .box [.val, .row 34 (.pair (.int .i64) (.pair .str .str))], .val], []⟩], fun x H => match x, H with
  | .agg [.v (.string r_0), .own 0], [.row 34 (.pair (.int .i64) (.pair .str .str)) r_1] => some (r_0, r_1)
  | _, _ => none⟩
def spec_l2Evict.s : Spec := mkS [.agg [.val, .con (.pair (.int .i64) (.pair .str .str))], .val] (fun k avs H => match avs, H with
  | [.agg [.v (.string a0_0), .con (.pair (.int .i64) (.pair .str .str)) a0_1], .v (.int .i64 a1)], [] => some (spec_l2Evict.f k a0_0 a0_1 a1)
  | _, _ => none) (fun r => (.agg [.v (.string r.1), .own 0], [.row 34 (.pair (.int .i64) (.pair .str .str)) r.2]))
def spec_l2Evict.E : Env := [((21, []), spec_l2With.s)]
def spec_l2Evict.G8 (k : Nat) (avs : List AV) (H : List HE) : Option (ByteArray × List (Int × ByteArray × ByteArray)) := match avs, H with
  | [.v (.int .i64 x1), .box 0 0, .box 1 0, .box 2 0, .v (.int .i64 x6)], [.box [.v (.string x2_0), .con (.pair (.int .i64) (.pair .str .str)) x2_1], .box [.v (.string x4_0), .v (.slice none 0 0)], .box [.v (.string x5_0), .own 3], .row 34 (.pair (.int .i64) (.pair .str .str)) x5_1] => spec_l2Evict.p8 k x1 x2_0 x2_1 x4_0 x5_0 x5_1 x6
  | _, _ => none
def spec_l2Evict.G (k p : Nat) (avs : List AV) (H : List HE) : Option (ByteArray × List (Int × ByteArray × ByteArray)) := (pick1 8 (spec_l2Evict.G8 k avs H) none p)
set_option maxRecDepth 100000 in
theorem spec_l2Evict.eq (k : Nat) (a0_0 : ByteArray) (a0_1 : List (Int × ByteArray × ByteArray)) (a1 : Int) : fromTop Try.prog spec_l2Evict.E k spec_l2Evict.a (spec_l2Evict.G k) 1000 (bodyOf Try.prog 26) [.agg [.v (.string a0_0), .con (.pair (.int .i64) (.pair .str .str)) a0_1], .v (.int .i64 a1)] [] = spec_l2Evict.f k a0_0 a0_1 a1 := by kernel_rfl
set_option maxRecDepth 100000 in
theorem spec_l2Evict.eq8 (k : Nat) (x1 : Int) (x2_0 : ByteArray) (x2_1 : List (Int × ByteArray × ByteArray)) (x4_0 : ByteArray) (x5_0 : ByteArray) (x5_1 : List (Int × ByteArray × ByteArray)) (x6 : Int) : fromPt Try.prog spec_l2Evict.E k spec_l2Evict.a (spec_l2Evict.G k) 1000 (bodyOf Try.prog 26) 8 [.v (.int .i64 x1), .box 0 0, .box 1 0, .box 2 0, .v (.int .i64 x6)] [.box [.v (.string x2_0), .con (.pair (.int .i64) (.pair .str .str)) x2_1], .box [.v (.string x4_0), .v (.slice none 0 0)], .box [.v (.string x5_0), .own 3], .row 34 (.pair (.int .i64) (.pair .str .str)) x5_1] = spec_l2Evict.p8 (k + 1) x1 x2_0 x2_1 x4_0 x5_0 x5_1 x6 := by kernel_rfl
theorem spec_l2Evict.G8_0 {avs : List AV} {H : List HE} : spec_l2Evict.G8 0 avs H = none := by unfold spec_l2Evict.G8; split <;> rfl
theorem spec_l2Evict.G8_s (k : Nat) {avs : List AV} {H : List HE} {x : ByteArray × List (Int × ByteArray × ByteArray)} (h : spec_l2Evict.G8 (k + 1) avs H = some x) : fromPt Try.prog spec_l2Evict.E k spec_l2Evict.a (spec_l2Evict.G k) 1000 (bodyOf Try.prog 26) 8 avs H = some x := by
  unfold spec_l2Evict.G8 at h
  split at h
  · rw [← h]; exact spec_l2Evict.eq8 _ _ _ _ _ _ _ _
  · cases h
theorem spec_l2Evict.E_ok : EnvOk Try.prog spec_l2Evict.E := ⟨⟨spec_l2With.sound, callable_of (by kernel_rfl)⟩, trivial⟩
theorem spec_l2Evict.sound : Sound Try.prog 26 spec_l2Evict.s := by
  refine func_sound (f := spec_l2Evict.a) (G := spec_l2Evict.G) (fn := Try.f26) (body := bodyOf Try.prog 26) 1000 (by kernel_rfl) spec_l2Evict.E_ok Try.func26 (by kernel_rfl) (by kernel_rfl) (by kernel_rfl) (ptsOk_of (by kernel_rfl)) ?_ ?_ ?_ ?_
  · intro r H x h
    unfold spec_l2Evict.a at h
    simp only at h
    split at h
    · cases h; rfl
    · cases h
  · exact fun q avs H => pick1_none spec_l2Evict.G8_0 (rfl)
  · intro k q pt avs H x _ h
    rcases pick1_some h with ⟨rfl, h⟩ | h
    · exact spec_l2Evict.G8_s _ h
    cases h
  · intro k avs H o h
    try dsimp only at h
    split at h
    · cases h; exact spec_l2Evict.eq _ _ _ _
    · cases h

def spec_l2Copy.a : FnA (ByteArray × List (Int × ByteArray × ByteArray)) := ⟨10, [.cell 2 26], .agg [.val, .row 34 (.pair (.int .i64) (.pair .str .str))], [], [], fun x H => match x, H with
  | .agg [.v (.string r_0), .own 0], [.row 34 (.pair (.int .i64) (.pair .str .str)) r_1] => some (r_0, r_1)
  | _, _ => none⟩
def spec_l2Copy.s : Spec := mkS [.agg [.val, .con (.pair (.int .i64) (.pair .str .str))]] (fun k avs H => match avs, H with
  | [.agg [.v (.string a0_0), .con (.pair (.int .i64) (.pair .str .str)) a0_1]], [] => some (spec_l2Copy.f a0_0 a0_1)
  | _, _ => none) (fun r => (.agg [.v (.string r.1), .own 0], [.row 34 (.pair (.int .i64) (.pair .str .str)) r.2]))
def spec_l2Copy.E : Env := []
def spec_l2Copy.G (k p : Nat) (avs : List AV) (H : List HE) : Option (ByteArray × List (Int × ByteArray × ByteArray)) := none
set_option maxRecDepth 100000 in
theorem spec_l2Copy.eq (k : Nat) (a0_0 : ByteArray) (a0_1 : List (Int × ByteArray × ByteArray)) : fromTop Try.prog spec_l2Copy.E k spec_l2Copy.a (spec_l2Copy.G k) 1000 (bodyOf Try.prog 37) [.agg [.v (.string a0_0), .con (.pair (.int .i64) (.pair .str .str)) a0_1]] [] = spec_l2Copy.f a0_0 a0_1 := by kernel_rfl
theorem spec_l2Copy.E_ok : EnvOk Try.prog spec_l2Copy.E := trivial
theorem spec_l2Copy.sound : Sound Try.prog 37 spec_l2Copy.s := by
  refine func_sound (f := spec_l2Copy.a) (G := spec_l2Copy.G) (fn := Try.f37) (body := bodyOf Try.prog 37) 1000 (by kernel_rfl) spec_l2Copy.E_ok Try.func37 (by kernel_rfl) (by kernel_rfl) (by kernel_rfl) (ptsOk_of (by kernel_rfl)) ?_ ?_ ?_ ?_
  · intro r H x h
    unfold spec_l2Copy.a at h
    simp only at h
    split at h
    · cases h; rfl
    · cases h
  · intro q avs H; rfl
  · intro k q pt avs H x _ h; cases h
  · intro k avs H o h
    try dsimp only at h
    split at h
    · cases h; exact spec_l2Copy.eq _ _ _
    · cases h

def spec_l2Flush.a : FnA (ByteArray × List (Int × ByteArray × ByteArray)) := ⟨36, [.cell 4 26], .agg [.val, .row 34 (.pair (.int .i64) (.pair .str .str))], [], [⟨8, [1, 4, 5, 6], [.val, .box [.val, .val], .box [.val, .row 34 (.pair (.int .i64) (.pair .str .str))], .val], []⟩, ⟨22, [1, 4, 5, 6], [.val, .box [.val, .val], .box [.val, .row 34 (.pair (.int .i64) (.pair .str .str))], .val], []⟩], fun x H => match x, H with
  | .agg [.v (.string r_0), .own 0], [.row 34 (.pair (.int .i64) (.pair .str .str)) r_1] => some (r_0, r_1)
  | _, _ => none⟩
def spec_l2Flush.s : Spec := mkS [.agg [.val, .con (.pair (.int .i64) (.pair .str .str))], .val] (fun k avs H => match avs, H with
  | [.agg [.v (.string a0_0), .con (.pair (.int .i64) (.pair .str .str)) a0_1], .v (.int .i64 a1)], [] => some (spec_l2Flush.f k a0_0 a0_1 a1)
  | _, _ => none) (fun r => (.agg [.v (.string r.1), .own 0], [.row 34 (.pair (.int .i64) (.pair .str .str)) r.2]))
def spec_l2Flush.E : Env := [((37, []), spec_l2Copy.s)]
def spec_l2Flush.G8 (k : Nat) (avs : List AV) (H : List HE) : Option (ByteArray × List (Int × ByteArray × ByteArray)) := match avs, H with
  | [.v (.int .i64 x1), .box 0 0, .box 1 0, .v (.int .i64 x6)], [.box [.v (.string x4_0), .v (.slice none 0 0)], .box [.v (.string x5_0), .own 2], .row 34 (.pair (.int .i64) (.pair .str .str)) x5_1] => spec_l2Flush.p8 k x1 x4_0 x5_0 x5_1 x6
  | _, _ => none
def spec_l2Flush.G22 (k : Nat) (avs : List AV) (H : List HE) : Option (ByteArray × List (Int × ByteArray × ByteArray)) := match avs, H with
  | [.v (.int .i64 x1), .box 0 0, .box 1 0, .v (.int .i64 x6)], [.box [.v (.string x4_0), .v (.slice none 0 0)], .box [.v (.string x5_0), .own 2], .row 34 (.pair (.int .i64) (.pair .str .str)) x5_1] => spec_l2Flush.p22 k x1 x4_0 x5_0 x5_1 x6
  | _, _ => none
def spec_l2Flush.G (k p : Nat) (avs : List AV) (H : List HE) : Option (ByteArray × List (Int × ByteArray × ByteArray)) := (pick1 8 (spec_l2Flush.G8 k avs H) (pick1 22 (spec_l2Flush.G22 k avs H) none p) p)
set_option maxRecDepth 100000 in
theorem spec_l2Flush.eq (k : Nat) (a0_0 : ByteArray) (a0_1 : List (Int × ByteArray × ByteArray)) (a1 : Int) : fromTop Try.prog spec_l2Flush.E k spec_l2Flush.a (spec_l2Flush.G k) 1000 (bodyOf Try.prog 27) [.agg [.v (.string a0_0), .con (.pair (.int .i64) (.pair .str .str)) a0_1], .v (.int .i64 a1)] [] = spec_l2Flush.f k a0_0 a0_1 a1 := by kernel_rfl
set_option maxRecDepth 100000 in
theorem spec_l2Flush.eq8 (k : Nat) (x1 : Int) (x4_0 : ByteArray) (x5_0 : ByteArray) (x5_1 : List (Int × ByteArray × ByteArray)) (x6 : Int) : fromPt Try.prog spec_l2Flush.E k spec_l2Flush.a (spec_l2Flush.G k) 1000 (bodyOf Try.prog 27) 8 [.v (.int .i64 x1), .box 0 0, .box 1 0, .v (.int .i64 x6)] [.box [.v (.string x4_0), .v (.slice none 0 0)], .box [.v (.string x5_0), .own 2], .row 34 (.pair (.int .i64) (.pair .str .str)) x5_1] = spec_l2Flush.p8 (k + 1) x1 x4_0 x5_0 x5_1 x6 := by kernel_rfl
theorem spec_l2Flush.G8_0 {avs : List AV} {H : List HE} : spec_l2Flush.G8 0 avs H = none := by unfold spec_l2Flush.G8; split <;> rfl
theorem spec_l2Flush.G8_s (k : Nat) {avs : List AV} {H : List HE} {x : ByteArray × List (Int × ByteArray × ByteArray)} (h : spec_l2Flush.G8 (k + 1) avs H = some x) : fromPt Try.prog spec_l2Flush.E k spec_l2Flush.a (spec_l2Flush.G k) 1000 (bodyOf Try.prog 27) 8 avs H = some x := by
  unfold spec_l2Flush.G8 at h
  split at h
  · rw [← h]; exact spec_l2Flush.eq8 _ _ _ _ _ _
  · cases h
set_option maxRecDepth 100000 in
theorem spec_l2Flush.eq22 (k : Nat) (x1 : Int) (x4_0 : ByteArray) (x5_0 : ByteArray) (x5_1 : List (Int × ByteArray × ByteArray)) (x6 : Int) : fromPt Try.prog spec_l2Flush.E k spec_l2Flush.a (spec_l2Flush.G k) 1000 (bodyOf Try.prog 27) 22 [.v (.int .i64 x1), .box 0 0, .box 1 0, .v (.int .i64 x6)] [.box [.v (.string x4_0), .v (.slice none 0 0)], .box [.v (.string x5_0), .own 2], .row 34 (.pair (.int .i64) (.pair .str .str)) x5_1] = spec_l2Flush.p22 (k + 1) x1 x4_0 x5_0 x5_1 x6 := by kernel_rfl
theorem spec_l2Flush.G22_0 {avs : List AV} {H : List HE} : spec_l2Flush.G22 0 avs H = none := by unfold spec_l2Flush.G22; split <;> rfl
theorem spec_l2Flush.G22_s (k : Nat) {avs : List AV} {H : List HE} {x : ByteArray × List (Int × ByteArray × ByteArray)} (h : spec_l2Flush.G22 (k + 1) avs H = some x) : fromPt Try.prog spec_l2Flush.E k spec_l2Flush.a (spec_l2Flush.G k) 1000 (bodyOf Try.prog 27) 22 avs H = some x := by
  unfold spec_l2Flush.G22 at h
  split at h
  · rw [← h]; exact spec_l2Flush.eq22 _ _ _ _ _ _
  · cases h
theorem spec_l2Flush.E_ok : EnvOk Try.prog spec_l2Flush.E := ⟨⟨spec_l2Copy.sound, callable_of (by kernel_rfl)⟩, trivial⟩
theorem spec_l2Flush.sound : Sound Try.prog 27 spec_l2Flush.s := by
  refine func_sound (f := spec_l2Flush.a) (G := spec_l2Flush.G) (fn := Try.f27) (body := bodyOf Try.prog 27) 1000 (by kernel_rfl) spec_l2Flush.E_ok Try.func27 (by kernel_rfl) (by kernel_rfl) (by kernel_rfl) (ptsOk_of (by kernel_rfl)) ?_ ?_ ?_ ?_
  · intro r H x h
    unfold spec_l2Flush.a at h
    simp only at h
    split at h
    · cases h; rfl
    · cases h
  · exact fun q avs H => pick1_none spec_l2Flush.G8_0 (pick1_none spec_l2Flush.G22_0 (rfl))
  · intro k q pt avs H x _ h
    rcases pick1_some h with ⟨rfl, h⟩ | h
    · exact spec_l2Flush.G8_s _ h
    rcases pick1_some h with ⟨rfl, h⟩ | h
    · exact spec_l2Flush.G22_s _ h
    cases h
  · intro k avs H o h
    try dsimp only at h
    split at h
    · cases h; exact spec_l2Flush.eq _ _ _ _
    · cases h

def spec_l2Store.a : FnA (ByteArray × List (Int × ByteArray × ByteArray)) := ⟨95, [.cell 6 26], .agg [.val, .row 34 (.pair (.int .i64) (.pair .str .str))], [], [⟨12, [1, 2, 3, 6, 7, 8, 9, 10], [.val, .val, .box [.val, .con (.pair (.int .i64) (.pair .str .str))], .box [.val, .val], .val, .box [.val, .row 34 (.pair (.int .i64) (.pair .str .str))], .bool, .val], []⟩, ⟨26, [1, 2, 3, 6, 7, 8, 9, 10, 11, 36], [.val, .val, .box [.val, .con (.pair (.int .i64) (.pair .str .str))], .box [.val, .val], .val, .box [.val, .row 34 (.pair (.int .i64) (.pair .str .str))], .bool, .val, .box [.val, .val, .val], .bool], []⟩, ⟨31, [1, 2, 3, 6, 7, 8, 9, 10, 11], [.val, .val, .box [.val, .con (.pair (.int .i64) (.pair .str .str))], .box [.val, .val], .val, .box [.val, .row 34 (.pair (.int .i64) (.pair .str .str))], .bool, .val, .box [.val, .val, .val]], []⟩, ⟨39, [1, 2, 3, 6, 7, 8, 9, 10, 11], [.val, .val, .box [.val, .con (.pair (.int .i64) (.pair .str .str))], .box [.val, .val], .val, .box [.val, .row 34 (.pair (.int .i64) (.pair .str .str))], .bool, .val, .box [.val, .val, .val]], []⟩], fun x H => match x, H with
  | .agg [.v (.string r_0), .own 0], [.row 34 (.pair (.int .i64) (.pair .str .str)) r_1] => some (r_0, r_1)
  | _, _ => none⟩
def spec_l2Store.s : Spec := mkS [.agg [.val, .con (.pair (.int .i64) (.pair .str .str))], .val, .val] (fun k avs H => match avs, H with
  | [.agg [.v (.string a0_0), .con (.pair (.int .i64) (.pair .str .str)) a0_1], .v (.int .i64 a1), .v (.string a2)], [] => some (spec_l2Store.f k a0_0 a0_1 a1 a2)
  | _, _ => none) (fun r => (.agg [.v (.string r.1), .own 0], [.row 34 (.pair (.int .i64) (.pair .str .str)) r.2]))
def spec_l2Store.E : Env := [((21, []), spec_l2With.s)]
def spec_l2Store.G12 (k : Nat) (avs : List AV) (H : List HE) : Option (ByteArray × List (Int × ByteArray × ByteArray)) := match avs, H with
  | [.v (.int .i64 x1), .v (.string x2), .box 0 0, .box 1 0, .v (.int .i64 x7), .box 2 0, .bs false x9, .v (.int .i64 x10)], [.box [.v (.string x3_0), .con (.pair (.int .i64) (.pair .str .str)) x3_1], .box [.v (.string x6_0), .v (.slice none 0 0)], .box [.v (.string x8_0), .own 3], .row 34 (.pair (.int .i64) (.pair .str .str)) x8_1] => spec_l2Store.p12 k x1 x2 x3_0 x3_1 x6_0 x7 x8_0 x8_1 x9 x10
  | _, _ => none
def spec_l2Store.G26 (k : Nat) (avs : List AV) (H : List HE) : Option (ByteArray × List (Int × ByteArray × ByteArray)) := match avs, H with
  | [.v (.int .i64 x1), .v (.string x2), .box 0 0, .box 1 0, .v (.int .i64 x7), .box 2 0, .bs false x9, .v (.int .i64 x10), .box 4 0, .bs false x36], [.box [.v (.string x3_0), .con (.pair (.int .i64) (.pair .str .str)) x3_1], .box [.v (.string x6_0), .v (.slice none 0 0)], .box [.v (.string x8_0), .own 3], .row 34 (.pair (.int .i64) (.pair .str .str)) x8_1, .box [.v (.int .i64 x11_0), .v (.string x11_1), .v (.string x11_2)]] => spec_l2Store.p26 k x1 x2 x3_0 x3_1 x6_0 x7 x8_0 x8_1 x9 x10 x11_0 x11_1 x11_2 x36
  | _, _ => none
def spec_l2Store.G31 (k : Nat) (avs : List AV) (H : List HE) : Option (ByteArray × List (Int × ByteArray × ByteArray)) := match avs, H with
  | [.v (.int .i64 x1), .v (.string x2), .box 0 0, .box 1 0, .v (.int .i64 x7), .box 2 0, .bs false x9, .v (.int .i64 x10), .box 4 0], [.box [.v (.string x3_0), .con (.pair (.int .i64) (.pair .str .str)) x3_1], .box [.v (.string x6_0), .v (.slice none 0 0)], .box [.v (.string x8_0), .own 3], .row 34 (.pair (.int .i64) (.pair .str .str)) x8_1, .box [.v (.int .i64 x11_0), .v (.string x11_1), .v (.string x11_2)]] => spec_l2Store.p31 k x1 x2 x3_0 x3_1 x6_0 x7 x8_0 x8_1 x9 x10 x11_0 x11_1 x11_2
  | _, _ => none
def spec_l2Store.G39 (k : Nat) (avs : List AV) (H : List HE) : Option (ByteArray × List (Int × ByteArray × ByteArray)) := match avs, H with
  | [.v (.int .i64 x1), .v (.string x2), .box 0 0, .box 1 0, .v (.int .i64 x7), .box 2 0, .bs false x9, .v (.int .i64 x10), .box 4 0], [.box [.v (.string x3_0), .con (.pair (.int .i64) (.pair .str .str)) x3_1], .box [.v (.string x6_0), .v (.slice none 0 0)], .box [.v (.string x8_0), .own 3], .row 34 (.pair (.int .i64) (.pair .str .str)) x8_1, .box [.v (.int .i64 x11_0), .v (.string x11_1), .v (.string x11_2)]] => spec_l2Store.p39 k x1 x2 x3_0 x3_1 x6_0 x7 x8_0 x8_1 x9 x10 x11_0 x11_1 x11_2
  | _, _ => none
def spec_l2Store.G (k p : Nat) (avs : List AV) (H : List HE) : Option (ByteArray × List (Int × ByteArray × ByteArray)) := (pick1 12 (spec_l2Store.G12 k avs H) (pick1 26 (spec_l2Store.G26 k avs H) (pick1 31 (spec_l2Store.G31 k avs H) (pick1 39 (spec_l2Store.G39 k avs H) none p) p) p) p)
set_option maxRecDepth 100000 in
theorem spec_l2Store.eq (k : Nat) (a0_0 : ByteArray) (a0_1 : List (Int × ByteArray × ByteArray)) (a1 : Int) (a2 : ByteArray) : fromTop Try.prog spec_l2Store.E k spec_l2Store.a (spec_l2Store.G k) 1000 (bodyOf Try.prog 28) [.agg [.v (.string a0_0), .con (.pair (.int .i64) (.pair .str .str)) a0_1], .v (.int .i64 a1), .v (.string a2)] [] = spec_l2Store.f k a0_0 a0_1 a1 a2 := by kernel_rfl
set_option maxRecDepth 100000 in
theorem spec_l2Store.eq12 (k : Nat) (x1 : Int) (x2 : ByteArray) (x3_0 : ByteArray) (x3_1 : List (Int × ByteArray × ByteArray)) (x6_0 : ByteArray) (x7 : Int) (x8_0 : ByteArray) (x8_1 : List (Int × ByteArray × ByteArray)) (x9 : Bool) (x10 : Int) : fromPt Try.prog spec_l2Store.E k spec_l2Store.a (spec_l2Store.G k) 1000 (bodyOf Try.prog 28) 12 [.v (.int .i64 x1), .v (.string x2), .box 0 0, .box 1 0, .v (.int .i64 x7), .box 2 0, .bs false x9, .v (.int .i64 x10)] [.box [.v (.string x3_0), .con (.pair (.int .i64) (.pair .str .str)) x3_1], .box [.v (.string x6_0), .v (.slice none 0 0)], .box [.v (.string x8_0), .own 3], .row 34 (.pair (.int .i64) (.pair .str .str)) x8_1] = spec_l2Store.p12 (k + 1) x1 x2 x3_0 x3_1 x6_0 x7 x8_0 x8_1 x9 x10 := by kernel_rfl
theorem spec_l2Store.G12_0 {avs : List AV} {H : List HE} : spec_l2Store.G12 0 avs H = none := by unfold spec_l2Store.G12; split <;> rfl
theorem spec_l2Store.G12_s (k : Nat) {avs : List AV} {H : List HE} {x : ByteArray × List (Int × ByteArray × ByteArray)} (h : spec_l2Store.G12 (k + 1) avs H = some x) : fromPt Try.prog spec_l2Store.E k spec_l2Store.a (spec_l2Store.G k) 1000 (bodyOf Try.prog 28) 12 avs H = some x := by
  unfold spec_l2Store.G12 at h
  split at h
  · rw [← h]; exact spec_l2Store.eq12 _ _ _ _ _ _ _ _ _ _ _
  · cases h
set_option maxRecDepth 100000 in
theorem spec_l2Store.eq26 (k : Nat) (x1 : Int) (x2 : ByteArray) (x3_0 : ByteArray) (x3_1 : List (Int × ByteArray × ByteArray)) (x6_0 : ByteArray) (x7 : Int) (x8_0 : ByteArray) (x8_1 : List (Int × ByteArray × ByteArray)) (x9 : Bool) (x10 : Int) (x11_0 : Int) (x11_1 : ByteArray) (x11_2 : ByteArray) (x36 : Bool) : fromPt Try.prog spec_l2Store.E k spec_l2Store.a (spec_l2Store.G k) 1000 (bodyOf Try.prog 28) 26 [.v (.int .i64 x1), .v (.string x2), .box 0 0, .box 1 0, .v (.int .i64 x7), .box 2 0, .bs false x9, .v (.int .i64 x10), .box 4 0, .bs false x36] [.box [.v (.string x3_0), .con (.pair (.int .i64) (.pair .str .str)) x3_1], .box [.v (.string x6_0), .v (.slice none 0 0)], .box [.v (.string x8_0), .own 3], .row 34 (.pair (.int .i64) (.pair .str .str)) x8_1, .box [.v (.int .i64 x11_0), .v (.string x11_1), .v (.string x11_2)]] = spec_l2Store.p26 (k + 1) x1 x2 x3_0 x3_1 x6_0 x7 x8_0 x8_1 x9 x10 x11_0 x11_1 x11_2 x36 := by kernel_rfl
theorem spec_l2Store.G26_0 {avs : List AV} {H : List HE} : spec_l2Store.G26 0 avs H = none := by unfold spec_l2Store.G26; split <;> rfl
theorem spec_l2Store.G26_s (k : Nat) {avs : List AV} {H : List HE} {x : ByteArray × List (Int × ByteArray × ByteArray)} (h : spec_l2Store.G26 (k + 1) avs H = some x) : fromPt Try.prog spec_l2Store.E k spec_l2Store.a (spec_l2Store.G k) 1000 (bodyOf Try.prog 28) 26 avs H = some x := by
  unfold spec_l2Store.G26 at h
  split at h
  · rw [← h]; exact spec_l2Store.eq26 _ _ _ _ _ _ _ _ _ _ _ _ _ _ _
  · cases h
set_option maxRecDepth 100000 in
theorem spec_l2Store.eq31 (k : Nat) (x1 : Int) (x2 : ByteArray) (x3_0 : ByteArray) (x3_1 : List (Int × ByteArray × ByteArray)) (x6_0 : ByteArray) (x7 : Int) (x8_0 : ByteArray) (x8_1 : List (Int × ByteArray × ByteArray)) (x9 : Bool) (x10 : Int) (x11_0 : Int) (x11_1 : ByteArray) (x11_2 : ByteArray) : fromPt Try.prog spec_l2Store.E k spec_l2Store.a (spec_l2Store.G k) 1000 (bodyOf Try.prog 28) 31 [.v (.int .i64 x1), .v (.string x2), .box 0 0, .box 1 0, .v (.int .i64 x7), .box 2 0, .bs false x9, .v (.int .i64 x10), .box 4 0] [.box [.v (.string x3_0), .con (.pair (.int .i64) (.pair .str .str)) x3_1], .box [.v (.string x6_0), .v (.slice none 0 0)], .box [.v (.string x8_0), .own 3], .row 34 (.pair (.int .i64) (.pair .str .str)) x8_1, .box [.v (.int .i64 x11_0), .v (.string x11_1), .v (.string x11_2)]] = spec_l2Store.p31 (k + 1) x1 x2 x3_0 x3_1 x6_0 x7 x8_0 x8_1 x9 x10 x11_0 x11_1 x11_2 := by kernel_rfl
theorem spec_l2Store.G31_0 {avs : List AV} {H : List HE} : spec_l2Store.G31 0 avs H = none := by unfold spec_l2Store.G31; split <;> rfl
theorem spec_l2Store.G31_s (k : Nat) {avs : List AV} {H : List HE} {x : ByteArray × List (Int × ByteArray × ByteArray)} (h : spec_l2Store.G31 (k + 1) avs H = some x) : fromPt Try.prog spec_l2Store.E k spec_l2Store.a (spec_l2Store.G k) 1000 (bodyOf Try.prog 28) 31 avs H = some x := by
  unfold spec_l2Store.G31 at h
  split at h
  · rw [← h]; exact spec_l2Store.eq31 _ _ _ _ _ _ _ _ _ _ _ _ _ _
  · cases h
set_option maxRecDepth 100000 in
theorem spec_l2Store.eq39 (k : Nat) (x1 : Int) (x2 : ByteArray) (x3_0 : ByteArray) (x3_1 : List (Int × ByteArray × ByteArray)) (x6_0 : ByteArray) (x7 : Int) (x8_0 : ByteArray) (x8_1 : List (Int × ByteArray × ByteArray)) (x9 : Bool) (x10 : Int) (x11_0 : Int) (x11_1 : ByteArray) (x11_2 : ByteArray) : fromPt Try.prog spec_l2Store.E k spec_l2Store.a (spec_l2Store.G k) 1000 (bodyOf Try.prog 28) 39 [.v (.int .i64 x1), .v (.string x2), .box 0 0, .box 1 0, .v (.int .i64 x7), .box 2 0, .bs false x9, .v (.int .i64 x10), .box 4 0] [.box [.v (.string x3_0), .con (.pair (.int .i64) (.pair .str .str)) x3_1], .box [.v (.string x6_0), .v (.slice none 0 0)], .box [.v (.string x8_0), .own 3], .row 34 (.pair (.int .i64) (.pair .str .str)) x8_1, .box [.v (.int .i64 x11_0), .v (.string x11_1), .v (.string x11_2)]] = spec_l2Store.p39 (k + 1) x1 x2 x3_0 x3_1 x6_0 x7 x8_0 x8_1 x9 x10 x11_0 x11_1 x11_2 := by kernel_rfl
theorem spec_l2Store.G39_0 {avs : List AV} {H : List HE} : spec_l2Store.G39 0 avs H = none := by unfold spec_l2Store.G39; split <;> rfl
theorem spec_l2Store.G39_s (k : Nat) {avs : List AV} {H : List HE} {x : ByteArray × List (Int × ByteArray × ByteArray)} (h : spec_l2Store.G39 (k + 1) avs H = some x) : fromPt Try.prog spec_l2Store.E k spec_l2Store.a (spec_l2Store.G k) 1000 (bodyOf Try.prog 28) 39 avs H = some x := by
  unfold spec_l2Store.G39 at h
  split at h
  · rw [← h]; exact spec_l2Store.eq39 _ _ _ _ _ _ _ _ _ _ _ _ _ _
  · cases h
theorem spec_l2Store.E_ok : EnvOk Try.prog spec_l2Store.E := ⟨⟨spec_l2With.sound, callable_of (by kernel_rfl)⟩, trivial⟩
theorem spec_l2Store.sound : Sound Try.prog 28 spec_l2Store.s := by
  refine func_sound (f := spec_l2Store.a) (G := spec_l2Store.G) (fn := Try.f28) (body := bodyOf Try.prog 28) 1000 (by kernel_rfl) spec_l2Store.E_ok Try.func28 (by kernel_rfl) (by kernel_rfl) (by kernel_rfl) (ptsOk_of (by kernel_rfl)) ?_ ?_ ?_ ?_
  · intro r H x h
    unfold spec_l2Store.a at h
    simp only at h
    split at h
    · cases h; rfl
    · cases h
  · exact fun q avs H => pick1_none spec_l2Store.G12_0 (pick1_none spec_l2Store.G26_0 (pick1_none spec_l2Store.G31_0 (pick1_none spec_l2Store.G39_0 (rfl))))
  · intro k q pt avs H x _ h
    rcases pick1_some h with ⟨rfl, h⟩ | h
    · exact spec_l2Store.G12_s _ h
    rcases pick1_some h with ⟨rfl, h⟩ | h
    · exact spec_l2Store.G26_s _ h
    rcases pick1_some h with ⟨rfl, h⟩ | h
    · exact spec_l2Store.G31_s _ h
    rcases pick1_some h with ⟨rfl, h⟩ | h
    · exact spec_l2Store.G39_s _ h
    cases h
  · intro k avs H o h
    try dsimp only at h
    split at h
    · cases h; exact spec_l2Store.eq _ _ _ _ _
    · cases h

def spec_l1Rd_hurt.a : FnA (List Int × Int × ByteArray) := ⟨50, [.tmp 4], .val, [.box [.con (.int .u8), .val]], [], fun x H => match x, H with
  | .v (.string r), [.box [.con (.int .u8) h0_0, .v (.int .i64 h0_1)]] => some (h0_0, h0_1, r)
  | _, _ => none⟩
def spec_l1Rd_hurt.s : Spec := mkS [.box [.con (.int .u8), .val], .val] (fun k avs H => match avs, H with
  | [.box 0 0, .v (.string a1)], [.box [.con (.int .u8) a0_0, .v (.int .i64 a0_1)]] => some (spec_l1Rd_hurt.f a0_0 a0_1 a1)
  | _, _ => none) (fun r => (.v (.string r.2.2), [.box [.con (.int .u8) r.1, .v (.int .i64 r.2.1)]]))
def spec_l1Rd_hurt.E : Env := [((20, []), spec_l1Rd_below.s)]
def spec_l1Rd_hurt.G (k p : Nat) (avs : List AV) (H : List HE) : Option (List Int × Int × ByteArray) := none
set_option maxRecDepth 100000 in
theorem spec_l1Rd_hurt.eq (k : Nat) (a0_0 : List Int) (a0_1 : Int) (a1 : ByteArray) : fromTop Try.prog spec_l1Rd_hurt.E k spec_l1Rd_hurt.a (spec_l1Rd_hurt.G k) 1000 (bodyOf Try.prog 29) [.box 0 0, .v (.string a1)] [.box [.con (.int .u8) a0_0, .v (.int .i64 a0_1)]] = spec_l1Rd_hurt.f a0_0 a0_1 a1 := by kernel_rfl
theorem spec_l1Rd_hurt.E_ok : EnvOk Try.prog spec_l1Rd_hurt.E := ⟨⟨spec_l1Rd_below.sound, callable_of (by kernel_rfl)⟩, trivial⟩
theorem spec_l1Rd_hurt.sound : Sound Try.prog 29 spec_l1Rd_hurt.s := by
  refine func_sound (f := spec_l1Rd_hurt.a) (G := spec_l1Rd_hurt.G) (fn := Try.f29) (body := bodyOf Try.prog 29) 1000 (by kernel_rfl) spec_l1Rd_hurt.E_ok Try.func29 (by kernel_rfl) (by kernel_rfl) (by kernel_rfl) (ptsOk_of (by kernel_rfl)) ?_ ?_ ?_ ?_
  · intro r H x h
    unfold spec_l1Rd_hurt.a at h
    simp only at h
    split at h
    · cases h; rfl
    · cases h
  · intro q avs H; rfl
  · intro k q pt avs H x _ h; cases h
  · intro k avs H o h
    try dsimp only at h
    split at h
    · cases h; exact spec_l1Rd_hurt.eq _ _ _ _
    · cases h

def spec_l1Rd_once.a : FnA (List Int × Int × Bool) := ⟨11, [.tmp 4], .bool, [.box [.con (.int .u8), .val]], [], fun x H => match x, H with
  | .bs false r, [.box [.con (.int .u8) h0_0, .v (.int .i64 h0_1)]] => some (h0_0, h0_1, r)
  | _, _ => none⟩
def spec_l1Rd_once.s : Spec := mkS [.box [.con (.int .u8), .val], .val] (fun k avs H => match avs, H with
  | [.box 0 0, .v (.int .i64 a1)], [.box [.con (.int .u8) a0_0, .v (.int .i64 a0_1)]] => some (spec_l1Rd_once.f a0_0 a0_1 a1)
  | _, _ => none) (fun r => (.bs false r.2.2, [.box [.con (.int .u8) r.1, .v (.int .i64 r.2.1)]]))
def spec_l1Rd_once.E : Env := [((20, []), spec_l1Rd_below.s)]
def spec_l1Rd_once.G (k p : Nat) (avs : List AV) (H : List HE) : Option (List Int × Int × Bool) := none
set_option maxRecDepth 100000 in
theorem spec_l1Rd_once.eq (k : Nat) (a0_0 : List Int) (a0_1 : Int) (a1 : Int) : fromTop Try.prog spec_l1Rd_once.E k spec_l1Rd_once.a (spec_l1Rd_once.G k) 1000 (bodyOf Try.prog 38) [.box 0 0, .v (.int .i64 a1)] [.box [.con (.int .u8) a0_0, .v (.int .i64 a0_1)]] = spec_l1Rd_once.f a0_0 a0_1 a1 := by kernel_rfl
theorem spec_l1Rd_once.E_ok : EnvOk Try.prog spec_l1Rd_once.E := ⟨⟨spec_l1Rd_below.sound, callable_of (by kernel_rfl)⟩, trivial⟩
theorem spec_l1Rd_once.sound : Sound Try.prog 38 spec_l1Rd_once.s := by
  refine func_sound (f := spec_l1Rd_once.a) (G := spec_l1Rd_once.G) (fn := Try.f38) (body := bodyOf Try.prog 38) 1000 (by kernel_rfl) spec_l1Rd_once.E_ok Try.func38 (by kernel_rfl) (by kernel_rfl) (by kernel_rfl) (ptsOk_of (by kernel_rfl)) ?_ ?_ ?_ ?_
  · intro r H x h
    unfold spec_l1Rd_once.a at h
    simp only at h
    split at h
    · cases h; rfl
    · cases h
  · intro q avs H; rfl
  · intro k q pt avs H x _ h; cases h
  · intro k avs H o h
    try dsimp only at h
    split at h
    · cases h; exact spec_l1Rd_once.eq _ _ _ _
    · cases h

def spec_l1Rd_word.a : FnA (List Int × Int × Int) := ⟨16, [.tmp 2], .val, [.box [.con (.int .u8), .val]], [⟨8, [0, 3, 4], [.box [], .val, .val], [.box [.con (.int .u8), .val]]⟩], fun x H => match x, H with
  | .v (.int .u64 r), [.box [.con (.int .u8) h0_0, .v (.int .i64 h0_1)]] => some (h0_0, h0_1, r)
  | _, _ => none⟩
def spec_l1Rd_word.s : Spec := mkS [.box [.con (.int .u8), .val]] (fun k avs H => match avs, H with
  | [.box 0 0], [.box [.con (.int .u8) a0_0, .v (.int .i64 a0_1)]] => some (spec_l1Rd_word.f k a0_0 a0_1)
  | _, _ => none) (fun r => (.v (.int .u64 r.2.2), [.box [.con (.int .u8) r.1, .v (.int .i64 r.2.1)]]))
def spec_l1Rd_word.E : Env := [((36, []), spec_l1Rd_next.s)]
def spec_l1Rd_word.G8 (k : Nat) (avs : List AV) (H : List HE) : Option (List Int × Int × Int) := match avs, H with
  | [.box 0 0, .v (.int .u64 x3), .v (.int .i64 x4)], [.box [.con (.int .u8) h0_0, .v (.int .i64 h0_1)]] => spec_l1Rd_word.p8 k h0_0 h0_1 x3 x4
  | _, _ => none
def spec_l1Rd_word.G (k p : Nat) (avs : List AV) (H : List HE) : Option (List Int × Int × Int) := (pick1 8 (spec_l1Rd_word.G8 k avs H) none p)
set_option maxRecDepth 100000 in
theorem spec_l1Rd_word.eq (k : Nat) (a0_0 : List Int) (a0_1 : Int) : fromTop Try.prog spec_l1Rd_word.E k spec_l1Rd_word.a (spec_l1Rd_word.G k) 1000 (bodyOf Try.prog 43) [.box 0 0] [.box [.con (.int .u8) a0_0, .v (.int .i64 a0_1)]] = spec_l1Rd_word.f k a0_0 a0_1 := by kernel_rfl
set_option maxRecDepth 100000 in
theorem spec_l1Rd_word.eq8 (k : Nat) (h0_0 : List Int) (h0_1 : Int) (x3 : Int) (x4 : Int) : fromPt Try.prog spec_l1Rd_word.E k spec_l1Rd_word.a (spec_l1Rd_word.G k) 1000 (bodyOf Try.prog 43) 8 [.box 0 0, .v (.int .u64 x3), .v (.int .i64 x4)] [.box [.con (.int .u8) h0_0, .v (.int .i64 h0_1)]] = spec_l1Rd_word.p8 (k + 1) h0_0 h0_1 x3 x4 := by kernel_rfl
theorem spec_l1Rd_word.G8_0 {avs : List AV} {H : List HE} : spec_l1Rd_word.G8 0 avs H = none := by unfold spec_l1Rd_word.G8; split <;> rfl
theorem spec_l1Rd_word.G8_s (k : Nat) {avs : List AV} {H : List HE} {x : List Int × Int × Int} (h : spec_l1Rd_word.G8 (k + 1) avs H = some x) : fromPt Try.prog spec_l1Rd_word.E k spec_l1Rd_word.a (spec_l1Rd_word.G k) 1000 (bodyOf Try.prog 43) 8 avs H = some x := by
  unfold spec_l1Rd_word.G8 at h
  split at h
  · rw [← h]; exact spec_l1Rd_word.eq8 _ _ _ _ _
  · cases h
theorem spec_l1Rd_word.E_ok : EnvOk Try.prog spec_l1Rd_word.E := ⟨⟨spec_l1Rd_next.sound, callable_of (by kernel_rfl)⟩, trivial⟩
theorem spec_l1Rd_word.sound : Sound Try.prog 43 spec_l1Rd_word.s := by
  refine func_sound (f := spec_l1Rd_word.a) (G := spec_l1Rd_word.G) (fn := Try.f43) (body := bodyOf Try.prog 43) 1000 (by kernel_rfl) spec_l1Rd_word.E_ok Try.func43 (by kernel_rfl) (by kernel_rfl) (by kernel_rfl) (ptsOk_of (by kernel_rfl)) ?_ ?_ ?_ ?_
  · intro r H x h
    unfold spec_l1Rd_word.a at h
    simp only at h
    split at h
    · cases h; rfl
    · cases h
  · exact fun q avs H => pick1_none spec_l1Rd_word.G8_0 (rfl)
  · intro k q pt avs H x _ h
    rcases pick1_some h with ⟨rfl, h⟩ | h
    · exact spec_l1Rd_word.G8_s _ h
    cases h
  · intro k avs H o h
    try dsimp only at h
    split at h
    · cases h; exact spec_l1Rd_word.eq _ _ _
    · cases h

def spec_l1Rd_near.a : FnA (List Int × Int × Int) := ⟨31, [.tmp 6], .val, [.box [.con (.int .u8), .val]], [], fun x H => match x, H with
  | .v (.int .i64 r), [.box [.con (.int .u8) h0_0, .v (.int .i64 h0_1)]] => some (h0_0, h0_1, r)
  | _, _ => none⟩
def spec_l1Rd_near.s : Spec := mkS [.box [.con (.int .u8), .val], .val, .val] (fun k avs H => match avs, H with
  | [.box 0 0, .v (.int .i64 a1), .v (.int .i64 a2)], [.box [.con (.int .u8) a0_0, .v (.int .i64 a0_1)]] => some (spec_l1Rd_near.f k a0_0 a0_1 a1 a2)
  | _, _ => none) (fun r => (.v (.int .i64 r.2.2), [.box [.con (.int .u8) r.1, .v (.int .i64 r.2.1)]]))
def spec_l1Rd_near.E : Env := [((20, []), spec_l1Rd_below.s), ((43, []), spec_l1Rd_word.s)]
def spec_l1Rd_near.G (k p : Nat) (avs : List AV) (H : List HE) : Option (List Int × Int × Int) := none
set_option maxRecDepth 100000 in
theorem spec_l1Rd_near.eq (k : Nat) (a0_0 : List Int) (a0_1 : Int) (a1 : Int) (a2 : Int) : fromTop Try.prog spec_l1Rd_near.E k spec_l1Rd_near.a (spec_l1Rd_near.G k) 1000 (bodyOf Try.prog 39) [.box 0 0, .v (.int .i64 a1), .v (.int .i64 a2)] [.box [.con (.int .u8) a0_0, .v (.int .i64 a0_1)]] = spec_l1Rd_near.f k a0_0 a0_1 a1 a2 := by kernel_rfl
theorem spec_l1Rd_near.E_ok : EnvOk Try.prog spec_l1Rd_near.E := ⟨⟨spec_l1Rd_below.sound, callable_of (by kernel_rfl)⟩, ⟨spec_l1Rd_word.sound, callable_of (by kernel_rfl)⟩, trivial⟩
theorem spec_l1Rd_near.sound : Sound Try.prog 39 spec_l1Rd_near.s := by
  refine func_sound (f := spec_l1Rd_near.a) (G := spec_l1Rd_near.G) (fn := Try.f39) (body := bodyOf Try.prog 39) 1000 (by kernel_rfl) spec_l1Rd_near.E_ok Try.func39 (by kernel_rfl) (by kernel_rfl) (by kernel_rfl) (ptsOk_of (by kernel_rfl)) ?_ ?_ ?_ ?_
  · intro r H x h
    unfold spec_l1Rd_near.a at h
    simp only at h
    split at h
    · cases h; rfl
    · cases h
  · intro q avs H; rfl
  · intro k q pt avs H x _ h; cases h
  · intro k avs H o h
    try dsimp only at h
    split at h
    · cases h; exact spec_l1Rd_near.eq _ _ _ _ _
    · cases h

def spec_l1Rd_off.a : FnA (List Int × Int × Int) := ⟨22, [.tmp 6], .val, [.box [.con (.int .u8), .val]], [], fun x H => match x, H with
  | .v (.int .i64 r), [.box [.con (.int .u8) h0_0, .v (.int .i64 h0_1)]] => some (h0_0, h0_1, r)
  | _, _ => none⟩
def spec_l1Rd_off.s : Spec := mkS [.box [.con (.int .u8), .val], .val, .val] (fun k avs H => match avs, H with
  | [.box 0 0, .v (.int .i64 a1), .v (.int .i64 a2)], [.box [.con (.int .u8) a0_0, .v (.int .i64 a0_1)]] => some (spec_l1Rd_off.f k a0_0 a0_1 a1 a2)
  | _, _ => none) (fun r => (.v (.int .i64 r.2.2), [.box [.con (.int .u8) r.1, .v (.int .i64 r.2.1)]]))
def spec_l1Rd_off.E : Env := [((38, []), spec_l1Rd_once.s), ((20, []), spec_l1Rd_below.s), ((39, []), spec_l1Rd_near.s)]
def spec_l1Rd_off.G (k p : Nat) (avs : List AV) (H : List HE) : Option (List Int × Int × Int) := none
set_option maxRecDepth 100000 in
theorem spec_l1Rd_off.eq (k : Nat) (a0_0 : List Int) (a0_1 : Int) (a1 : Int) (a2 : Int) : fromTop Try.prog spec_l1Rd_off.E k spec_l1Rd_off.a (spec_l1Rd_off.G k) 1000 (bodyOf Try.prog 30) [.box 0 0, .v (.int .i64 a1), .v (.int .i64 a2)] [.box [.con (.int .u8) a0_0, .v (.int .i64 a0_1)]] = spec_l1Rd_off.f k a0_0 a0_1 a1 a2 := by kernel_rfl
theorem spec_l1Rd_off.E_ok : EnvOk Try.prog spec_l1Rd_off.E := ⟨⟨spec_l1Rd_once.sound, callable_of (by kernel_rfl)⟩, ⟨spec_l1Rd_below.sound, callable_of (by kernel_rfl)⟩, ⟨spec_l1Rd_near.sound, callable_of (by kernel_rfl)⟩, trivial⟩
theorem spec_l1Rd_off.sound : Sound Try.prog 30 spec_l1Rd_off.s := by
  refine func_sound (f := spec_l1Rd_off.a) (G := spec_l1Rd_off.G) (fn := Try.f30) (body := bodyOf Try.prog 30) 1000 (by kernel_rfl) spec_l1Rd_off.E_ok Try.func30 (by kernel_rfl) (by kernel_rfl) (by kernel_rfl) (ptsOk_of (by kernel_rfl)) ?_ ?_ ?_ ?_
  · intro r H x h
    unfold spec_l1Rd_off.a at h
    simp only at h
    split at h
    · cases h; rfl
    · cases h
  · intro q avs H; rfl
  · intro k q pt avs H x _ h; cases h
  · intro k avs H o h
    try dsimp only at h
    split at h
    · cases h; exact spec_l1Rd_off.eq _ _ _ _ _
    · cases h

def spec_l1Rd_device.a : FnA (List Int × Int × ByteArray × List (Int × ByteArray × ByteArray)) := ⟨104, [.cell 2 26], .agg [.val, .row 34 (.pair (.int .i64) (.pair .str .str))], [.box [.con (.int .u8), .val]], [⟨8, [0, 2, 3, 4], [.box [], .box [.val, .val], .val, .val], [.box [.con (.int .u8), .val]]⟩, ⟨25, [0, 2, 3, 5, 6], [.box [], .box [.val, .val], .val, .box [.val, .row 34 (.pair (.int .i64) (.pair .str .str))], .val], [.box [.con (.int .u8), .val]]⟩], fun x H => match x, H with
  | .agg [.v (.string r_0), .own 1], [.box [.con (.int .u8) h0_0, .v (.int .i64 h0_1)], .row 34 (.pair (.int .i64) (.pair .str .str)) r_1] => some (h0_0, h0_1, r_0, r_1)
  | _, _ => none⟩
def spec_l1Rd_device.s : Spec := mkS [.box [.con (.int .u8), .val]] (fun k avs H => match avs, H with
  | [.box 0 0], [.box [.con (.int .u8) a0_0, .v (.int .i64 a0_1)]] => some (spec_l1Rd_device.f k a0_0 a0_1)
  | _, _ => none) (fun r => (.agg [.v (.string r.2.2.1), .own 1], [.box [.con (.int .u8) r.1, .v (.int .i64 r.2.1)], .row 34 (.pair (.int .i64) (.pair .str .str)) r.2.2.2]))
def spec_l1Rd_device.E : Env := [((20, []), spec_l1Rd_below.s), ((22, []), spec_l1Zeros.s), ((23, []), spec_l1Rd_bytes.s), ((21, []), spec_l2With.s), ((24, []), spec_l1Rd_size.s), ((25, []), spec_l2Fence.s), ((26, []), spec_l2Evict.s), ((27, []), spec_l2Flush.s), ((28, []), spec_l2Store.s), ((29, []), spec_l1Rd_hurt.s), ((30, []), spec_l1Rd_off.s)]
def spec_l1Rd_device.G8 (k : Nat) (avs : List AV) (H : List HE) : Option (List Int × Int × ByteArray × List (Int × ByteArray × ByteArray)) := match avs, H with
  | [.box 0 0, .box 1 0, .v (.string x3), .v (.int .i64 x4)], [.box [.con (.int .u8) h0_0, .v (.int .i64 h0_1)], .box [.v (.string x2_0), .v (.slice none 0 0)]] => spec_l1Rd_device.p8 k h0_0 h0_1 x2_0 x3 x4
  | _, _ => none
def spec_l1Rd_device.G25 (k : Nat) (avs : List AV) (H : List HE) : Option (List Int × Int × ByteArray × List (Int × ByteArray × ByteArray)) := match avs, H with
  | [.box 0 0, .box 1 0, .v (.string x3), .box 2 0, .v (.int .i64 x6)], [.box [.con (.int .u8) h0_0, .v (.int .i64 h0_1)], .box [.v (.string x2_0), .v (.slice none 0 0)], .box [.v (.string x5_0), .own 3], .row 34 (.pair (.int .i64) (.pair .str .str)) x5_1] => spec_l1Rd_device.p25 k h0_0 h0_1 x2_0 x3 x5_0 x5_1 x6
  | _, _ => none
def spec_l1Rd_device.G (k p : Nat) (avs : List AV) (H : List HE) : Option (List Int × Int × ByteArray × List (Int × ByteArray × ByteArray)) := (pick1 8 (spec_l1Rd_device.G8 k avs H) (pick1 25 (spec_l1Rd_device.G25 k avs H) none p) p)
set_option maxRecDepth 100000 in
theorem spec_l1Rd_device.eq (k : Nat) (a0_0 : List Int) (a0_1 : Int) : fromTop Try.prog spec_l1Rd_device.E k spec_l1Rd_device.a (spec_l1Rd_device.G k) 1000 (bodyOf Try.prog 12) [.box 0 0] [.box [.con (.int .u8) a0_0, .v (.int .i64 a0_1)]] = spec_l1Rd_device.f k a0_0 a0_1 := by kernel_rfl
set_option maxRecDepth 100000 in
theorem spec_l1Rd_device.eq8 (k : Nat) (h0_0 : List Int) (h0_1 : Int) (x2_0 : ByteArray) (x3 : ByteArray) (x4 : Int) : fromPt Try.prog spec_l1Rd_device.E k spec_l1Rd_device.a (spec_l1Rd_device.G k) 1000 (bodyOf Try.prog 12) 8 [.box 0 0, .box 1 0, .v (.string x3), .v (.int .i64 x4)] [.box [.con (.int .u8) h0_0, .v (.int .i64 h0_1)], .box [.v (.string x2_0), .v (.slice none 0 0)]] = spec_l1Rd_device.p8 (k + 1) h0_0 h0_1 x2_0 x3 x4 := by kernel_rfl
theorem spec_l1Rd_device.G8_0 {avs : List AV} {H : List HE} : spec_l1Rd_device.G8 0 avs H = none := by unfold spec_l1Rd_device.G8; split <;> rfl
theorem spec_l1Rd_device.G8_s (k : Nat) {avs : List AV} {H : List HE} {x : List Int × Int × ByteArray × List (Int × ByteArray × ByteArray)} (h : spec_l1Rd_device.G8 (k + 1) avs H = some x) : fromPt Try.prog spec_l1Rd_device.E k spec_l1Rd_device.a (spec_l1Rd_device.G k) 1000 (bodyOf Try.prog 12) 8 avs H = some x := by
  unfold spec_l1Rd_device.G8 at h
  split at h
  · rw [← h]; exact spec_l1Rd_device.eq8 _ _ _ _ _ _
  · cases h
set_option maxRecDepth 100000 in
theorem spec_l1Rd_device.eq25 (k : Nat) (h0_0 : List Int) (h0_1 : Int) (x2_0 : ByteArray) (x3 : ByteArray) (x5_0 : ByteArray) (x5_1 : List (Int × ByteArray × ByteArray)) (x6 : Int) : fromPt Try.prog spec_l1Rd_device.E k spec_l1Rd_device.a (spec_l1Rd_device.G k) 1000 (bodyOf Try.prog 12) 25 [.box 0 0, .box 1 0, .v (.string x3), .box 2 0, .v (.int .i64 x6)] [.box [.con (.int .u8) h0_0, .v (.int .i64 h0_1)], .box [.v (.string x2_0), .v (.slice none 0 0)], .box [.v (.string x5_0), .own 3], .row 34 (.pair (.int .i64) (.pair .str .str)) x5_1] = spec_l1Rd_device.p25 (k + 1) h0_0 h0_1 x2_0 x3 x5_0 x5_1 x6 := by kernel_rfl
theorem spec_l1Rd_device.G25_0 {avs : List AV} {H : List HE} : spec_l1Rd_device.G25 0 avs H = none := by unfold spec_l1Rd_device.G25; split <;> rfl
theorem spec_l1Rd_device.G25_s (k : Nat) {avs : List AV} {H : List HE} {x : List Int × Int × ByteArray × List (Int × ByteArray × ByteArray)} (h : spec_l1Rd_device.G25 (k + 1) avs H = some x) : fromPt Try.prog spec_l1Rd_device.E k spec_l1Rd_device.a (spec_l1Rd_device.G k) 1000 (bodyOf Try.prog 12) 25 avs H = some x := by
  unfold spec_l1Rd_device.G25 at h
  split at h
  · rw [← h]; exact spec_l1Rd_device.eq25 _ _ _ _ _ _ _ _
  · cases h
theorem spec_l1Rd_device.E_ok : EnvOk Try.prog spec_l1Rd_device.E := ⟨⟨spec_l1Rd_below.sound, callable_of (by kernel_rfl)⟩, ⟨spec_l1Zeros.sound, callable_of (by kernel_rfl)⟩, ⟨spec_l1Rd_bytes.sound, callable_of (by kernel_rfl)⟩, ⟨spec_l2With.sound, callable_of (by kernel_rfl)⟩, ⟨spec_l1Rd_size.sound, callable_of (by kernel_rfl)⟩, ⟨spec_l2Fence.sound, callable_of (by kernel_rfl)⟩, ⟨spec_l2Evict.sound, callable_of (by kernel_rfl)⟩, ⟨spec_l2Flush.sound, callable_of (by kernel_rfl)⟩, ⟨spec_l2Store.sound, callable_of (by kernel_rfl)⟩, ⟨spec_l1Rd_hurt.sound, callable_of (by kernel_rfl)⟩, ⟨spec_l1Rd_off.sound, callable_of (by kernel_rfl)⟩, trivial⟩
theorem spec_l1Rd_device.sound : Sound Try.prog 12 spec_l1Rd_device.s := by
  refine func_sound (f := spec_l1Rd_device.a) (G := spec_l1Rd_device.G) (fn := Try.f12) (body := bodyOf Try.prog 12) 1000 (by kernel_rfl) spec_l1Rd_device.E_ok Try.func12 (by kernel_rfl) (by kernel_rfl) (by kernel_rfl) (ptsOk_of (by kernel_rfl)) ?_ ?_ ?_ ?_
  · intro r H x h
    unfold spec_l1Rd_device.a at h
    simp only at h
    split at h
    · cases h; rfl
    · cases h
  · exact fun q avs H => pick1_none spec_l1Rd_device.G8_0 (pick1_none spec_l1Rd_device.G25_0 (rfl))
  · intro k q pt avs H x _ h
    rcases pick1_some h with ⟨rfl, h⟩ | h
    · exact spec_l1Rd_device.G8_s _ h
    rcases pick1_some h with ⟨rfl, h⟩ | h
    · exact spec_l1Rd_device.G25_s _ h
    cases h
  · intro k avs H o h
    try dsimp only at h
    split at h
    · cases h; exact spec_l1Rd_device.eq _ _ _
    · cases h

def spec_l1Rd_keep.a : FnA (List Int × Int × List Int) := ⟨48, [.tmp 4], .con (.int .i64), [.box [.con (.int .u8), .val]], [⟨8, [0, 1, 5, 6], [.box [], .val, .row 2 (.int .i64), .val], [.box [.con (.int .u8), .val]]⟩], fun x H => match x, H with
  | .con (.int .i64) r, [.box [.con (.int .u8) h0_0, .v (.int .i64 h0_1)]] => some (h0_0, h0_1, r)
  | _, _ => none⟩
def spec_l1Rd_keep.s : Spec := mkS [.box [.con (.int .u8), .val], .val] (fun k avs H => match avs, H with
  | [.box 0 0, .v (.int .i64 a1)], [.box [.con (.int .u8) a0_0, .v (.int .i64 a0_1)]] => some (spec_l1Rd_keep.f k a0_0 a0_1 a1)
  | _, _ => none) (fun r => (.con (.int .i64) r.2.2, [.box [.con (.int .u8) r.1, .v (.int .i64 r.2.1)]]))
def spec_l1Rd_keep.E : Env := [((20, []), spec_l1Rd_below.s), ((30, []), spec_l1Rd_off.s)]
def spec_l1Rd_keep.G8 (k : Nat) (avs : List AV) (H : List HE) : Option (List Int × Int × List Int) := match avs, H with
  | [.box 0 0, .v (.int .i64 x1), .own 1, .v (.int .i64 x6)], [.box [.con (.int .u8) h0_0, .v (.int .i64 h0_1)], .row 2 (.int .i64) x5] => spec_l1Rd_keep.p8 k h0_0 h0_1 x1 x5 x6
  | _, _ => none
def spec_l1Rd_keep.G (k p : Nat) (avs : List AV) (H : List HE) : Option (List Int × Int × List Int) := (pick1 8 (spec_l1Rd_keep.G8 k avs H) none p)
set_option maxRecDepth 100000 in
theorem spec_l1Rd_keep.eq (k : Nat) (a0_0 : List Int) (a0_1 : Int) (a1 : Int) : fromTop Try.prog spec_l1Rd_keep.E k spec_l1Rd_keep.a (spec_l1Rd_keep.G k) 1000 (bodyOf Try.prog 13) [.box 0 0, .v (.int .i64 a1)] [.box [.con (.int .u8) a0_0, .v (.int .i64 a0_1)]] = spec_l1Rd_keep.f k a0_0 a0_1 a1 := by kernel_rfl
set_option maxRecDepth 100000 in
theorem spec_l1Rd_keep.eq8 (k : Nat) (h0_0 : List Int) (h0_1 : Int) (x1 : Int) (x5 : List Int) (x6 : Int) : fromPt Try.prog spec_l1Rd_keep.E k spec_l1Rd_keep.a (spec_l1Rd_keep.G k) 1000 (bodyOf Try.prog 13) 8 [.box 0 0, .v (.int .i64 x1), .own 1, .v (.int .i64 x6)] [.box [.con (.int .u8) h0_0, .v (.int .i64 h0_1)], .row 2 (.int .i64) x5] = spec_l1Rd_keep.p8 (k + 1) h0_0 h0_1 x1 x5 x6 := by kernel_rfl
theorem spec_l1Rd_keep.G8_0 {avs : List AV} {H : List HE} : spec_l1Rd_keep.G8 0 avs H = none := by unfold spec_l1Rd_keep.G8; split <;> rfl
theorem spec_l1Rd_keep.G8_s (k : Nat) {avs : List AV} {H : List HE} {x : List Int × Int × List Int} (h : spec_l1Rd_keep.G8 (k + 1) avs H = some x) : fromPt Try.prog spec_l1Rd_keep.E k spec_l1Rd_keep.a (spec_l1Rd_keep.G k) 1000 (bodyOf Try.prog 13) 8 avs H = some x := by
  unfold spec_l1Rd_keep.G8 at h
  split at h
  · rw [← h]; exact spec_l1Rd_keep.eq8 _ _ _ _ _ _
  · cases h
theorem spec_l1Rd_keep.E_ok : EnvOk Try.prog spec_l1Rd_keep.E := ⟨⟨spec_l1Rd_below.sound, callable_of (by kernel_rfl)⟩, ⟨spec_l1Rd_off.sound, callable_of (by kernel_rfl)⟩, trivial⟩
theorem spec_l1Rd_keep.sound : Sound Try.prog 13 spec_l1Rd_keep.s := by
  refine func_sound (f := spec_l1Rd_keep.a) (G := spec_l1Rd_keep.G) (fn := Try.f13) (body := bodyOf Try.prog 13) 1000 (by kernel_rfl) spec_l1Rd_keep.E_ok Try.func13 (by kernel_rfl) (by kernel_rfl) (by kernel_rfl) (ptsOk_of (by kernel_rfl)) ?_ ?_ ?_ ?_
  · intro r H x h
    unfold spec_l1Rd_keep.a at h
    simp only at h
    split at h
    · cases h; rfl
    · cases h
  · exact fun q avs H => pick1_none spec_l1Rd_keep.G8_0 (rfl)
  · intro k q pt avs H x _ h
    rcases pick1_some h with ⟨rfl, h⟩ | h
    · exact spec_l1Rd_keep.G8_s _ h
    cases h
  · intro k avs H o h
    try dsimp only at h
    split at h
    · cases h; exact spec_l1Rd_keep.eq _ _ _ _
    · cases h

def spec_DrawCrash.a : FnA (ByteArray × List (Int × ByteArray × ByteArray) × List Int) := ⟨16, [.cell 2 26, .tmp 3], .tup [.agg [.val, .row 34 (.pair (.int .i64) (.pair .str .str))], .con (.int .i64)], [], [], fun x H => match x, H with
  | .tup [.agg [.v (.string r_0_0), .own 0], .con (.int .i64) r_1], [.row 34 (.pair (.int .i64) (.pair .str .str)) r_0_1] => some (r_0_0, r_0_1, r_1)
  | _, _ => none⟩
def spec_DrawCrash.s : Spec := mkS [.con (.int .u8)] (fun k avs H => match avs, H with
  | [.con (.int .u8) a0], [] => some (spec_DrawCrash.f k a0)
  | _, _ => none) (fun r => (.tup [.agg [.v (.string r.1), .own 0], .con (.int .i64) r.2.2], [.row 34 (.pair (.int .i64) (.pair .str .str)) r.2.1]))
def spec_DrawCrash.E : Env := [((11, []), spec_l1Open.s), ((12, []), spec_l1Rd_device.s), ((13, []), spec_l1Rd_keep.s)]
def spec_DrawCrash.G (k p : Nat) (avs : List AV) (H : List HE) : Option (ByteArray × List (Int × ByteArray × ByteArray) × List Int) := none
set_option maxRecDepth 100000 in
theorem spec_DrawCrash.eq (k : Nat) (a0 : List Int) : fromTop Try.prog spec_DrawCrash.E k spec_DrawCrash.a (spec_DrawCrash.G k) 1000 (bodyOf Try.prog 5) [.con (.int .u8) a0] [] = spec_DrawCrash.f k a0 := by kernel_rfl
theorem spec_DrawCrash.E_ok : EnvOk Try.prog spec_DrawCrash.E := ⟨⟨spec_l1Open.sound, callable_of (by kernel_rfl)⟩, ⟨spec_l1Rd_device.sound, callable_of (by kernel_rfl)⟩, ⟨spec_l1Rd_keep.sound, callable_of (by kernel_rfl)⟩, trivial⟩
theorem spec_DrawCrash.sound : Sound Try.prog 5 spec_DrawCrash.s := by
  refine func_sound (f := spec_DrawCrash.a) (G := spec_DrawCrash.G) (fn := Try.f5) (body := bodyOf Try.prog 5) 1000 (by kernel_rfl) spec_DrawCrash.E_ok Try.func5 (by kernel_rfl) (by kernel_rfl) (by kernel_rfl) (ptsOk_of (by kernel_rfl)) ?_ ?_ ?_ ?_
  · intro r H x h
    unfold spec_DrawCrash.a at h
    simp only at h
    split at h
    · cases h; rfl
    · cases h
  · intro q avs H; rfl
  · intro k q pt avs H x _ h; cases h
  · intro k avs H o h
    try dsimp only at h
    split at h
    · cases h; exact spec_DrawCrash.eq _ _
    · cases h

def impl_within.a : FnA (Bool) := ⟨15, [.tmp 6], .bool, [], [], fun x H => match x, H with
  | .bs false r, [] => some r
  | _, _ => none⟩
def impl_within.s : Spec := mkS [.val, .val, .val] (fun k avs H => match avs, H with
  | [.v (.int .i64 a0), .v (.int .i64 a1), .v (.int .i64 a2)], [] => some (impl_within.f a0 a1 a2)
  | _, _ => none) (fun r => (.bs false r, []))
def impl_within.E : Env := []
def impl_within.G (k p : Nat) (avs : List AV) (H : List HE) : Option (Bool) := none
set_option maxRecDepth 100000 in
theorem impl_within.eq (k : Nat) (a0 : Int) (a1 : Int) (a2 : Int) : fromTop Try.prog impl_within.E k impl_within.a (impl_within.G k) 1000 (bodyOf Try.prog 31) [.v (.int .i64 a0), .v (.int .i64 a1), .v (.int .i64 a2)] [] = impl_within.f a0 a1 a2 := by kernel_rfl
theorem impl_within.E_ok : EnvOk Try.prog impl_within.E := trivial
theorem impl_within.sound : Sound Try.prog 31 impl_within.s := by
  refine func_sound (f := impl_within.a) (G := impl_within.G) (fn := Try.f31) (body := bodyOf Try.prog 31) 1000 (by kernel_rfl) impl_within.E_ok Try.func31 (by kernel_rfl) (by kernel_rfl) (by kernel_rfl) (ptsOk_of (by kernel_rfl)) ?_ ?_ ?_ ?_
  · intro r H x h
    unfold impl_within.a at h
    simp only at h
    split at h
    · cases h; rfl
    · cases h
  · intro q avs H; rfl
  · intro k q pt avs H x _ h; cases h
  · intro k avs H o h
    try dsimp only at h
    split at h
    · cases h; exact impl_within.eq _ _ _ _
    · cases h

def _impl_Device_has.a : FnA (Bool) := ⟨12, [.tmp 4], .bool, [], [], fun x H => match x, H with
  | .bs false r, [] => some r
  | _, _ => none⟩
def _impl_Device_has.s : Spec := mkS [.agg [.val, .con (.pair (.int .i64) (.pair .str .str))], .val] (fun k avs H => match avs, H with
  | [.agg [.v (.string a0_0), .con (.pair (.int .i64) (.pair .str .str)) a0_1], .v (.int .i64 a1)], [] => some (_impl_Device_has.f a0_0 a0_1 a1)
  | _, _ => none) (fun r => (.bs false r, []))
def _impl_Device_has.E : Env := [((31, []), impl_within.s)]
def _impl_Device_has.G (k p : Nat) (avs : List AV) (H : List HE) : Option (Bool) := none
set_option maxRecDepth 100000 in
theorem _impl_Device_has.eq (k : Nat) (a0_0 : ByteArray) (a0_1 : List (Int × ByteArray × ByteArray)) (a1 : Int) : fromTop Try.prog _impl_Device_has.E k _impl_Device_has.a (_impl_Device_has.G k) 1000 (bodyOf Try.prog 32) [.agg [.v (.string a0_0), .con (.pair (.int .i64) (.pair .str .str)) a0_1], .v (.int .i64 a1)] [] = _impl_Device_has.f a0_0 a0_1 a1 := by kernel_rfl
theorem _impl_Device_has.E_ok : EnvOk Try.prog _impl_Device_has.E := ⟨⟨impl_within.sound, callable_of (by kernel_rfl)⟩, trivial⟩
theorem _impl_Device_has.sound : Sound Try.prog 32 _impl_Device_has.s := by
  refine func_sound (f := _impl_Device_has.a) (G := _impl_Device_has.G) (fn := Try.f32) (body := bodyOf Try.prog 32) 1000 (by kernel_rfl) _impl_Device_has.E_ok Try.func32 (by kernel_rfl) (by kernel_rfl) (by kernel_rfl) (ptsOk_of (by kernel_rfl)) ?_ ?_ ?_ ?_
  · intro r H x h
    unfold _impl_Device_has.a at h
    simp only at h
    split at h
    · cases h; rfl
    · cases h
  · intro q avs H; rfl
  · intro k q pt avs H x _ h; cases h
  · intro k avs H o h
    try dsimp only at h
    split at h
    · cases h; exact _impl_Device_has.eq _ _ _ _
    · cases h

def impl_DeviceOk.a : FnA (Bool) := ⟨65, [.tmp 2], .bool, [], [⟨14, [1, 19, 20, 21], [.box [.val, .con (.pair (.int .i64) (.pair .str .str))], .con (.pair (.int .i64) (.pair .str .str)), .val, .val], []⟩], fun x H => match x, H with
  | .bs false r, [] => some r
  | _, _ => none⟩
def impl_DeviceOk.s : Spec := mkS [.agg [.val, .con (.pair (.int .i64) (.pair .str .str))]] (fun k avs H => match avs, H with
  | [.agg [.v (.string a0_0), .con (.pair (.int .i64) (.pair .str .str)) a0_1]], [] => some (impl_DeviceOk.f k a0_0 a0_1)
  | _, _ => none) (fun r => (.bs false r, []))
def impl_DeviceOk.E : Env := [((31, []), impl_within.s), ((32, []), _impl_Device_has.s)]
def impl_DeviceOk.G14 (k : Nat) (avs : List AV) (H : List HE) : Option (Bool) := match avs, H with
  | [.box 0 0, .con (.pair (.int .i64) (.pair .str .str)) x19, .v (.int .i64 x20), .v (.int .i64 x21)], [.box [.v (.string x1_0), .con (.pair (.int .i64) (.pair .str .str)) x1_1]] => impl_DeviceOk.p14 k x1_0 x1_1 x19 x20 x21
  | _, _ => none
def impl_DeviceOk.G (k p : Nat) (avs : List AV) (H : List HE) : Option (Bool) := (pick1 14 (impl_DeviceOk.G14 k avs H) none p)
set_option maxRecDepth 100000 in
theorem impl_DeviceOk.eq (k : Nat) (a0_0 : ByteArray) (a0_1 : List (Int × ByteArray × ByteArray)) : fromTop Try.prog impl_DeviceOk.E k impl_DeviceOk.a (impl_DeviceOk.G k) 1000 (bodyOf Try.prog 14) [.agg [.v (.string a0_0), .con (.pair (.int .i64) (.pair .str .str)) a0_1]] [] = impl_DeviceOk.f k a0_0 a0_1 := by kernel_rfl
set_option maxRecDepth 100000 in
theorem impl_DeviceOk.eq14 (k : Nat) (x1_0 : ByteArray) (x1_1 : List (Int × ByteArray × ByteArray)) (x19 : List (Int × ByteArray × ByteArray)) (x20 : Int) (x21 : Int) : fromPt Try.prog impl_DeviceOk.E k impl_DeviceOk.a (impl_DeviceOk.G k) 1000 (bodyOf Try.prog 14) 14 [.box 0 0, .con (.pair (.int .i64) (.pair .str .str)) x19, .v (.int .i64 x20), .v (.int .i64 x21)] [.box [.v (.string x1_0), .con (.pair (.int .i64) (.pair .str .str)) x1_1]] = impl_DeviceOk.p14 (k + 1) x1_0 x1_1 x19 x20 x21 := by kernel_rfl
theorem impl_DeviceOk.G14_0 {avs : List AV} {H : List HE} : impl_DeviceOk.G14 0 avs H = none := by unfold impl_DeviceOk.G14; split <;> rfl
theorem impl_DeviceOk.G14_s (k : Nat) {avs : List AV} {H : List HE} {x : Bool} (h : impl_DeviceOk.G14 (k + 1) avs H = some x) : fromPt Try.prog impl_DeviceOk.E k impl_DeviceOk.a (impl_DeviceOk.G k) 1000 (bodyOf Try.prog 14) 14 avs H = some x := by
  unfold impl_DeviceOk.G14 at h
  split at h
  · rw [← h]; exact impl_DeviceOk.eq14 _ _ _ _ _ _
  · cases h
theorem impl_DeviceOk.E_ok : EnvOk Try.prog impl_DeviceOk.E := ⟨⟨impl_within.sound, callable_of (by kernel_rfl)⟩, ⟨_impl_Device_has.sound, callable_of (by kernel_rfl)⟩, trivial⟩
theorem impl_DeviceOk.sound : Sound Try.prog 14 impl_DeviceOk.s := by
  refine func_sound (f := impl_DeviceOk.a) (G := impl_DeviceOk.G) (fn := Try.f14) (body := bodyOf Try.prog 14) 1000 (by kernel_rfl) impl_DeviceOk.E_ok Try.func14 (by kernel_rfl) (by kernel_rfl) (by kernel_rfl) (ptsOk_of (by kernel_rfl)) ?_ ?_ ?_ ?_
  · intro r H x h
    unfold impl_DeviceOk.a at h
    simp only at h
    split at h
    · cases h; rfl
    · cases h
  · exact fun q avs H => pick1_none impl_DeviceOk.G14_0 (rfl)
  · intro k q pt avs H x _ h
    rcases pick1_some h with ⟨rfl, h⟩ | h
    · exact impl_DeviceOk.G14_s _ h
    cases h
  · intro k avs H o h
    try dsimp only at h
    split at h
    · cases h; exact impl_DeviceOk.eq _ _ _
    · cases h

def impl_replaced.a : FnA (ByteArray) := ⟨19, [.tmp 6], .val, [], [], fun x H => match x, H with
  | .v (.string r), [] => some r
  | _, _ => none⟩
def impl_replaced.s : Spec := mkS [.val, .val, .val] (fun k avs H => match avs, H with
  | [.v (.string a0), .v (.int .i64 a1), .v (.string a2)], [] => some (impl_replaced.f a0 a1 a2)
  | _, _ => none) (fun r => (.v (.string r), []))
def impl_replaced.E : Env := []
def impl_replaced.G (k p : Nat) (avs : List AV) (H : List HE) : Option (ByteArray) := none
set_option maxRecDepth 100000 in
theorem impl_replaced.eq (k : Nat) (a0 : ByteArray) (a1 : Int) (a2 : ByteArray) : fromTop Try.prog impl_replaced.E k impl_replaced.a (impl_replaced.G k) 1000 (bodyOf Try.prog 15) [.v (.string a0), .v (.int .i64 a1), .v (.string a2)] [] = impl_replaced.f a0 a1 a2 := by kernel_rfl
theorem impl_replaced.E_ok : EnvOk Try.prog impl_replaced.E := trivial
theorem impl_replaced.sound : Sound Try.prog 15 impl_replaced.s := by
  refine func_sound (f := impl_replaced.a) (G := impl_replaced.G) (fn := Try.f15) (body := bodyOf Try.prog 15) 1000 (by kernel_rfl) impl_replaced.E_ok Try.func15 (by kernel_rfl) (by kernel_rfl) (by kernel_rfl) (ptsOk_of (by kernel_rfl)) ?_ ?_ ?_ ?_
  · intro r H x h
    unfold impl_replaced.a at h
    simp only at h
    split at h
    · cases h; rfl
    · cases h
  · intro q avs H; rfl
  · intro k q pt avs H x _ h; cases h
  · intro k avs H o h
    try dsimp only at h
    split at h
    · cases h; exact impl_replaced.eq _ _ _ _
    · cases h

def impl_Crash.a : FnA (ByteArray) := ⟨65, [.cell 4 26], .agg [.val, .val], [], [⟨16, [1, 4, 5, 16, 17, 18], [.con (.int .i64), .box [.val, .val], .box [.val, .val], .con (.pair (.int .i64) (.pair .str .str)), .val, .val], []⟩, ⟨38, [1, 4, 5, 7, 16, 17, 18, 43], [.con (.int .i64), .box [.val, .val], .box [.val, .val], .box [.val, .val, .val], .con (.pair (.int .i64) (.pair .str .str)), .val, .val, .bool], []⟩], fun x H => match x, H with
  | .agg [.v (.string r_0), .v (.slice none 0 0)], [] => some r_0
  | _, _ => none⟩
def impl_Crash.s : Spec := mkS [.agg [.val, .con (.pair (.int .i64) (.pair .str .str))], .con (.int .i64)] (fun k avs H => match avs, H with
  | [.agg [.v (.string a0_0), .con (.pair (.int .i64) (.pair .str .str)) a0_1], .con (.int .i64) a1], [] => some (impl_Crash.f k a0_0 a0_1 a1)
  | _, _ => none) (fun r => (.agg [.v (.string r), .v (.slice none 0 0)], []))
def impl_Crash.E : Env := [((14, []), impl_DeviceOk.s), ((15, []), impl_replaced.s)]
def impl_Crash.G16 (k : Nat) (avs : List AV) (H : List HE) : Option (ByteArray) := match avs, H with
  | [.con (.int .i64) x1, .box 0 0, .box 1 0, .con (.pair (.int .i64) (.pair .str .str)) x16, .v (.int .i64 x17), .v (.int .i64 x18)], [.box [.v (.string x4_0), .v (.slice none 0 0)], .box [.v (.string x5_0), .v (.slice none 0 0)]] => impl_Crash.p16 k x1 x4_0 x5_0 x16 x17 x18
  | _, _ => none
def impl_Crash.G38 (k : Nat) (avs : List AV) (H : List HE) : Option (ByteArray) := match avs, H with
  | [.con (.int .i64) x1, .box 0 0, .box 1 0, .box 2 0, .con (.pair (.int .i64) (.pair .str .str)) x16, .v (.int .i64 x17), .v (.int .i64 x18), .bs false x43], [.box [.v (.string x4_0), .v (.slice none 0 0)], .box [.v (.string x5_0), .v (.slice none 0 0)], .box [.v (.int .i64 x7_0), .v (.string x7_1), .v (.string x7_2)]] => impl_Crash.p38 k x1 x4_0 x5_0 x7_0 x7_1 x7_2 x16 x17 x18 x43
  | _, _ => none
def impl_Crash.G (k p : Nat) (avs : List AV) (H : List HE) : Option (ByteArray) := (pick1 16 (impl_Crash.G16 k avs H) (pick1 38 (impl_Crash.G38 k avs H) none p) p)
set_option maxRecDepth 100000 in
theorem impl_Crash.eq (k : Nat) (a0_0 : ByteArray) (a0_1 : List (Int × ByteArray × ByteArray)) (a1 : List Int) : fromTop Try.prog impl_Crash.E k impl_Crash.a (impl_Crash.G k) 1000 (bodyOf Try.prog 6) [.agg [.v (.string a0_0), .con (.pair (.int .i64) (.pair .str .str)) a0_1], .con (.int .i64) a1] [] = impl_Crash.f k a0_0 a0_1 a1 := by kernel_rfl
set_option maxRecDepth 100000 in
theorem impl_Crash.eq16 (k : Nat) (x1 : List Int) (x4_0 : ByteArray) (x5_0 : ByteArray) (x16 : List (Int × ByteArray × ByteArray)) (x17 : Int) (x18 : Int) : fromPt Try.prog impl_Crash.E k impl_Crash.a (impl_Crash.G k) 1000 (bodyOf Try.prog 6) 16 [.con (.int .i64) x1, .box 0 0, .box 1 0, .con (.pair (.int .i64) (.pair .str .str)) x16, .v (.int .i64 x17), .v (.int .i64 x18)] [.box [.v (.string x4_0), .v (.slice none 0 0)], .box [.v (.string x5_0), .v (.slice none 0 0)]] = impl_Crash.p16 (k + 1) x1 x4_0 x5_0 x16 x17 x18 := by kernel_rfl
theorem impl_Crash.G16_0 {avs : List AV} {H : List HE} : impl_Crash.G16 0 avs H = none := by unfold impl_Crash.G16; split <;> rfl
theorem impl_Crash.G16_s (k : Nat) {avs : List AV} {H : List HE} {x : ByteArray} (h : impl_Crash.G16 (k + 1) avs H = some x) : fromPt Try.prog impl_Crash.E k impl_Crash.a (impl_Crash.G k) 1000 (bodyOf Try.prog 6) 16 avs H = some x := by
  unfold impl_Crash.G16 at h
  split at h
  · rw [← h]; exact impl_Crash.eq16 _ _ _ _ _ _ _
  · cases h
set_option maxRecDepth 100000 in
theorem impl_Crash.eq38 (k : Nat) (x1 : List Int) (x4_0 : ByteArray) (x5_0 : ByteArray) (x7_0 : Int) (x7_1 : ByteArray) (x7_2 : ByteArray) (x16 : List (Int × ByteArray × ByteArray)) (x17 : Int) (x18 : Int) (x43 : Bool) : fromPt Try.prog impl_Crash.E k impl_Crash.a (impl_Crash.G k) 1000 (bodyOf Try.prog 6) 38 [.con (.int .i64) x1, .box 0 0, .box 1 0, .box 2 0, .con (.pair (.int .i64) (.pair .str .str)) x16, .v (.int .i64 x17), .v (.int .i64 x18), .bs false x43] [.box [.v (.string x4_0), .v (.slice none 0 0)], .box [.v (.string x5_0), .v (.slice none 0 0)], .box [.v (.int .i64 x7_0), .v (.string x7_1), .v (.string x7_2)]] = impl_Crash.p38 (k + 1) x1 x4_0 x5_0 x7_0 x7_1 x7_2 x16 x17 x18 x43 := by kernel_rfl
theorem impl_Crash.G38_0 {avs : List AV} {H : List HE} : impl_Crash.G38 0 avs H = none := by unfold impl_Crash.G38; split <;> rfl
theorem impl_Crash.G38_s (k : Nat) {avs : List AV} {H : List HE} {x : ByteArray} (h : impl_Crash.G38 (k + 1) avs H = some x) : fromPt Try.prog impl_Crash.E k impl_Crash.a (impl_Crash.G k) 1000 (bodyOf Try.prog 6) 38 avs H = some x := by
  unfold impl_Crash.G38 at h
  split at h
  · rw [← h]; exact impl_Crash.eq38 _ _ _ _ _ _ _ _ _ _ _
  · cases h
theorem impl_Crash.E_ok : EnvOk Try.prog impl_Crash.E := ⟨⟨impl_DeviceOk.sound, callable_of (by kernel_rfl)⟩, ⟨impl_replaced.sound, callable_of (by kernel_rfl)⟩, trivial⟩
theorem impl_Crash.sound : Sound Try.prog 6 impl_Crash.s := by
  refine func_sound (f := impl_Crash.a) (G := impl_Crash.G) (fn := Try.f6) (body := bodyOf Try.prog 6) 1000 (by kernel_rfl) impl_Crash.E_ok Try.func6 (by kernel_rfl) (by kernel_rfl) (by kernel_rfl) (ptsOk_of (by kernel_rfl)) ?_ ?_ ?_ ?_
  · intro r H x h
    unfold impl_Crash.a at h
    simp only at h
    split at h
    · cases h; rfl
    · cases h
  · exact fun q avs H => pick1_none impl_Crash.G16_0 (pick1_none impl_Crash.G38_0 (rfl))
  · intro k q pt avs H x _ h
    rcases pick1_some h with ⟨rfl, h⟩ | h
    · exact impl_Crash.G16_s _ h
    rcases pick1_some h with ⟨rfl, h⟩ | h
    · exact impl_Crash.G38_s _ h
    cases h
  · intro k avs H o h
    try dsimp only at h
    split at h
    · cases h; exact impl_Crash.eq _ _ _ _
    · cases h

def spec_l2Count.a : FnA (Int) := ⟨7, [.tmp 2], .val, [], [], fun x H => match x, H with
  | .v (.int .i64 r), [] => some r
  | _, _ => none⟩
def spec_l2Count.s : Spec := mkS [.agg [.val, .con (.pair (.int .i64) (.pair .str .str))]] (fun k avs H => match avs, H with
  | [.agg [.v (.string a0_0), .con (.pair (.int .i64) (.pair .str .str)) a0_1]], [] => some (spec_l2Count.f a0_0 a0_1)
  | _, _ => none) (fun r => (.v (.int .i64 r), []))
def spec_l2Count.E : Env := []
def spec_l2Count.G (k p : Nat) (avs : List AV) (H : List HE) : Option (Int) := none
set_option maxRecDepth 100000 in
theorem spec_l2Count.eq (k : Nat) (a0_0 : ByteArray) (a0_1 : List (Int × ByteArray × ByteArray)) : fromTop Try.prog spec_l2Count.E k spec_l2Count.a (spec_l2Count.G k) 1000 (bodyOf Try.prog 18) [.agg [.v (.string a0_0), .con (.pair (.int .i64) (.pair .str .str)) a0_1]] [] = spec_l2Count.f a0_0 a0_1 := by kernel_rfl
theorem spec_l2Count.E_ok : EnvOk Try.prog spec_l2Count.E := trivial
theorem spec_l2Count.sound : Sound Try.prog 18 spec_l2Count.s := by
  refine func_sound (f := spec_l2Count.a) (G := spec_l2Count.G) (fn := Try.f18) (body := bodyOf Try.prog 18) 1000 (by kernel_rfl) spec_l2Count.E_ok Try.func18 (by kernel_rfl) (by kernel_rfl) (by kernel_rfl) (ptsOk_of (by kernel_rfl)) ?_ ?_ ?_ ?_
  · intro r H x h
    unfold spec_l2Count.a at h
    simp only at h
    split at h
    · cases h; rfl
    · cases h
  · intro q avs H; rfl
  · intro k q pt avs H x _ h; cases h
  · intro k avs H o h
    try dsimp only at h
    split at h
    · cases h; exact spec_l2Count.eq _ _ _
    · cases h

def spec_l1In.a : FnA (Bool) := ⟨15, [.tmp 6], .bool, [], [], fun x H => match x, H with
  | .bs false r, [] => some r
  | _, _ => none⟩
def spec_l1In.s : Spec := mkS [.val, .val, .val] (fun k avs H => match avs, H with
  | [.v (.int .i64 a0), .v (.int .i64 a1), .v (.int .i64 a2)], [] => some (spec_l1In.f a0 a1 a2)
  | _, _ => none) (fun r => (.bs false r, []))
def spec_l1In.E : Env := []
def spec_l1In.G (k p : Nat) (avs : List AV) (H : List HE) : Option (Bool) := none
set_option maxRecDepth 100000 in
theorem spec_l1In.eq (k : Nat) (a0 : Int) (a1 : Int) (a2 : Int) : fromTop Try.prog spec_l1In.E k spec_l1In.a (spec_l1In.G k) 1000 (bodyOf Try.prog 17) [.v (.int .i64 a0), .v (.int .i64 a1), .v (.int .i64 a2)] [] = spec_l1In.f a0 a1 a2 := by kernel_rfl
theorem spec_l1In.E_ok : EnvOk Try.prog spec_l1In.E := trivial
theorem spec_l1In.sound : Sound Try.prog 17 spec_l1In.s := by
  refine func_sound (f := spec_l1In.a) (G := spec_l1In.G) (fn := Try.f17) (body := bodyOf Try.prog 17) 1000 (by kernel_rfl) spec_l1In.E_ok Try.func17 (by kernel_rfl) (by kernel_rfl) (by kernel_rfl) (ptsOk_of (by kernel_rfl)) ?_ ?_ ?_ ?_
  · intro r H x h
    unfold spec_l1In.a at h
    simp only at h
    split at h
    · cases h; rfl
    · cases h
  · intro q avs H; rfl
  · intro k q pt avs H x _ h; cases h
  · intro k avs H o h
    try dsimp only at h
    split at h
    · cases h; exact spec_l1In.eq _ _ _ _
    · cases h

def spec_DeviceOk.a : FnA (Bool) := ⟨68, [.tmp 2], .bool, [], [⟨14, [1, 3], [.box [.val, .con (.pair (.int .i64) (.pair .str .str))], .val], []⟩], fun x H => match x, H with
  | .bs false r, [] => some r
  | _, _ => none⟩
def spec_DeviceOk.s : Spec := mkS [.agg [.val, .con (.pair (.int .i64) (.pair .str .str))]] (fun k avs H => match avs, H with
  | [.agg [.v (.string a0_0), .con (.pair (.int .i64) (.pair .str .str)) a0_1]], [] => some (spec_DeviceOk.f k a0_0 a0_1)
  | _, _ => none) (fun r => (.bs false r, []))
def spec_DeviceOk.E : Env := [((18, []), spec_l2Count.s), ((17, []), spec_l1In.s)]
def spec_DeviceOk.G14 (k : Nat) (avs : List AV) (H : List HE) : Option (Bool) := match avs, H with
  | [.box 0 0, .v (.int .i64 x3)], [.box [.v (.string x1_0), .con (.pair (.int .i64) (.pair .str .str)) x1_1]] => spec_DeviceOk.p14 k x1_0 x1_1 x3
  | _, _ => none
def spec_DeviceOk.G (k p : Nat) (avs : List AV) (H : List HE) : Option (Bool) := (pick1 14 (spec_DeviceOk.G14 k avs H) none p)
set_option maxRecDepth 100000 in
theorem spec_DeviceOk.eq (k : Nat) (a0_0 : ByteArray) (a0_1 : List (Int × ByteArray × ByteArray)) : fromTop Try.prog spec_DeviceOk.E k spec_DeviceOk.a (spec_DeviceOk.G k) 1000 (bodyOf Try.prog 9) [.agg [.v (.string a0_0), .con (.pair (.int .i64) (.pair .str .str)) a0_1]] [] = spec_DeviceOk.f k a0_0 a0_1 := by kernel_rfl
set_option maxRecDepth 100000 in
theorem spec_DeviceOk.eq14 (k : Nat) (x1_0 : ByteArray) (x1_1 : List (Int × ByteArray × ByteArray)) (x3 : Int) : fromPt Try.prog spec_DeviceOk.E k spec_DeviceOk.a (spec_DeviceOk.G k) 1000 (bodyOf Try.prog 9) 14 [.box 0 0, .v (.int .i64 x3)] [.box [.v (.string x1_0), .con (.pair (.int .i64) (.pair .str .str)) x1_1]] = spec_DeviceOk.p14 (k + 1) x1_0 x1_1 x3 := by kernel_rfl
theorem spec_DeviceOk.G14_0 {avs : List AV} {H : List HE} : spec_DeviceOk.G14 0 avs H = none := by unfold spec_DeviceOk.G14; split <;> rfl
theorem spec_DeviceOk.G14_s (k : Nat) {avs : List AV} {H : List HE} {x : Bool} (h : spec_DeviceOk.G14 (k + 1) avs H = some x) : fromPt Try.prog spec_DeviceOk.E k spec_DeviceOk.a (spec_DeviceOk.G k) 1000 (bodyOf Try.prog 9) 14 avs H = some x := by
  unfold spec_DeviceOk.G14 at h
  split at h
  · rw [← h]; exact spec_DeviceOk.eq14 _ _ _ _
  · cases h
theorem spec_DeviceOk.E_ok : EnvOk Try.prog spec_DeviceOk.E := ⟨⟨spec_l2Count.sound, callable_of (by kernel_rfl)⟩, ⟨spec_l1In.sound, callable_of (by kernel_rfl)⟩, trivial⟩
theorem spec_DeviceOk.sound : Sound Try.prog 9 spec_DeviceOk.s := by
  refine func_sound (f := spec_DeviceOk.a) (G := spec_DeviceOk.G) (fn := Try.f9) (body := bodyOf Try.prog 9) 1000 (by kernel_rfl) spec_DeviceOk.E_ok Try.func9 (by kernel_rfl) (by kernel_rfl) (by kernel_rfl) (ptsOk_of (by kernel_rfl)) ?_ ?_ ?_ ?_
  · intro r H x h
    unfold spec_DeviceOk.a at h
    simp only at h
    split at h
    · cases h; rfl
    · cases h
  · exact fun q avs H => pick1_none spec_DeviceOk.G14_0 (rfl)
  · intro k q pt avs H x _ h
    rcases pick1_some h with ⟨rfl, h⟩ | h
    · exact spec_DeviceOk.G14_s _ h
    cases h
  · intro k avs H o h
    try dsimp only at h
    split at h
    · cases h; exact spec_DeviceOk.eq _ _ _
    · cases h

def spec_l2Crash.a : FnA (ByteArray) := ⟨56, [.cell 4 26], .agg [.val, .val], [], [⟨8, [1, 2, 4, 5, 6], [.con (.int .i64), .box [.val, .con (.pair (.int .i64) (.pair .str .str))], .box [.val, .val], .row 0 .bool, .val], []⟩, ⟨12, [1, 2, 4, 5, 6, 21], [.con (.int .i64), .box [.val, .con (.pair (.int .i64) (.pair .str .str))], .box [.val, .val], .row 0 .bool, .val, .bool], []⟩], fun x H => match x, H with
  | .agg [.v (.string r_0), .v (.slice none 0 0)], [] => some r_0
  | _, _ => none⟩
def spec_l2Crash.s : Spec := mkS [.agg [.val, .con (.pair (.int .i64) (.pair .str .str))], .con (.int .i64)] (fun k avs H => match avs, H with
  | [.agg [.v (.string a0_0), .con (.pair (.int .i64) (.pair .str .str)) a0_1], .con (.int .i64) a1], [] => some (spec_l2Crash.f k a0_0 a0_1 a1)
  | _, _ => none) (fun r => (.agg [.v (.string r), .v (.slice none 0 0)], []))
def spec_l2Crash.E : Env := []
def spec_l2Crash.G8 (k : Nat) (avs : List AV) (H : List HE) : Option (ByteArray) := match avs, H with
  | [.con (.int .i64) x1, .box 0 0, .box 1 0, .own 2, .v (.int .i64 x6)], [.box [.v (.string x2_0), .con (.pair (.int .i64) (.pair .str .str)) x2_1], .box [.v (.string x4_0), .v (.slice none 0 0)], .bts x5] => spec_l2Crash.p8 k x1 x2_0 x2_1 x4_0 x5 x6
  | _, _ => none
def spec_l2Crash.G12 (k : Nat) (avs : List AV) (H : List HE) : Option (ByteArray) := match avs, H with
  | [.con (.int .i64) x1, .box 0 0, .box 1 0, .own 2, .v (.int .i64 x6), .bs false x21], [.box [.v (.string x2_0), .con (.pair (.int .i64) (.pair .str .str)) x2_1], .box [.v (.string x4_0), .v (.slice none 0 0)], .bts x5] => spec_l2Crash.p12 k x1 x2_0 x2_1 x4_0 x5 x6 x21
  | _, _ => none
def spec_l2Crash.G (k p : Nat) (avs : List AV) (H : List HE) : Option (ByteArray) := (pick1 8 (spec_l2Crash.G8 k avs H) (pick1 12 (spec_l2Crash.G12 k avs H) none p) p)
set_option maxRecDepth 100000 in
theorem spec_l2Crash.eq (k : Nat) (a0_0 : ByteArray) (a0_1 : List (Int × ByteArray × ByteArray)) (a1 : List Int) : fromTop Try.prog spec_l2Crash.E k spec_l2Crash.a (spec_l2Crash.G k) 1000 (bodyOf Try.prog 16) [.agg [.v (.string a0_0), .con (.pair (.int .i64) (.pair .str .str)) a0_1], .con (.int .i64) a1] [] = spec_l2Crash.f k a0_0 a0_1 a1 := by kernel_rfl
set_option maxRecDepth 100000 in
theorem spec_l2Crash.eq8 (k : Nat) (x1 : List Int) (x2_0 : ByteArray) (x2_1 : List (Int × ByteArray × ByteArray)) (x4_0 : ByteArray) (x5 : List Int) (x6 : Int) : fromPt Try.prog spec_l2Crash.E k spec_l2Crash.a (spec_l2Crash.G k) 1000 (bodyOf Try.prog 16) 8 [.con (.int .i64) x1, .box 0 0, .box 1 0, .own 2, .v (.int .i64 x6)] [.box [.v (.string x2_0), .con (.pair (.int .i64) (.pair .str .str)) x2_1], .box [.v (.string x4_0), .v (.slice none 0 0)], .bts x5] = spec_l2Crash.p8 (k + 1) x1 x2_0 x2_1 x4_0 x5 x6 := by kernel_rfl
theorem spec_l2Crash.G8_0 {avs : List AV} {H : List HE} : spec_l2Crash.G8 0 avs H = none := by unfold spec_l2Crash.G8; split <;> rfl
theorem spec_l2Crash.G8_s (k : Nat) {avs : List AV} {H : List HE} {x : ByteArray} (h : spec_l2Crash.G8 (k + 1) avs H = some x) : fromPt Try.prog spec_l2Crash.E k spec_l2Crash.a (spec_l2Crash.G k) 1000 (bodyOf Try.prog 16) 8 avs H = some x := by
  unfold spec_l2Crash.G8 at h
  split at h
  · rw [← h]; exact spec_l2Crash.eq8 _ _ _ _ _ _ _
  · cases h
set_option maxRecDepth 100000 in
theorem spec_l2Crash.eq12 (k : Nat) (x1 : List Int) (x2_0 : ByteArray) (x2_1 : List (Int × ByteArray × ByteArray)) (x4_0 : ByteArray) (x5 : List Int) (x6 : Int) (x21 : Bool) : fromPt Try.prog spec_l2Crash.E k spec_l2Crash.a (spec_l2Crash.G k) 1000 (bodyOf Try.prog 16) 12 [.con (.int .i64) x1, .box 0 0, .box 1 0, .own 2, .v (.int .i64 x6), .bs false x21] [.box [.v (.string x2_0), .con (.pair (.int .i64) (.pair .str .str)) x2_1], .box [.v (.string x4_0), .v (.slice none 0 0)], .bts x5] = spec_l2Crash.p12 (k + 1) x1 x2_0 x2_1 x4_0 x5 x6 x21 := by kernel_rfl
theorem spec_l2Crash.G12_0 {avs : List AV} {H : List HE} : spec_l2Crash.G12 0 avs H = none := by unfold spec_l2Crash.G12; split <;> rfl
theorem spec_l2Crash.G12_s (k : Nat) {avs : List AV} {H : List HE} {x : ByteArray} (h : spec_l2Crash.G12 (k + 1) avs H = some x) : fromPt Try.prog spec_l2Crash.E k spec_l2Crash.a (spec_l2Crash.G k) 1000 (bodyOf Try.prog 16) 12 avs H = some x := by
  unfold spec_l2Crash.G12 at h
  split at h
  · rw [← h]; exact spec_l2Crash.eq12 _ _ _ _ _ _ _ _
  · cases h
theorem spec_l2Crash.E_ok : EnvOk Try.prog spec_l2Crash.E := trivial
theorem spec_l2Crash.sound : Sound Try.prog 16 spec_l2Crash.s := by
  refine func_sound (f := spec_l2Crash.a) (G := spec_l2Crash.G) (fn := Try.f16) (body := bodyOf Try.prog 16) 1000 (by kernel_rfl) spec_l2Crash.E_ok Try.func16 (by kernel_rfl) (by kernel_rfl) (by kernel_rfl) (ptsOk_of (by kernel_rfl)) ?_ ?_ ?_ ?_
  · intro r H x h
    unfold spec_l2Crash.a at h
    simp only at h
    split at h
    · cases h; rfl
    · cases h
  · exact fun q avs H => pick1_none spec_l2Crash.G8_0 (pick1_none spec_l2Crash.G12_0 (rfl))
  · intro k q pt avs H x _ h
    rcases pick1_some h with ⟨rfl, h⟩ | h
    · exact spec_l2Crash.G8_s _ h
    rcases pick1_some h with ⟨rfl, h⟩ | h
    · exact spec_l2Crash.G12_s _ h
    cases h
  · intro k avs H o h
    try dsimp only at h
    split at h
    · cases h; exact spec_l2Crash.eq _ _ _ _
    · cases h

def spec_Crash.a : FnA (ByteArray) := ⟨12, [.cell 4 26], .agg [.val, .val], [], [], fun x H => match x, H with
  | .agg [.v (.string r_0), .v (.slice none 0 0)], [] => some r_0
  | _, _ => none⟩
def spec_Crash.s : Spec := mkS [.agg [.val, .con (.pair (.int .i64) (.pair .str .str))], .con (.int .i64)] (fun k avs H => match avs, H with
  | [.agg [.v (.string a0_0), .con (.pair (.int .i64) (.pair .str .str)) a0_1], .con (.int .i64) a1], [] => some (spec_Crash.f k a0_0 a0_1 a1)
  | _, _ => none) (fun r => (.agg [.v (.string r), .v (.slice none 0 0)], []))
def spec_Crash.E : Env := [((9, []), spec_DeviceOk.s), ((16, []), spec_l2Crash.s)]
def spec_Crash.G (k p : Nat) (avs : List AV) (H : List HE) : Option (ByteArray) := none
set_option maxRecDepth 100000 in
theorem spec_Crash.eq (k : Nat) (a0_0 : ByteArray) (a0_1 : List (Int × ByteArray × ByteArray)) (a1 : List Int) : fromTop Try.prog spec_Crash.E k spec_Crash.a (spec_Crash.G k) 1000 (bodyOf Try.prog 8) [.agg [.v (.string a0_0), .con (.pair (.int .i64) (.pair .str .str)) a0_1], .con (.int .i64) a1] [] = spec_Crash.f k a0_0 a0_1 a1 := by kernel_rfl
theorem spec_Crash.E_ok : EnvOk Try.prog spec_Crash.E := ⟨⟨spec_DeviceOk.sound, callable_of (by kernel_rfl)⟩, ⟨spec_l2Crash.sound, callable_of (by kernel_rfl)⟩, trivial⟩
theorem spec_Crash.sound : Sound Try.prog 8 spec_Crash.s := by
  refine func_sound (f := spec_Crash.a) (G := spec_Crash.G) (fn := Try.f8) (body := bodyOf Try.prog 8) 1000 (by kernel_rfl) spec_Crash.E_ok Try.func8 (by kernel_rfl) (by kernel_rfl) (by kernel_rfl) (ptsOk_of (by kernel_rfl)) ?_ ?_ ?_ ?_
  · intro r H x h
    unfold spec_Crash.a at h
    simp only at h
    split at h
    · cases h; rfl
    · cases h
  · intro q avs H; rfl
  · intro k q pt avs H x _ h; cases h
  · intro k avs H o h
    try dsimp only at h
    split at h
    · cases h; exact spec_Crash.eq _ _ _ _
    · cases h

def laws_sameDev.a : FnA (Bool) := ⟨38, [.tmp 4], .bool, [], [⟨14, [2, 3, 5], [.box [.val, .con (.pair (.int .i64) (.pair .str .str))], .box [.val, .con (.pair (.int .i64) (.pair .str .str))], .val], []⟩], fun x H => match x, H with
  | .bs false r, [] => some r
  | _, _ => none⟩
def laws_sameDev.s : Spec := mkS [.agg [.val, .con (.pair (.int .i64) (.pair .str .str))], .agg [.val, .con (.pair (.int .i64) (.pair .str .str))]] (fun k avs H => match avs, H with
  | [.agg [.v (.string a0_0), .con (.pair (.int .i64) (.pair .str .str)) a0_1], .agg [.v (.string a1_0), .con (.pair (.int .i64) (.pair .str .str)) a1_1]], [] => some (laws_sameDev.f k a0_0 a0_1 a1_0 a1_1)
  | _, _ => none) (fun r => (.bs false r, []))
def laws_sameDev.E : Env := []
def laws_sameDev.G14 (k : Nat) (avs : List AV) (H : List HE) : Option (Bool) := match avs, H with
  | [.box 0 0, .box 1 0, .v (.int .i64 x5)], [.box [.v (.string x2_0), .con (.pair (.int .i64) (.pair .str .str)) x2_1], .box [.v (.string x3_0), .con (.pair (.int .i64) (.pair .str .str)) x3_1]] => laws_sameDev.p14 k x2_0 x2_1 x3_0 x3_1 x5
  | _, _ => none
def laws_sameDev.G (k p : Nat) (avs : List AV) (H : List HE) : Option (Bool) := (pick1 14 (laws_sameDev.G14 k avs H) none p)
set_option maxRecDepth 100000 in
theorem laws_sameDev.eq (k : Nat) (a0_0 : ByteArray) (a0_1 : List (Int × ByteArray × ByteArray)) (a1_0 : ByteArray) (a1_1 : List (Int × ByteArray × ByteArray)) : fromTop Try.prog laws_sameDev.E k laws_sameDev.a (laws_sameDev.G k) 1000 (bodyOf Try.prog 7) [.agg [.v (.string a0_0), .con (.pair (.int .i64) (.pair .str .str)) a0_1], .agg [.v (.string a1_0), .con (.pair (.int .i64) (.pair .str .str)) a1_1]] [] = laws_sameDev.f k a0_0 a0_1 a1_0 a1_1 := by kernel_rfl
set_option maxRecDepth 100000 in
theorem laws_sameDev.eq14 (k : Nat) (x2_0 : ByteArray) (x2_1 : List (Int × ByteArray × ByteArray)) (x3_0 : ByteArray) (x3_1 : List (Int × ByteArray × ByteArray)) (x5 : Int) : fromPt Try.prog laws_sameDev.E k laws_sameDev.a (laws_sameDev.G k) 1000 (bodyOf Try.prog 7) 14 [.box 0 0, .box 1 0, .v (.int .i64 x5)] [.box [.v (.string x2_0), .con (.pair (.int .i64) (.pair .str .str)) x2_1], .box [.v (.string x3_0), .con (.pair (.int .i64) (.pair .str .str)) x3_1]] = laws_sameDev.p14 (k + 1) x2_0 x2_1 x3_0 x3_1 x5 := by kernel_rfl
theorem laws_sameDev.G14_0 {avs : List AV} {H : List HE} : laws_sameDev.G14 0 avs H = none := by unfold laws_sameDev.G14; split <;> rfl
theorem laws_sameDev.G14_s (k : Nat) {avs : List AV} {H : List HE} {x : Bool} (h : laws_sameDev.G14 (k + 1) avs H = some x) : fromPt Try.prog laws_sameDev.E k laws_sameDev.a (laws_sameDev.G k) 1000 (bodyOf Try.prog 7) 14 avs H = some x := by
  unfold laws_sameDev.G14 at h
  split at h
  · rw [← h]; exact laws_sameDev.eq14 _ _ _ _ _ _
  · cases h
theorem laws_sameDev.E_ok : EnvOk Try.prog laws_sameDev.E := trivial
theorem laws_sameDev.sound : Sound Try.prog 7 laws_sameDev.s := by
  refine func_sound (f := laws_sameDev.a) (G := laws_sameDev.G) (fn := Try.f7) (body := bodyOf Try.prog 7) 1000 (by kernel_rfl) laws_sameDev.E_ok Try.func7 (by kernel_rfl) (by kernel_rfl) (by kernel_rfl) (ptsOk_of (by kernel_rfl)) ?_ ?_ ?_ ?_
  · intro r H x h
    unfold laws_sameDev.a at h
    simp only at h
    split at h
    · cases h; rfl
    · cases h
  · exact fun q avs H => pick1_none laws_sameDev.G14_0 (rfl)
  · intro k q pt avs H x _ h
    rcases pick1_some h with ⟨rfl, h⟩ | h
    · exact laws_sameDev.G14_s _ h
    cases h
  · intro k avs H o h
    try dsimp only at h
    split at h
    · cases h; exact laws_sameDev.eq _ _ _ _ _
    · cases h

def cmp_isNaN_int64.a : FnA (Bool) := ⟨6, [.tmp 2], .bool, [], [], fun x H => match x, H with
  | .bs false r, [] => some r
  | _, _ => none⟩
def cmp_isNaN_int64.s : Spec := mkS [.val] (fun k avs H => match avs, H with
  | [.v (.int .i64 a0)], [] => some (cmp_isNaN_int64.f a0)
  | _, _ => none) (fun r => (.bs false r, []))
def cmp_isNaN_int64.E : Env := []
def cmp_isNaN_int64.G (k p : Nat) (avs : List AV) (H : List HE) : Option (Bool) := none
set_option maxRecDepth 100000 in
theorem cmp_isNaN_int64.eq (k : Nat) (a0 : Int) : fromTop Try.prog cmp_isNaN_int64.E k cmp_isNaN_int64.a (cmp_isNaN_int64.G k) 1000 (bodyOf Try.prog 48) [.v (.int .i64 a0)] [] = cmp_isNaN_int64.f a0 := by kernel_rfl
theorem cmp_isNaN_int64.E_ok : EnvOk Try.prog cmp_isNaN_int64.E := trivial
theorem cmp_isNaN_int64.sound : Sound Try.prog 48 cmp_isNaN_int64.s := by
  refine func_sound (f := cmp_isNaN_int64.a) (G := cmp_isNaN_int64.G) (fn := Try.f48) (body := bodyOf Try.prog 48) 1000 (by kernel_rfl) cmp_isNaN_int64.E_ok Try.func48 (by kernel_rfl) (by kernel_rfl) (by kernel_rfl) (ptsOk_of (by kernel_rfl)) ?_ ?_ ?_ ?_
  · intro r H x h
    unfold cmp_isNaN_int64.a at h
    simp only at h
    split at h
    · cases h; rfl
    · cases h
  · intro q avs H; rfl
  · intro k q pt avs H x _ h; cases h
  · intro k avs H o h
    try dsimp only at h
    split at h
    · cases h; exact cmp_isNaN_int64.eq _ _
    · cases h

def cmp_Compare_int64.a : FnA (Int) := ⟨20, [.tmp 4], .val, [], [], fun x H => match x, H with
  | .v (.int .i64 r), [] => some r
  | _, _ => none⟩
def cmp_Compare_int64.s : Spec := mkS [.val, .val] (fun k avs H => match avs, H with
  | [.v (.int .i64 a0), .v (.int .i64 a1)], [] => some (cmp_Compare_int64.f a0 a1)
  | _, _ => none) (fun r => (.v (.int .i64 r), []))
def cmp_Compare_int64.E : Env := [((48, []), cmp_isNaN_int64.s)]
def cmp_Compare_int64.G (k p : Nat) (avs : List AV) (H : List HE) : Option (Int) := none
set_option maxRecDepth 100000 in
theorem cmp_Compare_int64.eq (k : Nat) (a0 : Int) (a1 : Int) : fromTop Try.prog cmp_Compare_int64.E k cmp_Compare_int64.a (cmp_Compare_int64.G k) 1000 (bodyOf Try.prog 47) [.v (.int .i64 a0), .v (.int .i64 a1)] [] = cmp_Compare_int64.f a0 a1 := by kernel_rfl
theorem cmp_Compare_int64.E_ok : EnvOk Try.prog cmp_Compare_int64.E := ⟨⟨cmp_isNaN_int64.sound, callable_of (by kernel_rfl)⟩, trivial⟩
theorem cmp_Compare_int64.sound : Sound Try.prog 47 cmp_Compare_int64.s := by
  refine func_sound (f := cmp_Compare_int64.a) (G := cmp_Compare_int64.G) (fn := Try.f47) (body := bodyOf Try.prog 47) 1000 (by kernel_rfl) cmp_Compare_int64.E_ok Try.func47 (by kernel_rfl) (by kernel_rfl) (by kernel_rfl) (ptsOk_of (by kernel_rfl)) ?_ ?_ ?_ ?_
  · intro r H x h
    unfold cmp_Compare_int64.a at h
    simp only at h
    split at h
    · cases h; rfl
    · cases h
  · intro q avs H; rfl
  · intro k q pt avs H x _ h; cases h
  · intro k avs H o h
    try dsimp only at h
    split at h
    · cases h; exact cmp_Compare_int64.eq _ _ _
    · cases h

def _impl_Device_find_1.a : FnA (Int) := ⟨9, [.tmp 4], .val, [], [], fun x H => match x, H with
  | .v (.int .i64 r), [] => some r
  | _, _ => none⟩
def _impl_Device_find_1.s : Spec := mkS [.agg [.val, .val, .val], .val] (fun k avs H => match avs, H with
  | [.agg [.v (.int .i64 a0_0), .v (.string a0_1), .v (.string a0_2)], .v (.int .i64 a1)], [] => some (_impl_Device_find_1.f a0_0 a0_1 a0_2 a1)
  | _, _ => none) (fun r => (.v (.int .i64 r), []))
def _impl_Device_find_1.E : Env := [((47, []), cmp_Compare_int64.s)]
def _impl_Device_find_1.G (k p : Nat) (avs : List AV) (H : List HE) : Option (Int) := none
set_option maxRecDepth 100000 in
theorem _impl_Device_find_1.eq (k : Nat) (a0_0 : Int) (a0_1 : ByteArray) (a0_2 : ByteArray) (a1 : Int) : fromTop Try.prog _impl_Device_find_1.E k _impl_Device_find_1.a (_impl_Device_find_1.G k) 1000 (bodyOf Try.prog 46) [.agg [.v (.int .i64 a0_0), .v (.string a0_1), .v (.string a0_2)], .v (.int .i64 a1)] [] = _impl_Device_find_1.f a0_0 a0_1 a0_2 a1 := by kernel_rfl
theorem _impl_Device_find_1.E_ok : EnvOk Try.prog _impl_Device_find_1.E := ⟨⟨cmp_Compare_int64.sound, callable_of (by kernel_rfl)⟩, trivial⟩
theorem _impl_Device_find_1.sound : Sound Try.prog 46 _impl_Device_find_1.s := by
  refine func_sound (f := _impl_Device_find_1.a) (G := _impl_Device_find_1.G) (fn := Try.f46) (body := bodyOf Try.prog 46) 1000 (by kernel_rfl) _impl_Device_find_1.E_ok Try.func46 (by kernel_rfl) (by kernel_rfl) (by kernel_rfl) (ptsOk_of (by kernel_rfl)) ?_ ?_ ?_ ?_
  · intro r H x h
    unfold _impl_Device_find_1.a at h
    simp only at h
    split at h
    · cases h; rfl
    · cases h
  · intro q avs H; rfl
  · intro k q pt avs H x _ h; cases h
  · intro k avs H o h
    try dsimp only at h
    split at h
    · cases h; exact _impl_Device_find_1.eq _ _ _ _ _
    · cases h

def slices_BinarySearchFunc_int64_at__impl_Device_find_1.a : FnA (Int × Bool) := ⟨49, [.tmp 6, .tmp 7], .tup [.val, .bool], [], [⟨8, [0, 1, 2, 8, 9, 10], [.con (.pair (.int .i64) (.pair .str .str)), .val, .fn 46 0 [], .val, .val, .val], []⟩], fun x H => match x, H with
  | .tup [.v (.int .i64 r_0), .bs false r_1], [] => some (r_0, r_1)
  | _, _ => none⟩
def slices_BinarySearchFunc_int64_at__impl_Device_find_1.s : Spec := mkS [.con (.pair (.int .i64) (.pair .str .str)), .val, .fn 46 0 []] (fun k avs H => match avs, H with
  | [.con (.pair (.int .i64) (.pair .str .str)) a0, .v (.int .i64 a1), .fn 46 0 []], [] => some (slices_BinarySearchFunc_int64_at__impl_Device_find_1.f k a0 a1)
  | _, _ => none) (fun r => (.tup [.v (.int .i64 r.1), .bs false r.2], []))
def slices_BinarySearchFunc_int64_at__impl_Device_find_1.E : Env := [((46, []), _impl_Device_find_1.s)]
def slices_BinarySearchFunc_int64_at__impl_Device_find_1.G8 (k : Nat) (avs : List AV) (H : List HE) : Option (Int × Bool) := match avs, H with
  | [.con (.pair (.int .i64) (.pair .str .str)) x0, .v (.int .i64 x1), .fn 46 0 [], .v (.int .i64 x8), .v (.int .i64 x9), .v (.int .i64 x10)], [] => slices_BinarySearchFunc_int64_at__impl_Device_find_1.p8 k x0 x1 x8 x9 x10
  | _, _ => none
def slices_BinarySearchFunc_int64_at__impl_Device_find_1.G (k p : Nat) (avs : List AV) (H : List HE) : Option (Int × Bool) := (pick1 8 (slices_BinarySearchFunc_int64_at__impl_Device_find_1.G8 k avs H) none p)
set_option maxRecDepth 100000 in
theorem slices_BinarySearchFunc_int64_at__impl_Device_find_1.eq (k : Nat) (a0 : List (Int × ByteArray × ByteArray)) (a1 : Int) : fromTop Try.prog slices_BinarySearchFunc_int64_at__impl_Device_find_1.E k slices_BinarySearchFunc_int64_at__impl_Device_find_1.a (slices_BinarySearchFunc_int64_at__impl_Device_find_1.G k) 1000 (bodyOf Try.prog 45) [.con (.pair (.int .i64) (.pair .str .str)) a0, .v (.int .i64 a1), .fn 46 0 []] [] = slices_BinarySearchFunc_int64_at__impl_Device_find_1.f k a0 a1 := by kernel_rfl
set_option maxRecDepth 100000 in
theorem slices_BinarySearchFunc_int64_at__impl_Device_find_1.eq8 (k : Nat) (x0 : List (Int × ByteArray × ByteArray)) (x1 : Int) (x8 : Int) (x9 : Int) (x10 : Int) : fromPt Try.prog slices_BinarySearchFunc_int64_at__impl_Device_find_1.E k slices_BinarySearchFunc_int64_at__impl_Device_find_1.a (slices_BinarySearchFunc_int64_at__impl_Device_find_1.G k) 1000 (bodyOf Try.prog 45) 8 [.con (.pair (.int .i64) (.pair .str .str)) x0, .v (.int .i64 x1), .fn 46 0 [], .v (.int .i64 x8), .v (.int .i64 x9), .v (.int .i64 x10)] [] = slices_BinarySearchFunc_int64_at__impl_Device_find_1.p8 (k + 1) x0 x1 x8 x9 x10 := by kernel_rfl
theorem slices_BinarySearchFunc_int64_at__impl_Device_find_1.G8_0 {avs : List AV} {H : List HE} : slices_BinarySearchFunc_int64_at__impl_Device_find_1.G8 0 avs H = none := by unfold slices_BinarySearchFunc_int64_at__impl_Device_find_1.G8; split <;> rfl
theorem slices_BinarySearchFunc_int64_at__impl_Device_find_1.G8_s (k : Nat) {avs : List AV} {H : List HE} {x : Int × Bool} (h : slices_BinarySearchFunc_int64_at__impl_Device_find_1.G8 (k + 1) avs H = some x) : fromPt Try.prog slices_BinarySearchFunc_int64_at__impl_Device_find_1.E k slices_BinarySearchFunc_int64_at__impl_Device_find_1.a (slices_BinarySearchFunc_int64_at__impl_Device_find_1.G k) 1000 (bodyOf Try.prog 45) 8 avs H = some x := by
  unfold slices_BinarySearchFunc_int64_at__impl_Device_find_1.G8 at h
  split at h
  · rw [← h]; exact slices_BinarySearchFunc_int64_at__impl_Device_find_1.eq8 _ _ _ _ _ _
  · cases h
theorem slices_BinarySearchFunc_int64_at__impl_Device_find_1.E_ok : EnvOk Try.prog slices_BinarySearchFunc_int64_at__impl_Device_find_1.E := ⟨⟨_impl_Device_find_1.sound, callable_of (by kernel_rfl)⟩, trivial⟩
theorem slices_BinarySearchFunc_int64_at__impl_Device_find_1.sound : Sound Try.prog 45 slices_BinarySearchFunc_int64_at__impl_Device_find_1.s := by
  refine func_sound (f := slices_BinarySearchFunc_int64_at__impl_Device_find_1.a) (G := slices_BinarySearchFunc_int64_at__impl_Device_find_1.G) (fn := Try.f45) (body := bodyOf Try.prog 45) 1000 (by kernel_rfl) slices_BinarySearchFunc_int64_at__impl_Device_find_1.E_ok Try.func45 (by kernel_rfl) (by kernel_rfl) (by kernel_rfl) (ptsOk_of (by kernel_rfl)) ?_ ?_ ?_ ?_
  · intro r H x h
    unfold slices_BinarySearchFunc_int64_at__impl_Device_find_1.a at h
    simp only at h
    split at h
    · cases h; rfl
    · cases h
  · exact fun q avs H => pick1_none slices_BinarySearchFunc_int64_at__impl_Device_find_1.G8_0 (rfl)
  · intro k q pt avs H x _ h
    rcases pick1_some h with ⟨rfl, h⟩ | h
    · exact slices_BinarySearchFunc_int64_at__impl_Device_find_1.G8_s _ h
    cases h
  · intro k avs H o h
    try dsimp only at h
    split at h
    · cases h; exact slices_BinarySearchFunc_int64_at__impl_Device_find_1.eq _ _ _
    · cases h

def _impl_Device_find.a : FnA (Int × Bool) := ⟨12, [.tmp 4, .tmp 5], .tup [.val, .bool], [], [], fun x H => match x, H with
  | .tup [.v (.int .i64 r_0), .bs false r_1], [] => some (r_0, r_1)
  | _, _ => none⟩
def _impl_Device_find.s : Spec := mkS [.agg [.val, .con (.pair (.int .i64) (.pair .str .str))], .val] (fun k avs H => match avs, H with
  | [.agg [.v (.string a0_0), .con (.pair (.int .i64) (.pair .str .str)) a0_1], .v (.int .i64 a1)], [] => some (_impl_Device_find.f k a0_0 a0_1 a1)
  | _, _ => none) (fun r => (.tup [.v (.int .i64 r.1), .bs false r.2], []))
def _impl_Device_find.E : Env := [((45, [46]), slices_BinarySearchFunc_int64_at__impl_Device_find_1.s)]
def _impl_Device_find.G (k p : Nat) (avs : List AV) (H : List HE) : Option (Int × Bool) := none
set_option maxRecDepth 100000 in
theorem _impl_Device_find.eq (k : Nat) (a0_0 : ByteArray) (a0_1 : List (Int × ByteArray × ByteArray)) (a1 : Int) : fromTop Try.prog _impl_Device_find.E k _impl_Device_find.a (_impl_Device_find.G k) 1000 (bodyOf Try.prog 41) [.agg [.v (.string a0_0), .con (.pair (.int .i64) (.pair .str .str)) a0_1], .v (.int .i64 a1)] [] = _impl_Device_find.f k a0_0 a0_1 a1 := by kernel_rfl
theorem _impl_Device_find.E_ok : EnvOk Try.prog _impl_Device_find.E := ⟨⟨slices_BinarySearchFunc_int64_at__impl_Device_find_1.sound, callable_of (by kernel_rfl)⟩, trivial⟩
theorem _impl_Device_find.sound : Sound Try.prog 41 _impl_Device_find.s := by
  refine func_sound (f := _impl_Device_find.a) (G := _impl_Device_find.G) (fn := Try.f41) (body := bodyOf Try.prog 41) 1000 (by kernel_rfl) _impl_Device_find.E_ok Try.func41 (by kernel_rfl) (by kernel_rfl) (by kernel_rfl) (ptsOk_of (by kernel_rfl)) ?_ ?_ ?_ ?_
  · intro r H x h
    unfold _impl_Device_find.a at h
    simp only at h
    split at h
    · cases h; rfl
    · cases h
  · intro q avs H; rfl
  · intro k q pt avs H x _ h; cases h
  · intro k avs H o h
    try dsimp only at h
    split at h
    · cases h; exact _impl_Device_find.eq _ _ _ _
    · cases h

def _impl_Device_safeLine.a : FnA (ByteArray) := ⟨13, [.tmp 4], .val, [], [], fun x H => match x, H with
  | .v (.string r), [] => some r
  | _, _ => none⟩
def _impl_Device_safeLine.s : Spec := mkS [.agg [.val, .con (.pair (.int .i64) (.pair .str .str))], .val] (fun k avs H => match avs, H with
  | [.agg [.v (.string a0_0), .con (.pair (.int .i64) (.pair .str .str)) a0_1], .v (.int .i64 a1)], [] => some (_impl_Device_safeLine.f a0_0 a0_1 a1)
  | _, _ => none) (fun r => (.v (.string r), []))
def _impl_Device_safeLine.E : Env := []
def _impl_Device_safeLine.G (k p : Nat) (avs : List AV) (H : List HE) : Option (ByteArray) := none
set_option maxRecDepth 100000 in
theorem _impl_Device_safeLine.eq (k : Nat) (a0_0 : ByteArray) (a0_1 : List (Int × ByteArray × ByteArray)) (a1 : Int) : fromTop Try.prog _impl_Device_safeLine.E k _impl_Device_safeLine.a (_impl_Device_safeLine.G k) 1000 (bodyOf Try.prog 42) [.agg [.v (.string a0_0), .con (.pair (.int .i64) (.pair .str .str)) a0_1], .v (.int .i64 a1)] [] = _impl_Device_safeLine.f a0_0 a0_1 a1 := by kernel_rfl
theorem _impl_Device_safeLine.E_ok : EnvOk Try.prog _impl_Device_safeLine.E := trivial
theorem _impl_Device_safeLine.sound : Sound Try.prog 42 _impl_Device_safeLine.s := by
  refine func_sound (f := _impl_Device_safeLine.a) (G := _impl_Device_safeLine.G) (fn := Try.f42) (body := bodyOf Try.prog 42) 1000 (by kernel_rfl) _impl_Device_safeLine.E_ok Try.func42 (by kernel_rfl) (by kernel_rfl) (by kernel_rfl) (ptsOk_of (by kernel_rfl)) ?_ ?_ ?_ ?_
  · intro r H x h
    unfold _impl_Device_safeLine.a at h
    simp only at h
    split at h
    · cases h; rfl
    · cases h
  · intro q avs H; rfl
  · intro k q pt avs H x _ h; cases h
  · intro k avs H o h
    try dsimp only at h
    split at h
    · cases h; exact _impl_Device_safeLine.eq _ _ _ _
    · cases h

def _impl_Device_seenLine.a : FnA (ByteArray) := ⟨23, [.tmp 4], .val, [], [], fun x H => match x, H with
  | .v (.string r), [] => some r
  | _, _ => none⟩
def _impl_Device_seenLine.s : Spec := mkS [.agg [.val, .con (.pair (.int .i64) (.pair .str .str))], .val] (fun k avs H => match avs, H with
  | [.agg [.v (.string a0_0), .con (.pair (.int .i64) (.pair .str .str)) a0_1], .v (.int .i64 a1)], [] => some (_impl_Device_seenLine.f k a0_0 a0_1 a1)
  | _, _ => none) (fun r => (.v (.string r), []))
def _impl_Device_seenLine.E : Env := [((41, []), _impl_Device_find.s), ((42, []), _impl_Device_safeLine.s)]
def _impl_Device_seenLine.G (k p : Nat) (avs : List AV) (H : List HE) : Option (ByteArray) := none
set_option maxRecDepth 100000 in
theorem _impl_Device_seenLine.eq (k : Nat) (a0_0 : ByteArray) (a0_1 : List (Int × ByteArray × ByteArray)) (a1 : Int) : fromTop Try.prog _impl_Device_seenLine.E k _impl_Device_seenLine.a (_impl_Device_seenLine.G k) 1000 (bodyOf Try.prog 34) [.agg [.v (.string a0_0), .con (.pair (.int .i64) (.pair .str .str)) a0_1], .v (.int .i64 a1)] [] = _impl_Device_seenLine.f k a0_0 a0_1 a1 := by kernel_rfl
theorem _impl_Device_seenLine.E_ok : EnvOk Try.prog _impl_Device_seenLine.E := ⟨⟨_impl_Device_find.sound, callable_of (by kernel_rfl)⟩, ⟨_impl_Device_safeLine.sound, callable_of (by kernel_rfl)⟩, trivial⟩
theorem _impl_Device_seenLine.sound : Sound Try.prog 34 _impl_Device_seenLine.s := by
  refine func_sound (f := _impl_Device_seenLine.a) (G := _impl_Device_seenLine.G) (fn := Try.f34) (body := bodyOf Try.prog 34) 1000 (by kernel_rfl) _impl_Device_seenLine.E_ok Try.func34 (by kernel_rfl) (by kernel_rfl) (by kernel_rfl) (ptsOk_of (by kernel_rfl)) ?_ ?_ ?_ ?_
  · intro r H x h
    unfold _impl_Device_seenLine.a at h
    simp only at h
    split at h
    · cases h; rfl
    · cases h
  · intro q avs H; rfl
  · intro k q pt avs H x _ h; cases h
  · intro k avs H o h
    try dsimp only at h
    split at h
    · cases h; exact _impl_Device_seenLine.eq _ _ _ _
    · cases h

def strings_Builder_WriteString.s : Spec := mkS [.bld 58 (.row 5 (.int .u8)), .val] (fun _ avs H => match avs, H with
  | [.box 0 0, .v (.string a1)], [.bld 58 (.own 1), .row 5 (.int .u8) a0] => some (strings_Builder_WriteString.f a0 a1)
  | _, _ => none) (writeX 58 5)
set_option maxHeartbeats 1000000 in
set_option maxRecDepth 100000 in
theorem strings_Builder_WriteString.used (b : Nat) (w : World) (h0 : w.cell? ⟨b, 0, none⟩ = some (.pointer (some ⟨b, 0, none⟩))) :
    Calls Try.prog 40 #[.pointer (some ⟨b, 0, none⟩)] w fun e w' => e = .returned (.tuple #[]) ∧ w' = w := by
  obtain ⟨j, hj, _⟩ := Option.map_eq_some_iff.1 (show (Try.prog.info? 58).map (·.size) = some 2 by kernel_rfl)
  have mixed : Try.prog.follows .mixedOrders = true := by kernel_rfl
  go_enter Try.func40, Try.ntmps40
  go_wp2
  rw [Lib.run_neq_ptr_same w _ Try.underlying56 hj]
  go_wp2
  go_end0
  exact ⟨rfl, rfl⟩
set_option maxHeartbeats 1000000 in
set_option maxRecDepth 100000 in
theorem strings_Builder_WriteString.fresh (b : Nat) (w : World) (h0 : w.cell? ⟨b, 0, none⟩ = some (.pointer none)) (hsh : w.shape? b = some (58, 2)) (hfz : w.frozen? ⟨b, 0, none⟩ = false) :
    Calls Try.prog 40 #[.pointer (some ⟨b, 0, none⟩)] w fun e w' => e = .returned (.tuple #[]) ∧ w' = w.setCell ⟨b, 0, none⟩ (.pointer (some ⟨b, 0, none⟩)) := by
  obtain ⟨j, hj, hjs⟩ := Option.map_eq_some_iff.1 (show (Try.prog.info? 58).map (·.size) = some 2 by kernel_rfl)
  have mixed : Try.prog.follows .mixedOrders = true := by kernel_rfl
  go_enter Try.func40, Try.ntmps40
  go_wp2
  rw [Lib.run_to_unsafe w ⟨b, 0, none⟩ Try.underlying56 Try.underlying72 hj (by rw [hjs]; decide) hsh (Nat.zero_lt_succ 1)]
  simp only [Result.andThen]
  rw [Oper.upon_value]
  go_wp2
  rw [run_callFunc_extern Try.func44 (by kernel_rfl) (by kernel_rfl) (by kernel_rfl) (e := Extern.AbiNoEscape.same) (by kernel_rfl)]
  rw [Lib.run_noEscape]
  simp only [Result.andThen]
  rw [Oper.upon_value]
  go_wp2
  rw [Lib.run_from_unsafe w ⟨b, 0, none⟩ Try.underlying72 Try.underlying56 hj hsh (by kernel_rfl)]
  simp only [Result.andThen]
  rw [Oper.upon_value]
  go_wp2
  go_end0
  exact ⟨rfl, rfl⟩
theorem strings_Builder_WriteString.check (b : Nat) (p v : Value) (w : World) (hb : w.heap[b]? = some (.cells #[p, v] 58 (0, 0))) (hp : p = .pointer none ∨ p = .pointer (some ⟨b, 0, none⟩)) :
    Calls Try.prog 40 #[.pointer (some ⟨b, 0, none⟩)] w fun e w' => e = .returned (.tuple #[]) ∧ w'.heap[b]? = some (.cells #[.pointer (some ⟨b, 0, none⟩), v] 58 (0, 0)) ∧ Off (fun x => x = b) w w' := by
  have c0 : w.cell? ⟨b, 0, none⟩ = some p := by rw [Lib.cell_of_heap hb]; rfl
  rcases hp with rfl | rfl
  · refine (strings_Builder_WriteString.fresh b w c0 (by simp [World.shape?, hb]) (by simp [World.frozen?, hb])).mono ?_
    rintro e w' ⟨rfl, rfl⟩
    refine ⟨rfl, ?_, ⟨rfl, rfl, rfl, by rw [setCell_size]; exact Nat.le_refl _, fun k _ hk => setCell_other _ _ _ _ hk⟩⟩
    have := Z.blk_set hb 0 (.pointer (some ⟨b, 0, none⟩))
    simpa using this
  · refine (strings_Builder_WriteString.used b w c0).mono ?_
    rintro e w' ⟨rfl, rfl⟩
    exact ⟨rfl, hb, Off.refl _ _⟩
set_option maxHeartbeats 2000000 in
set_option maxRecDepth 100000 in
theorem strings_Builder_WriteString.calls (b : Nat) (p v : Value) (n : Nat) (xs : List Value) (s : ByteArray) (w : World) (hb : w.heap[b]? = some (.cells #[p, v] 58 (0, 0))) (hp : p = .pointer none ∨ p = .pointer (some ⟨b, 0, none⟩)) (hown : w.ownsRow 0 5 1 v n xs) (hne : v.ownBlock ≠ some b) (hlen : n + s.size ≤ 140737488355328) :
    Calls Try.prog 33 #[.pointer (some ⟨b, 0, none⟩), .string s] w fun en w' => en = .returned (.tuple #[.int .i64 s.size, .nilIface]) ∧ ∃ v', w'.heap[b]? = some (.cells #[.pointer (some ⟨b, 0, none⟩), v'] 58 (0, 0)) ∧ w'.ownsRow 0 5 1 v' (n + s.size) (xs ++ Lib.strCells s) ∧ Off (fun x => x = b ∨ v.ownBlock = some x) w w' ∧ (v'.ownBlock = v.ownBlock ∨ ∀ g, v'.ownBlock = some g → w.heap.size ≤ g) := by
  obtain ⟨i0, hi, hz0, hz1, hz2⟩ : ∃ i0, Try.prog.info? 5 = some i0 ∧ i0.zero = some (.int .u8 0) ∧ i0.size = 1 ∧ i0.bytes = 1 := by
    have h := show (Try.prog.info? 5).map (fun i => (i.zero, i.size, i.bytes)) = some (some (.int .u8 0), 1, 1) by kernel_rfl
    rw [Option.map_eq_some_iff] at h
    obtain ⟨i0, h1, h2⟩ := h
    simp only [Prod.mk.injEq] at h2
    exact ⟨i0, h1, h2.1, h2.2.1, h2.2.2⟩
  have mixed : Try.prog.follows .mixedOrders = true := by kernel_rfl
  have hchk := strings_Builder_WriteString.check b p v w hb hp
  have hlt0 : b < w.heap.size := (Array.getElem?_eq_some_iff.1 hb).1
  have echk : ∀ args w, (callFunc 40 args).run Try.prog w = .ok (.enter 40 args) w := enters_of Try.func40 (by kernel_rfl) rfl
  go_enter Try.func33, Try.ntmps33
  go_wp2_with (go_at_fn 40; refine hchk.mono ?_)
  rintro e w1 ⟨rfl, h1, ho1⟩
  have hown1 : w1.ownsRow 0 5 1 v n xs := own_kept hown fun g hg hlt => ho1.block g hlt (fun e => by
    subst e
    rcases hown.2 with ⟨q, _⟩ | ⟨g2, cap, cur, q, _⟩
    · rw [q] at hg; cases hg
    · rw [q] at hg hne; exact hne hg)
  have c1 : w1.cell? ⟨b, 1, none⟩ = some v := by rw [Lib.cell_of_heap h1]; rfl
  have hlt : b < w1.heap.size := (Array.getElem?_eq_some_iff.1 h1).1
  go_wp2_with (at_builtin; refine wpList_append_str rfl _ _ 22 9 rfl 5 i0 Try.underlying22 Try.underlying9 hi hz0 hz1 hz2 _ _ _ rfl hown1 s rfl hlen ?_)
  intro v' w2 hown' hgrow hat
  have hb2 : w2.heap[b]? = some (.cells #[.pointer (some ⟨b, 0, none⟩), v] 58 (0, 0)) := by
    rw [hgrow.block b hlt (fun e => hne e.symm)]
    exact h1
  have d1 : w2.cell? ⟨b, 1, none⟩ = some v := by rw [Lib.cell_of_heap hb2]; rfl
  have f1 : w2.frozen? ⟨b, 1, none⟩ = false := Lib.frozen_of_heap hb2 1
  obtain ⟨ao, n', cap, rfl⟩ : ∃ ao n' cap, v' = .slice ao n' cap := by
    rcases hown'.2 with ⟨hv, _⟩ | ⟨g, cap, cur, hv, _⟩
    · exact ⟨_, _, _, hv⟩
    · exact ⟨_, _, _, hv⟩
  go_wp2
  go_ret2
  refine ⟨rfl, .slice ao n' cap, ?_, ?_, ?_, ?_⟩
  · have := Z.blk_set hb2 1 (.slice ao n' cap)
    simpa using this
  · refine own_kept hown' fun g hg hlt2 => setCell_other _ _ _ _ (fun e => ?_)
    have e : g = b := e
    subst e
    rcases hat with h4 | h4
    · have h5 : (Value.slice ao n' cap).ownBlock = some g := by
        cases ao with
        | none => cases hg
        | some a => simpa [blk, Value.ownBlock] using hg
      rw [h4] at h5
      exact hne h5
    · have h5 : (Value.slice ao n' cap).ownBlock = some g := by
        cases ao with
        | none => cases hg
        | some a => simpa [blk, Value.ownBlock] using hg
      have := h4 g h5
      omega
  · refine ((ho1.mono (N := fun x => x = b ∨ v.ownBlock = some x) fun _ _ h => .inl h).trans ((Off.grown hgrow).mono (N := fun x => x = b ∨ v.ownBlock = some x) fun _ _ h => .inr h) fun _ _ h => h).trans (N := fun x => x = b) ⟨rfl, rfl, rfl, by rw [setCell_size]; exact Nat.le_refl _, fun k _ hk => setCell_other _ _ _ _ hk⟩ fun _ _ h => .inl h
  · exact hat.imp id fun h g hg => Nat.le_trans ho1.size (h g hg)
theorem strings_Builder_WriteString.sound : Sound Try.prog 33 strings_Builder_WriteString.s := by
  refine sound_write (T := 58) (e := 5) ?_ strings_Builder_WriteString.calls
  intro k avs H o x h hx
  split at h
  case h_2 => cases h
  rename_i a1 a0
  cases h
  unfold strings_Builder_WriteString.f at hx
  split at hx
  case isFalse => cases hx
  rename_i h0
  cases hx
  exact ⟨a0, a1, rfl, rfl, h0, rfl⟩

def strings_Builder_String.s : Spec := mkS [.bld 58 (.row 5 (.int .u8))] (fun _ avs H => match avs, H with
  | [.box 0 0], [.bld 58 (.own 1), .row 5 (.int .u8) a0] => some (strings_Builder_String.f a0)
  | _, _ => none) (fun r => (.v (.string r), [.gone, .gone]))
set_option maxHeartbeats 2000000 in
set_option maxRecDepth 100000 in
theorem strings_Builder_String.full (b g cap : Nat) (p : Value) (cur : Array Value) (l : List UInt8) (w : World) (h0 : l ≠ []) (hbk : w.heap[b]? = some (.cells #[p, .slice (some ⟨g, 0, none⟩) l.length cap] 58 (0, 0)))
    (hg : w.heap[g]? = some (.cells cur 5 (0, 0))) (hnc : l.length ≤ cap) (hcm : cap ≤ maxLen) (hcs : cur.size = cap) (hcells : ∀ j u, (Lib.byteCells l)[j]? = some u → w.cell? ((⟨g, 0, none⟩ : Addr).add j) = some u) :
    Calls Try.prog 35 #[.pointer (some ⟨b, 0, none⟩)] w fun e w' => e = .returned (.string ⟨l.toArray⟩) ∧ w' = w.drew.freeze ⟨g, 0, none⟩ l.length := by
  have hl0 : l.length ≠ 0 := by simpa using h0
  have c1 : w.drew.cell? ⟨b, 1, none⟩ = some (.slice (some ⟨g, 0, none⟩) l.length cap) := by
    have : w.drew.heap[b]? = some (.cells #[p, .slice (some ⟨g, 0, none⟩) l.length cap] 58 (0, 0)) := hbk
    rw [Lib.cell_of_heap this]; rfl
  have hSD : (Builtin.unsafeSliceData_ #[22] 68 #[.slice (some ⟨g, 0, none⟩) l.length cap]).run Try.prog w.drew = .ok (.pointer (some ⟨g, 0, none⟩)) w.drew :=
    Lib.run_unsafeSliceData_row _ _ _ _ _ _ (by omega)
  have hUS : (Builtin.unsafeString_ #[68, 3] 9 #[.pointer (some ⟨g, 0, none⟩), .int .i64 l.length]).run Try.prog w.drew = .ok (.string ⟨l.toArray⟩) (w.drew.freeze ⟨g, 0, none⟩ l.length) := by
    refine Lib.run_unsafeString_row w.drew 68 3 9 5 Try.underlying68 (by kernel_rfl) g cur.size (by have hg' : w.drew.heap[g]? = some (.cells cur 5 (0, 0)) := hg; simp [World.shape?, hg']) l h0 (by omega) (by unfold maxLen at hcm; omega) ?_
    intro j x hx
    have := hcells j (.int .u8 x.toNat) (by simp [Lib.byteCells, hx])
    exact this
  clear hcells
  have mixed : Try.prog.follows .mixedOrders = true := by kernel_rfl
  go_enter Try.func35, Try.ntmps35
  go_wp2
  go_region_o
  all_goals (go_wp2; go_ret; exact ⟨rfl, rfl⟩)
theorem strings_Builder_String.calls (b : Nat) (p v : Value) (l : List UInt8) (w : World) (hbk : w.heap[b]? = some (.cells #[p, v] 58 (0, 0))) (hown : w.ownsRow 0 5 1 v l.length (Lib.byteCells l)) :
    Calls Try.prog 35 #[.pointer (some ⟨b, 0, none⟩)] w fun en w' => en = .returned (.string ⟨l.toArray⟩) ∧ Off (fun x => v.ownBlock = some x) w w' := by
  have hc := fun g hg => hown.cells (g := g) hg
  rcases hown.2 with ⟨rfl, h0⟩ | ⟨g, cap, cur, rfl, _, hg, hnc, hcm, hcs, _⟩
  · obtain rfl := List.eq_nil_of_length_eq_zero h0
    refine (Any.Builder_String_nil Go.Proofs.Try.lays169 Go.Proofs.Try.Builder_Extra_169 w.heap.size b p w hbk).mono ?_
    rintro e w' ⟨rfl, hb⟩
    exact ⟨rfl, Off.below hb _⟩
  · by_cases hl : l = []
    · subst hl
      by_cases hc0 : cap = 0
      · subst hc0
        refine (Any.Builder_String_noroom Go.Proofs.Try.lays169 Go.Proofs.Try.Builder_Extra_169 w.heap.size b g p cur w (Nat.le_refl _) hbk hg).mono ?_
        rintro e w' ⟨rfl, hb⟩
        exact ⟨rfl, Off.below hb _⟩
      · refine (Any.Builder_String_room Go.Proofs.Try.lays169 Go.Proofs.Try.Builder_Extra_169 w.heap.size b g cap p w hc0 hbk).mono ?_
        rintro e w' ⟨rfl, hb⟩
        exact ⟨rfl, Off.below hb _⟩
    · refine (strings_Builder_String.full b g cap p cur l w hl hbk hg hnc hcm (by simpa using hcs) (hc g rfl)).mono ?_
      rintro e w' ⟨rfl, rfl⟩
      refine ⟨rfl, ((Off.drew (fun x => (Value.slice (some ⟨g, 0, none⟩) l.length cap).ownBlock = some x) w).trans (N := fun x => x = g) (Off.freeze _ _ _) fun x _ hx => ?_)⟩
      subst hx
      rfl
theorem strings_Builder_String.sound : Sound Try.prog 35 strings_Builder_String.s := by
  refine sound_str (T := 58) (e := 5) ?_ strings_Builder_String.calls
  intro k avs H o x h hx
  split at h
  case h_2 => cases h
  rename_i a0
  cases h
  unfold strings_Builder_String.f at hx
  split at hx
  case isFalse => cases hx
  rename_i h0
  cases hx
  exact ⟨a0, rfl, rfl, h0, rfl⟩

def _impl_Device_seen.a : FnA (ByteArray) := ⟨15, [.tmp 2], .val, [], [⟨8, [1, 3, 4], [.box [.val, .con (.pair (.int .i64) (.pair .str .str))], .bld 58 (.row 5 (.int .u8)), .val], []⟩], fun x H => match x, H with
  | .v (.string r), [] => some r
  | _, _ => none⟩
def _impl_Device_seen.s : Spec := mkS [.agg [.val, .con (.pair (.int .i64) (.pair .str .str))]] (fun k avs H => match avs, H with
  | [.agg [.v (.string a0_0), .con (.pair (.int .i64) (.pair .str .str)) a0_1]], [] => some (_impl_Device_seen.f k a0_0 a0_1)
  | _, _ => none) (fun r => (.v (.string r), []))
def _impl_Device_seen.E : Env := [((32, []), _impl_Device_has.s), ((34, []), _impl_Device_seenLine.s), ((33, []), strings_Builder_WriteString.s), ((35, []), strings_Builder_String.s)]
def _impl_Device_seen.G8 (k : Nat) (avs : List AV) (H : List HE) : Option (ByteArray) := match avs, H with
  | [.box 0 0, .box 1 0, .v (.int .i64 x4)], [.box [.v (.string x1_0), .con (.pair (.int .i64) (.pair .str .str)) x1_1], .bld 58 (.own 2), .row 5 (.int .u8) x3] => _impl_Device_seen.p8 k x1_0 x1_1 x3 x4
  | _, _ => none
def _impl_Device_seen.G (k p : Nat) (avs : List AV) (H : List HE) : Option (ByteArray) := (pick1 8 (_impl_Device_seen.G8 k avs H) none p)
set_option maxRecDepth 100000 in
theorem _impl_Device_seen.eq (k : Nat) (a0_0 : ByteArray) (a0_1 : List (Int × ByteArray × ByteArray)) : fromTop Try.prog _impl_Device_seen.E k _impl_Device_seen.a (_impl_Device_seen.G k) 1000 (bodyOf Try.prog 19) [.agg [.v (.string a0_0), .con (.pair (.int .i64) (.pair .str .str)) a0_1]] [] = _impl_Device_seen.f k a0_0 a0_1 := by kernel_rfl
set_option maxRecDepth 100000 in
theorem _impl_Device_seen.eq8 (k : Nat) (x1_0 : ByteArray) (x1_1 : List (Int × ByteArray × ByteArray)) (x3 : List Int) (x4 : Int) : fromPt Try.prog _impl_Device_seen.E k _impl_Device_seen.a (_impl_Device_seen.G k) 1000 (bodyOf Try.prog 19) 8 [.box 0 0, .box 1 0, .v (.int .i64 x4)] [.box [.v (.string x1_0), .con (.pair (.int .i64) (.pair .str .str)) x1_1], .bld 58 (.own 2), .row 5 (.int .u8) x3] = _impl_Device_seen.p8 (k + 1) x1_0 x1_1 x3 x4 := by kernel_rfl
theorem _impl_Device_seen.G8_0 {avs : List AV} {H : List HE} : _impl_Device_seen.G8 0 avs H = none := by unfold _impl_Device_seen.G8; split <;> rfl
theorem _impl_Device_seen.G8_s (k : Nat) {avs : List AV} {H : List HE} {x : ByteArray} (h : _impl_Device_seen.G8 (k + 1) avs H = some x) : fromPt Try.prog _impl_Device_seen.E k _impl_Device_seen.a (_impl_Device_seen.G k) 1000 (bodyOf Try.prog 19) 8 avs H = some x := by
  unfold _impl_Device_seen.G8 at h
  split at h
  · rw [← h]; exact _impl_Device_seen.eq8 _ _ _ _ _
  · cases h
theorem _impl_Device_seen.E_ok : EnvOk Try.prog _impl_Device_seen.E := ⟨⟨_impl_Device_has.sound, callable_of (by kernel_rfl)⟩, ⟨_impl_Device_seenLine.sound, callable_of (by kernel_rfl)⟩, ⟨strings_Builder_WriteString.sound, callable_of (by kernel_rfl)⟩, ⟨strings_Builder_String.sound, callable_of (by kernel_rfl)⟩, trivial⟩
theorem _impl_Device_seen.sound : Sound Try.prog 19 _impl_Device_seen.s := by
  refine func_sound (f := _impl_Device_seen.a) (G := _impl_Device_seen.G) (fn := Try.f19) (body := bodyOf Try.prog 19) 1000 (by kernel_rfl) _impl_Device_seen.E_ok Try.func19 (by kernel_rfl) (by kernel_rfl) (by kernel_rfl) (ptsOk_of (by kernel_rfl)) ?_ ?_ ?_ ?_
  · intro r H x h
    unfold _impl_Device_seen.a at h
    simp only at h
    split at h
    · cases h; rfl
    · cases h
  · exact fun q avs H => pick1_none _impl_Device_seen.G8_0 (rfl)
  · intro k q pt avs H x _ h
    rcases pick1_some h with ⟨rfl, h⟩ | h
    · exact _impl_Device_seen.G8_s _ h
    cases h
  · intro k avs H o h
    try dsimp only at h
    split at h
    · cases h; exact _impl_Device_seen.eq _ _ _
    · cases h

def impl_Seen.a : FnA (ByteArray) := ⟨8, [.tmp 2], .val, [], [], fun x H => match x, H with
  | .v (.string r), [] => some r
  | _, _ => none⟩
def impl_Seen.s : Spec := mkS [.agg [.val, .con (.pair (.int .i64) (.pair .str .str))]] (fun k avs H => match avs, H with
  | [.agg [.v (.string a0_0), .con (.pair (.int .i64) (.pair .str .str)) a0_1]], [] => some (impl_Seen.f k a0_0 a0_1)
  | _, _ => none) (fun r => (.v (.string r), []))
def impl_Seen.E : Env := [((14, []), impl_DeviceOk.s), ((19, []), _impl_Device_seen.s)]
def impl_Seen.G (k p : Nat) (avs : List AV) (H : List HE) : Option (ByteArray) := none
set_option maxRecDepth 100000 in
theorem impl_Seen.eq (k : Nat) (a0_0 : ByteArray) (a0_1 : List (Int × ByteArray × ByteArray)) : fromTop Try.prog impl_Seen.E k impl_Seen.a (impl_Seen.G k) 1000 (bodyOf Try.prog 10) [.agg [.v (.string a0_0), .con (.pair (.int .i64) (.pair .str .str)) a0_1]] [] = impl_Seen.f k a0_0 a0_1 := by kernel_rfl
theorem impl_Seen.E_ok : EnvOk Try.prog impl_Seen.E := ⟨⟨impl_DeviceOk.sound, callable_of (by kernel_rfl)⟩, ⟨_impl_Device_seen.sound, callable_of (by kernel_rfl)⟩, trivial⟩
theorem impl_Seen.sound : Sound Try.prog 10 impl_Seen.s := by
  refine func_sound (f := impl_Seen.a) (G := impl_Seen.G) (fn := Try.f10) (body := bodyOf Try.prog 10) 1000 (by kernel_rfl) impl_Seen.E_ok Try.func10 (by kernel_rfl) (by kernel_rfl) (by kernel_rfl) (ptsOk_of (by kernel_rfl)) ?_ ?_ ?_ ?_
  · intro r H x h
    unfold impl_Seen.a at h
    simp only at h
    split at h
    · cases h; rfl
    · cases h
  · intro q avs H; rfl
  · intro k q pt avs H x _ h; cases h
  · intro k avs H o h
    try dsimp only at h
    split at h
    · cases h; exact impl_Seen.eq _ _ _
    · cases h

def laws_FnPicked.a : FnA (Bool) := ⟨118, [.tmp 2], .bool, [], [⟨17, [3, 4, 5, 30], [.box [.val, .row 34 (.pair (.int .i64) (.pair .str .str))], .con (.int .i64), .box [.val, .val], .bool], []⟩, ⟨28, [3, 5, 6, 7], [.box [.val, .row 34 (.pair (.int .i64) (.pair .str .str))], .box [.val, .val], .row 2 (.int .i64), .val], []⟩], fun x H => match x, H with
  | .bs false r, [] => some r
  | _, _ => none⟩
def laws_FnPicked.s : Spec := mkS [.con (.int .u8)] (fun k avs H => match avs, H with
  | [.con (.int .u8) a0], [] => some (laws_FnPicked.f k a0)
  | _, _ => none) (fun r => (.bs false r, []))
def laws_FnPicked.E : Env := [((4, []), laws_big.s), ((5, []), spec_DrawCrash.s), ((6, []), impl_Crash.s), ((8, []), spec_Crash.s), ((7, []), laws_sameDev.s), ((9, []), spec_DeviceOk.s), ((10, []), impl_Seen.s)]
def laws_FnPicked.G17 (k : Nat) (avs : List AV) (H : List HE) : Option (Bool) := match avs, H with
  | [.box 0 0, .con (.int .i64) x4, .box 2 0, .bs false x30], [.box [.v (.string x3_0), .own 1], .row 34 (.pair (.int .i64) (.pair .str .str)) x3_1, .box [.v (.string x5_0), .v (.slice none 0 0)]] => laws_FnPicked.p17 k x3_0 x3_1 x4 x5_0 x30
  | _, _ => none
def laws_FnPicked.G28 (k : Nat) (avs : List AV) (H : List HE) : Option (Bool) := match avs, H with
  | [.box 0 0, .box 2 0, .own 3, .v (.int .i64 x7)], [.box [.v (.string x3_0), .own 1], .row 34 (.pair (.int .i64) (.pair .str .str)) x3_1, .box [.v (.string x5_0), .v (.slice none 0 0)], .row 2 (.int .i64) x6] => laws_FnPicked.p28 k x3_0 x3_1 x5_0 x6 x7
  | _, _ => none
def laws_FnPicked.G (k p : Nat) (avs : List AV) (H : List HE) : Option (Bool) := (pick1 17 (laws_FnPicked.G17 k avs H) (pick1 28 (laws_FnPicked.G28 k avs H) none p) p)
set_option maxRecDepth 100000 in
theorem laws_FnPicked.eq (k : Nat) (a0 : List Int) : fromTop Try.prog laws_FnPicked.E k laws_FnPicked.a (laws_FnPicked.G k) 1000 (bodyOf Try.prog 3) [.con (.int .u8) a0] [] = laws_FnPicked.f k a0 := by kernel_rfl
set_option maxRecDepth 100000 in
theorem laws_FnPicked.eq17 (k : Nat) (x3_0 : ByteArray) (x3_1 : List (Int × ByteArray × ByteArray)) (x4 : List Int) (x5_0 : ByteArray) (x30 : Bool) : fromPt Try.prog laws_FnPicked.E k laws_FnPicked.a (laws_FnPicked.G k) 1000 (bodyOf Try.prog 3) 17 [.box 0 0, .con (.int .i64) x4, .box 2 0, .bs false x30] [.box [.v (.string x3_0), .own 1], .row 34 (.pair (.int .i64) (.pair .str .str)) x3_1, .box [.v (.string x5_0), .v (.slice none 0 0)]] = laws_FnPicked.p17 (k + 1) x3_0 x3_1 x4 x5_0 x30 := by kernel_rfl
theorem laws_FnPicked.G17_0 {avs : List AV} {H : List HE} : laws_FnPicked.G17 0 avs H = none := by unfold laws_FnPicked.G17; split <;> rfl
theorem laws_FnPicked.G17_s (k : Nat) {avs : List AV} {H : List HE} {x : Bool} (h : laws_FnPicked.G17 (k + 1) avs H = some x) : fromPt Try.prog laws_FnPicked.E k laws_FnPicked.a (laws_FnPicked.G k) 1000 (bodyOf Try.prog 3) 17 avs H = some x := by
  unfold laws_FnPicked.G17 at h
  split at h
  · rw [← h]; exact laws_FnPicked.eq17 _ _ _ _ _ _
  · cases h
set_option maxRecDepth 100000 in
theorem laws_FnPicked.eq28 (k : Nat) (x3_0 : ByteArray) (x3_1 : List (Int × ByteArray × ByteArray)) (x5_0 : ByteArray) (x6 : List Int) (x7 : Int) : fromPt Try.prog laws_FnPicked.E k laws_FnPicked.a (laws_FnPicked.G k) 1000 (bodyOf Try.prog 3) 28 [.box 0 0, .box 2 0, .own 3, .v (.int .i64 x7)] [.box [.v (.string x3_0), .own 1], .row 34 (.pair (.int .i64) (.pair .str .str)) x3_1, .box [.v (.string x5_0), .v (.slice none 0 0)], .row 2 (.int .i64) x6] = laws_FnPicked.p28 (k + 1) x3_0 x3_1 x5_0 x6 x7 := by kernel_rfl
theorem laws_FnPicked.G28_0 {avs : List AV} {H : List HE} : laws_FnPicked.G28 0 avs H = none := by unfold laws_FnPicked.G28; split <;> rfl
theorem laws_FnPicked.G28_s (k : Nat) {avs : List AV} {H : List HE} {x : Bool} (h : laws_FnPicked.G28 (k + 1) avs H = some x) : fromPt Try.prog laws_FnPicked.E k laws_FnPicked.a (laws_FnPicked.G k) 1000 (bodyOf Try.prog 3) 28 avs H = some x := by
  unfold laws_FnPicked.G28 at h
  split at h
  · rw [← h]; exact laws_FnPicked.eq28 _ _ _ _ _ _
  · cases h
theorem laws_FnPicked.E_ok : EnvOk Try.prog laws_FnPicked.E := ⟨⟨laws_big.sound, callable_of (by kernel_rfl)⟩, ⟨spec_DrawCrash.sound, callable_of (by kernel_rfl)⟩, ⟨impl_Crash.sound, callable_of (by kernel_rfl)⟩, ⟨spec_Crash.sound, callable_of (by kernel_rfl)⟩, ⟨laws_sameDev.sound, callable_of (by kernel_rfl)⟩, ⟨spec_DeviceOk.sound, callable_of (by kernel_rfl)⟩, ⟨impl_Seen.sound, callable_of (by kernel_rfl)⟩, trivial⟩
theorem laws_FnPicked.sound : Sound Try.prog 3 laws_FnPicked.s := by
  refine func_sound (f := laws_FnPicked.a) (G := laws_FnPicked.G) (fn := Try.f3) (body := bodyOf Try.prog 3) 1000 (by kernel_rfl) laws_FnPicked.E_ok Try.func3 (by kernel_rfl) (by kernel_rfl) (by kernel_rfl) (ptsOk_of (by kernel_rfl)) ?_ ?_ ?_ ?_
  · intro r H x h
    unfold laws_FnPicked.a at h
    simp only at h
    split at h
    · cases h; rfl
    · cases h
  · exact fun q avs H => pick1_none laws_FnPicked.G17_0 (pick1_none laws_FnPicked.G28_0 (rfl))
  · intro k q pt avs H x _ h
    rcases pick1_some h with ⟨rfl, h⟩ | h
    · exact laws_FnPicked.G17_s _ h
    rcases pick1_some h with ⟨rfl, h⟩ | h
    · exact laws_FnPicked.G28_s _ h
    cases h
  · intro k avs H o h
    try dsimp only at h
    split at h
    · cases h; exact laws_FnPicked.eq _ _
    · cases h
end
end Go.Proofs.Ytmciidoohbmipaa.Abs
