/- They are sound. -/
import Derived.Test.YtnhladaobcnmhaaDoorShelfSt
import Derived.Shelf.Strings.SlTrimAscii
import Derived.Test.YtnhladaobcnmhaaDoorShelfSl
import Derived.Test.YtnhladaobcnmhaaDoorF3
import Derived.Test.YtnhladaobcnmhaaDoorProg
namespace Go.Proofs.YtnhladaobcnmhaaDoor.Abs
open Go Go.RowKit
set_option linter.unusedVariables false
set_option linter.unusedSectionVars false
set_option linter.unusedSimpArgs false
noncomputable section
def laws_big.a : FnA (Bool) := ⟨6, [.tmp 2], .bool, [], [], fun x H => match x, H with
  | .bs false r, [] => some r
  | _, _ => none⟩
def laws_big.s : Spec := mkS [.con (.int .u8)] (fun k avs H => match avs, H with
  | [.con (.int .u8) a0], [] => some (laws_big.f a0)
  | _, _ => none) (fun r => (.bs false r, []))
def laws_big.E : Env := []
def laws_big.G (k p : Nat) (avs : List AV) (H : List HE) : Option (Bool) := none
set_option maxRecDepth 100000 in
theorem laws_big.eq (k : Nat) (a0 : List Int) : fromTop Tryd.prog laws_big.E k laws_big.a (laws_big.G k) 1000 (bodyOf Tryd.prog 26) [.con (.int .u8) a0] [] = laws_big.f a0 := by kernel_rfl
theorem laws_big.E_ok : EnvOk Tryd.prog laws_big.E := trivial
theorem laws_big.sound : Sound Tryd.prog 26 laws_big.s := by
  refine func_sound (f := laws_big.a) (G := laws_big.G) (fn := Tryd.f26) (body := bodyOf Tryd.prog 26) 1000 (by kernel_rfl) laws_big.E_ok Tryd.func26 (by kernel_rfl) (by kernel_rfl) (by kernel_rfl) (ptsOk_of (by kernel_rfl)) ?_ ?_ ?_ ?_
  · intro r H x h
    unfold laws_big.a at h
    simp only at h
    split at h
    · cases h; rfl
    · cases h
  · intro q avs H; rfl
  · intro k q pt avs H x _ h; cases h
  · intro k avs H o h
    try dsimp only at h
    split at h
    · cases h; exact laws_big.eq _ _
    · cases h

def spec_l1Open.a : FnA (List Int × Int) := ⟨6, [.tmp 2], .box [.con (.int .u8), .val], [], [], fun x H => match x, H with
  | .box 0 0, [.box [.con (.int .u8) r_0, .v (.int .i64 r_1)]] => some (r_0, r_1)
  | _, _ => none⟩
def spec_l1Open.s : Spec := mkS [.con (.int .u8)] (fun k avs H => match avs, H with
  | [.con (.int .u8) a0], [] => some (spec_l1Open.f a0)
  | _, _ => none) (fun r => (.box 0 0, [.box [.con (.int .u8) r.1, .v (.int .i64 r.2)]]))
def spec_l1Open.E : Env := []
def spec_l1Open.G (k p : Nat) (avs : List AV) (H : List HE) : Option (List Int × Int) := none
set_option maxRecDepth 100000 in
theorem spec_l1Open.eq (k : Nat) (a0 : List Int) : fromTop Tryd.prog spec_l1Open.E k spec_l1Open.a (spec_l1Open.G k) 1000 (bodyOf Tryd.prog 60) [.con (.int .u8) a0] [] = spec_l1Open.f a0 := by kernel_rfl
theorem spec_l1Open.E_ok : EnvOk Tryd.prog spec_l1Open.E := trivial
theorem spec_l1Open.sound : Sound Tryd.prog 60 spec_l1Open.s := by
  refine func_sound (f := spec_l1Open.a) (G := spec_l1Open.G) (fn := Tryd.f60) (body := bodyOf Tryd.prog 60) 1000 (by kernel_rfl) spec_l1Open.E_ok Tryd.func60 (by kernel_rfl) (by kernel_rfl) (by kernel_rfl) (ptsOk_of (by kernel_rfl)) ?_ ?_ ?_ ?_
  · intro r H x h
    unfold spec_l1Open.a at h
    simp only at h
    split at h
    · cases h; rfl
    · cases h
  · intro q avs H; rfl
  · intro k q pt avs H x _ h; cases h
  · intro k avs H o h
    try dsimp only at h
    split at h
    · cases h; exact spec_l1Open.eq _ _
    · cases h

def spec_l1Rd_next.a : FnA (List Int × Int × Int) := ⟨32, [.tmp 2], .val, [.box [.con (.int .u8), .val]], [], fun x H => match x, H with
  | .v (.int .i64 r), [.box [.con (.int .u8) h0_0, .v (.int .i64 h0_1)]] => some (h0_0, h0_1, r)
  | _, _ => none⟩
def spec_l1Rd_next.s : Spec := mkS [.box [.con (.int .u8), .val]] (fun k avs H => match avs, H with
  | [.box 0 0], [.box [.con (.int .u8) a0_0, .v (.int .i64 a0_1)]] => some (spec_l1Rd_next.f a0_0 a0_1)
  | _, _ => none) (fun r => (.v (.int .i64 r.2.2), [.box [.con (.int .u8) r.1, .v (.int .i64 r.2.1)]]))
def spec_l1Rd_next.E : Env := []
def spec_l1Rd_next.G (k p : Nat) (avs : List AV) (H : List HE) : Option (List Int × Int × Int) := none
set_option maxRecDepth 100000 in
theorem spec_l1Rd_next.eq (k : Nat) (a0_0 : List Int) (a0_1 : Int) : fromTop Tryd.prog spec_l1Rd_next.E k spec_l1Rd_next.a (spec_l1Rd_next.G k) 1000 (bodyOf Tryd.prog 98) [.box 0 0] [.box [.con (.int .u8) a0_0, .v (.int .i64 a0_1)]] = spec_l1Rd_next.f a0_0 a0_1 := by kernel_rfl
theorem spec_l1Rd_next.E_ok : EnvOk Tryd.prog spec_l1Rd_next.E := trivial
theorem spec_l1Rd_next.sound : Sound Tryd.prog 98 spec_l1Rd_next.s := by
  refine func_sound (f := spec_l1Rd_next.a) (G := spec_l1Rd_next.G) (fn := Tryd.f98) (body := bodyOf Tryd.prog 98) 1000 (by kernel_rfl) spec_l1Rd_next.E_ok Tryd.func98 (by kernel_rfl) (by kernel_rfl) (by kernel_rfl) (ptsOk_of (by kernel_rfl)) ?_ ?_ ?_ ?_
  · intro r H x h
    unfold spec_l1Rd_next.a at h
    simp only at h
    split at h
    · cases h; rfl
    · cases h
  · intro q avs H; rfl
  · intro k q pt avs H x _ h; cases h
  · intro k avs H o h
    try dsimp only at h
    split at h
    · cases h; exact spec_l1Rd_next.eq _ _ _
    · cases h

def spec_l1Rd_below.a : FnA (List Int × Int × Int) := ⟨24, [.tmp 4], .val, [.box [.con (.int .u8), .val]], [], fun x H => match x, H with
  | .v (.int .i64 r), [.box [.con (.int .u8) h0_0, .v (.int .i64 h0_1)]] => some (h0_0, h0_1, r)
  | _, _ => none⟩
def spec_l1Rd_below.s : Spec := mkS [.box [.con (.int .u8), .val], .val] (fun k avs H => match avs, H with
  | [.box 0 0, .v (.int .i64 a1)], [.box [.con (.int .u8) a0_0, .v (.int .i64 a0_1)]] => some (spec_l1Rd_below.f a0_0 a0_1 a1)
  | _, _ => none) (fun r => (.v (.int .i64 r.2.2), [.box [.con (.int .u8) r.1, .v (.int .i64 r.2.1)]]))
def spec_l1Rd_below.E : Env := [((98, []), spec_l1Rd_next.s)]
def spec_l1Rd_below.G (k p : Nat) (avs : List AV) (H : List HE) : Option (List Int × Int × Int) := none
set_option maxRecDepth 100000 in
theorem spec_l1Rd_below.eq (k : Nat) (a0_0 : List Int) (a0_1 : Int) (a1 : Int) : fromTop Tryd.prog spec_l1Rd_below.E k spec_l1Rd_below.a (spec_l1Rd_below.G k) 1000 (bodyOf Tryd.prog 63) [.box 0 0, .v (.int .i64 a1)] [.box [.con (.int .u8) a0_0, .v (.int .i64 a0_1)]] = spec_l1Rd_below.f a0_0 a0_1 a1 := by kernel_rfl
theorem spec_l1Rd_below.E_ok : EnvOk Tryd.prog spec_l1Rd_below.E := ⟨⟨spec_l1Rd_next.sound, callable_of (by kernel_rfl)⟩, trivial⟩
theorem spec_l1Rd_below.sound : Sound Tryd.prog 63 spec_l1Rd_below.s := by
  refine func_sound (f := spec_l1Rd_below.a) (G := spec_l1Rd_below.G) (fn := Tryd.f63) (body := bodyOf Tryd.prog 63) 1000 (by kernel_rfl) spec_l1Rd_below.E_ok Tryd.func63 (by kernel_rfl) (by kernel_rfl) (by kernel_rfl) (ptsOk_of (by kernel_rfl)) ?_ ?_ ?_ ?_
  · intro r H x h
    unfold spec_l1Rd_below.a at h
    simp only at h
    split at h
    · cases h; rfl
    · cases h
  · intro q avs H; rfl
  · intro k q pt avs H x _ h; cases h
  · intro k avs H o h
    try dsimp only at h
    split at h
    · cases h; exact spec_l1Rd_below.eq _ _ _ _
    · cases h

def spec_l1Rd_once.a : FnA (List Int × Int × Bool) := ⟨11, [.tmp 4], .bool, [.box [.con (.int .u8), .val]], [], fun x H => match x, H with
  | .bs false r, [.box [.con (.int .u8) h0_0, .v (.int .i64 h0_1)]] => some (h0_0, h0_1, r)
  | _, _ => none⟩
def spec_l1Rd_once.s : Spec := mkS [.box [.con (.int .u8), .val], .val] (fun k avs H => match avs, H with
  | [.box 0 0, .v (.int .i64 a1)], [.box [.con (.int .u8) a0_0, .v (.int .i64 a0_1)]] => some (spec_l1Rd_once.f a0_0 a0_1 a1)
  | _, _ => none) (fun r => (.bs false r.2.2, [.box [.con (.int .u8) r.1, .v (.int .i64 r.2.1)]]))
def spec_l1Rd_once.E : Env := [((63, []), spec_l1Rd_below.s)]
def spec_l1Rd_once.G (k p : Nat) (avs : List AV) (H : List HE) : Option (List Int × Int × Bool) := none
set_option maxRecDepth 100000 in
theorem spec_l1Rd_once.eq (k : Nat) (a0_0 : List Int) (a0_1 : Int) (a1 : Int) : fromTop Tryd.prog spec_l1Rd_once.E k spec_l1Rd_once.a (spec_l1Rd_once.G k) 1000 (bodyOf Tryd.prog 94) [.box 0 0, .v (.int .i64 a1)] [.box [.con (.int .u8) a0_0, .v (.int .i64 a0_1)]] = spec_l1Rd_once.f a0_0 a0_1 a1 := by kernel_rfl
theorem spec_l1Rd_once.E_ok : EnvOk Tryd.prog spec_l1Rd_once.E := ⟨⟨spec_l1Rd_below.sound, callable_of (by kernel_rfl)⟩, trivial⟩
theorem spec_l1Rd_once.sound : Sound Tryd.prog 94 spec_l1Rd_once.s := by
  refine func_sound (f := spec_l1Rd_once.a) (G := spec_l1Rd_once.G) (fn := Tryd.f94) (body := bodyOf Tryd.prog 94) 1000 (by kernel_rfl) spec_l1Rd_once.E_ok Tryd.func94 (by kernel_rfl) (by kernel_rfl) (by kernel_rfl) (ptsOk_of (by kernel_rfl)) ?_ ?_ ?_ ?_
  · intro r H x h
    unfold spec_l1Rd_once.a at h
    simp only at h
    split at h
    · cases h; rfl
    · cases h
  · intro q avs H; rfl
  · intro k q pt avs H x _ h; cases h
  · intro k avs H o h
    try dsimp only at h
    split at h
    · cases h; exact spec_l1Rd_once.eq _ _ _ _
    · cases h

def spec_l1Rd_kinds.a : FnA (List Int × Int × ByteArray) := ⟨23, [.tmp 4], .val, [.box [.con (.int .u8), .val]], [⟨8, [0, 5, 6], [.box [], .val, .val], [.box [.con (.int .u8), .val]]⟩], fun x H => match x, H with
  | .v (.string r), [.box [.con (.int .u8) h0_0, .v (.int .i64 h0_1)]] => some (h0_0, h0_1, r)
  | _, _ => none⟩
def spec_l1Rd_kinds.s : Spec := mkS [.box [.con (.int .u8), .val], .val] (fun k avs H => match avs, H with
  | [.box 0 0, .v (.int .i64 a1)], [.box [.con (.int .u8) a0_0, .v (.int .i64 a0_1)]] => some (spec_l1Rd_kinds.f k a0_0 a0_1 a1)
  | _, _ => none) (fun r => (.v (.string r.2.2), [.box [.con (.int .u8) r.1, .v (.int .i64 r.2.1)]]))
def spec_l1Rd_kinds.E : Env := [((63, []), spec_l1Rd_below.s)]
def spec_l1Rd_kinds.G8 (k : Nat) (avs : List AV) (H : List HE) : Option (List Int × Int × ByteArray) := match avs, H with
  | [.box 0 0, .v (.string x5), .v (.int .i64 x6)], [.box [.con (.int .u8) h0_0, .v (.int .i64 h0_1)]] => spec_l1Rd_kinds.p8 k h0_0 h0_1 x5 x6
  | _, _ => none
def spec_l1Rd_kinds.G (k p : Nat) (avs : List AV) (H : List HE) : Option (List Int × Int × ByteArray) := (pick1 8 (spec_l1Rd_kinds.G8 k avs H) none p)
set_option maxRecDepth 100000 in
theorem spec_l1Rd_kinds.eq (k : Nat) (a0_0 : List Int) (a0_1 : Int) (a1 : Int) : fromTop Tryd.prog spec_l1Rd_kinds.E k spec_l1Rd_kinds.a (spec_l1Rd_kinds.G k) 1000 (bodyOf Tryd.prog 95) [.box 0 0, .v (.int .i64 a1)] [.box [.con (.int .u8) a0_0, .v (.int .i64 a0_1)]] = spec_l1Rd_kinds.f k a0_0 a0_1 a1 := by kernel_rfl
set_option maxRecDepth 100000 in
theorem spec_l1Rd_kinds.eq8 (k : Nat) (h0_0 : List Int) (h0_1 : Int) (x5 : ByteArray) (x6 : Int) : fromPt Tryd.prog spec_l1Rd_kinds.E k spec_l1Rd_kinds.a (spec_l1Rd_kinds.G k) 1000 (bodyOf Tryd.prog 95) 8 [.box 0 0, .v (.string x5), .v (.int .i64 x6)] [.box [.con (.int .u8) h0_0, .v (.int .i64 h0_1)]] = spec_l1Rd_kinds.p8 (k + 1) h0_0 h0_1 x5 x6 := by kernel_rfl
theorem spec_l1Rd_kinds.G8_0 {avs : List AV} {H : List HE} : spec_l1Rd_kinds.G8 0 avs H = none := by unfold spec_l1Rd_kinds.G8; split <;> rfl
theorem spec_l1Rd_kinds.G8_s (k : Nat) {avs : List AV} {H : List HE} {x : List Int × Int × ByteArray} (h : spec_l1Rd_kinds.G8 (k + 1) avs H = some x) : fromPt Tryd.prog spec_l1Rd_kinds.E k spec_l1Rd_kinds.a (spec_l1Rd_kinds.G k) 1000 (bodyOf Tryd.prog 95) 8 avs H = some x := by
  unfold spec_l1Rd_kinds.G8 at h
  split at h
  · rw [← h]; exact spec_l1Rd_kinds.eq8 _ _ _ _ _
  · cases h
theorem spec_l1Rd_kinds.E_ok : EnvOk Tryd.prog spec_l1Rd_kinds.E := ⟨⟨spec_l1Rd_below.sound, callable_of (by kernel_rfl)⟩, trivial⟩
theorem spec_l1Rd_kinds.sound : Sound Tryd.prog 95 spec_l1Rd_kinds.s := by
  refine func_sound (f := spec_l1Rd_kinds.a) (G := spec_l1Rd_kinds.G) (fn := Tryd.f95) (body := bodyOf Tryd.prog 95) 1000 (by kernel_rfl) spec_l1Rd_kinds.E_ok Tryd.func95 (by kernel_rfl) (by kernel_rfl) (by kernel_rfl) (ptsOk_of (by kernel_rfl)) ?_ ?_ ?_ ?_
  · intro r H x h
    unfold spec_l1Rd_kinds.a at h
    simp only at h
    split at h
    · cases h; rfl
    · cases h
  · exact fun q avs H => pick1_none spec_l1Rd_kinds.G8_0 (rfl)
  · intro k q pt avs H x _ h
    rcases pick1_some h with ⟨rfl, h⟩ | h
    · exact spec_l1Rd_kinds.G8_s _ h
    cases h
  · intro k avs H o h
    try dsimp only at h
    split at h
    · cases h; exact spec_l1Rd_kinds.eq _ _ _ _
    · cases h

def spec_l1Rd_types.a : FnA (List Int × Int × List ByteArray) := ⟨27, [.tmp 2], .row 9 .str, [.box [.con (.int .u8), .val]], [⟨8, [0, 3, 4], [.box [], .row 9 .str, .val], [.box [.con (.int .u8), .val]]⟩], fun x H => match x, H with
  | .own 1, [.box [.con (.int .u8) h0_0, .v (.int .i64 h0_1)], .row 9 .str r] => some (h0_0, h0_1, r)
  | _, _ => none⟩
def spec_l1Rd_types.s : Spec := mkS [.box [.con (.int .u8), .val]] (fun k avs H => match avs, H with
  | [.box 0 0], [.box [.con (.int .u8) a0_0, .v (.int .i64 a0_1)]] => some (spec_l1Rd_types.f k a0_0 a0_1)
  | _, _ => none) (fun r => (.own 1, [.box [.con (.int .u8) r.1, .v (.int .i64 r.2.1)], .row 9 .str r.2.2]))
def spec_l1Rd_types.E : Env := [((63, []), spec_l1Rd_below.s), ((94, []), spec_l1Rd_once.s), ((95, []), spec_l1Rd_kinds.s)]
def spec_l1Rd_types.G8 (k : Nat) (avs : List AV) (H : List HE) : Option (List Int × Int × List ByteArray) := match avs, H with
  | [.box 0 0, .own 1, .v (.int .i64 x4)], [.box [.con (.int .u8) h0_0, .v (.int .i64 h0_1)], .row 9 .str x3] => spec_l1Rd_types.p8 k h0_0 h0_1 x3 x4
  | _, _ => none
def spec_l1Rd_types.G (k p : Nat) (avs : List AV) (H : List HE) : Option (List Int × Int × List ByteArray) := (pick1 8 (spec_l1Rd_types.G8 k avs H) none p)
set_option maxRecDepth 100000 in
theorem spec_l1Rd_types.eq (k : Nat) (a0_0 : List Int) (a0_1 : Int) : fromTop Tryd.prog spec_l1Rd_types.E k spec_l1Rd_types.a (spec_l1Rd_types.G k) 1000 (bodyOf Tryd.prog 61) [.box 0 0] [.box [.con (.int .u8) a0_0, .v (.int .i64 a0_1)]] = spec_l1Rd_types.f k a0_0 a0_1 := by kernel_rfl
set_option maxRecDepth 100000 in
theorem spec_l1Rd_types.eq8 (k : Nat) (h0_0 : List Int) (h0_1 : Int) (x3 : List ByteArray) (x4 : Int) : fromPt Tryd.prog spec_l1Rd_types.E k spec_l1Rd_types.a (spec_l1Rd_types.G k) 1000 (bodyOf Tryd.prog 61) 8 [.box 0 0, .own 1, .v (.int .i64 x4)] [.box [.con (.int .u8) h0_0, .v (.int .i64 h0_1)], .row 9 .str x3] = spec_l1Rd_types.p8 (k + 1) h0_0 h0_1 x3 x4 := by kernel_rfl
theorem spec_l1Rd_types.G8_0 {avs : List AV} {H : List HE} : spec_l1Rd_types.G8 0 avs H = none := by unfold spec_l1Rd_types.G8; split <;> rfl
theorem spec_l1Rd_types.G8_s (k : Nat) {avs : List AV} {H : List HE} {x : List Int × Int × List ByteArray} (h : spec_l1Rd_types.G8 (k + 1) avs H = some x) : fromPt Tryd.prog spec_l1Rd_types.E k spec_l1Rd_types.a (spec_l1Rd_types.G k) 1000 (bodyOf Tryd.prog 61) 8 avs H = some x := by
  unfold spec_l1Rd_types.G8 at h
  split at h
  · rw [← h]; exact spec_l1Rd_types.eq8 _ _ _ _ _
  · cases h
theorem spec_l1Rd_types.E_ok : EnvOk Tryd.prog spec_l1Rd_types.E := ⟨⟨spec_l1Rd_below.sound, callable_of (by kernel_rfl)⟩, ⟨spec_l1Rd_once.sound, callable_of (by kernel_rfl)⟩, ⟨spec_l1Rd_kinds.sound, callable_of (by kernel_rfl)⟩, trivial⟩
theorem spec_l1Rd_types.sound : Sound Tryd.prog 61 spec_l1Rd_types.s := by
  refine func_sound (f := spec_l1Rd_types.a) (G := spec_l1Rd_types.G) (fn := Tryd.f61) (body := bodyOf Tryd.prog 61) 1000 (by kernel_rfl) spec_l1Rd_types.E_ok Tryd.func61 (by kernel_rfl) (by kernel_rfl) (by kernel_rfl) (ptsOk_of (by kernel_rfl)) ?_ ?_ ?_ ?_
  · intro r H x h
    unfold spec_l1Rd_types.a at h
    simp only at h
    split at h
    · cases h; rfl
    · cases h
  · exact fun q avs H => pick1_none spec_l1Rd_types.G8_0 (rfl)
  · intro k q pt avs H x _ h
    rcases pick1_some h with ⟨rfl, h⟩ | h
    · exact spec_l1Rd_types.G8_s _ h
    cases h
  · intro k avs H o h
    try dsimp only at h
    split at h
    · cases h; exact spec_l1Rd_types.eq _ _ _
    · cases h

def spec_l1Rd_word.a : FnA (List Int × Int × Int) := ⟨16, [.tmp 2], .val, [.box [.con (.int .u8), .val]], [⟨8, [0, 3, 4], [.box [], .val, .val], [.box [.con (.int .u8), .val]]⟩], fun x H => match x, H with
  | .v (.int .u64 r), [.box [.con (.int .u8) h0_0, .v (.int .i64 h0_1)]] => some (h0_0, h0_1, r)
  | _, _ => none⟩
def spec_l1Rd_word.s : Spec := mkS [.box [.con (.int .u8), .val]] (fun k avs H => match avs, H with
  | [.box 0 0], [.box [.con (.int .u8) a0_0, .v (.int .i64 a0_1)]] => some (spec_l1Rd_word.f k a0_0 a0_1)
  | _, _ => none) (fun r => (.v (.int .u64 r.2.2), [.box [.con (.int .u8) r.1, .v (.int .i64 r.2.1)]]))
def spec_l1Rd_word.E : Env := [((98, []), spec_l1Rd_next.s)]
def spec_l1Rd_word.G8 (k : Nat) (avs : List AV) (H : List HE) : Option (List Int × Int × Int) := match avs, H with
  | [.box 0 0, .v (.int .u64 x3), .v (.int .i64 x4)], [.box [.con (.int .u8) h0_0, .v (.int .i64 h0_1)]] => spec_l1Rd_word.p8 k h0_0 h0_1 x3 x4
  | _, _ => none
def spec_l1Rd_word.G (k p : Nat) (avs : List AV) (H : List HE) : Option (List Int × Int × Int) := (pick1 8 (spec_l1Rd_word.G8 k avs H) none p)
set_option maxRecDepth 100000 in
theorem spec_l1Rd_word.eq (k : Nat) (a0_0 : List Int) (a0_1 : Int) : fromTop Tryd.prog spec_l1Rd_word.E k spec_l1Rd_word.a (spec_l1Rd_word.G k) 1000 (bodyOf Tryd.prog 104) [.box 0 0] [.box [.con (.int .u8) a0_0, .v (.int .i64 a0_1)]] = spec_l1Rd_word.f k a0_0 a0_1 := by kernel_rfl
set_option maxRecDepth 100000 in
theorem spec_l1Rd_word.eq8 (k : Nat) (h0_0 : List Int) (h0_1 : Int) (x3 : Int) (x4 : Int) : fromPt Tryd.prog spec_l1Rd_word.E k spec_l1Rd_word.a (spec_l1Rd_word.G k) 1000 (bodyOf Tryd.prog 104) 8 [.box 0 0, .v (.int .u64 x3), .v (.int .i64 x4)] [.box [.con (.int .u8) h0_0, .v (.int .i64 h0_1)]] = spec_l1Rd_word.p8 (k + 1) h0_0 h0_1 x3 x4 := by kernel_rfl
theorem spec_l1Rd_word.G8_0 {avs : List AV} {H : List HE} : spec_l1Rd_word.G8 0 avs H = none := by unfold spec_l1Rd_word.G8; split <;> rfl
theorem spec_l1Rd_word.G8_s (k : Nat) {avs : List AV} {H : List HE} {x : List Int × Int × Int} (h : spec_l1Rd_word.G8 (k + 1) avs H = some x) : fromPt Tryd.prog spec_l1Rd_word.E k spec_l1Rd_word.a (spec_l1Rd_word.G k) 1000 (bodyOf Tryd.prog 104) 8 avs H = some x := by
  unfold spec_l1Rd_word.G8 at h
  split at h
  · rw [← h]; exact spec_l1Rd_word.eq8 _ _ _ _ _
  · cases h
theorem spec_l1Rd_word.E_ok : EnvOk Tryd.prog spec_l1Rd_word.E := ⟨⟨spec_l1Rd_next.sound, callable_of (by kernel_rfl)⟩, trivial⟩
theorem spec_l1Rd_word.sound : Sound Tryd.prog 104 spec_l1Rd_word.s := by
  refine func_sound (f := spec_l1Rd_word.a) (G := spec_l1Rd_word.G) (fn := Tryd.f104) (body := bodyOf Tryd.prog 104) 1000 (by kernel_rfl) spec_l1Rd_word.E_ok Tryd.func104 (by kernel_rfl) (by kernel_rfl) (by kernel_rfl) (ptsOk_of (by kernel_rfl)) ?_ ?_ ?_ ?_
  · intro r H x h
    unfold spec_l1Rd_word.a at h
    simp only at h
    split at h
    · cases h; rfl
    · cases h
  · exact fun q avs H => pick1_none spec_l1Rd_word.G8_0 (rfl)
  · intro k q pt avs H x _ h
    rcases pick1_some h with ⟨rfl, h⟩ | h
    · exact spec_l1Rd_word.G8_s _ h
    cases h
  · intro k avs H o h
    try dsimp only at h
    split at h
    · cases h; exact spec_l1Rd_word.eq _ _ _
    · cases h

def spec_l1Rd_odd.a : FnA (List Int × Int × Int) := ⟨20, [.tmp 2], .val, [.box [.con (.int .u8), .val]], [], fun x H => match x, H with
  | .v (.int .i64 r), [.box [.con (.int .u8) h0_0, .v (.int .i64 h0_1)]] => some (h0_0, h0_1, r)
  | _, _ => none⟩
def spec_l1Rd_odd.s : Spec := mkS [.box [.con (.int .u8), .val]] (fun k avs H => match avs, H with
  | [.box 0 0], [.box [.con (.int .u8) a0_0, .v (.int .i64 a0_1)]] => some (spec_l1Rd_odd.f k a0_0 a0_1)
  | _, _ => none) (fun r => (.v (.int .i64 r.2.2), [.box [.con (.int .u8) r.1, .v (.int .i64 r.2.1)]]))
def spec_l1Rd_odd.E : Env := [((63, []), spec_l1Rd_below.s), ((104, []), spec_l1Rd_word.s)]
def spec_l1Rd_odd.G (k p : Nat) (avs : List AV) (H : List HE) : Option (List Int × Int × Int) := none
set_option maxRecDepth 100000 in
theorem spec_l1Rd_odd.eq (k : Nat) (a0_0 : List Int) (a0_1 : Int) : fromTop Tryd.prog spec_l1Rd_odd.E k spec_l1Rd_odd.a (spec_l1Rd_odd.G k) 1000 (bodyOf Tryd.prog 96) [.box 0 0] [.box [.con (.int .u8) a0_0, .v (.int .i64 a0_1)]] = spec_l1Rd_odd.f k a0_0 a0_1 := by kernel_rfl
theorem spec_l1Rd_odd.E_ok : EnvOk Tryd.prog spec_l1Rd_odd.E := ⟨⟨spec_l1Rd_below.sound, callable_of (by kernel_rfl)⟩, ⟨spec_l1Rd_word.sound, callable_of (by kernel_rfl)⟩, trivial⟩
theorem spec_l1Rd_odd.sound : Sound Tryd.prog 96 spec_l1Rd_odd.s := by
  refine func_sound (f := spec_l1Rd_odd.a) (G := spec_l1Rd_odd.G) (fn := Tryd.f96) (body := bodyOf Tryd.prog 96) 1000 (by kernel_rfl) spec_l1Rd_odd.E_ok Tryd.func96 (by kernel_rfl) (by kernel_rfl) (by kernel_rfl) (ptsOk_of (by kernel_rfl)) ?_ ?_ ?_ ?_
  · intro r H x h
    unfold spec_l1Rd_odd.a at h
    simp only at h
    split at h
    · cases h; rfl
    · cases h
  · intro q avs H; rfl
  · intro k q pt avs H x _ h; cases h
  · intro k avs H o h
    try dsimp only at h
    split at h
    · cases h; exact spec_l1Rd_odd.eq _ _ _
    · cases h

def spec_l1Rd_near.a : FnA (List Int × Int × Int) := ⟨31, [.tmp 6], .val, [.box [.con (.int .u8), .val]], [], fun x H => match x, H with
  | .v (.int .i64 r), [.box [.con (.int .u8) h0_0, .v (.int .i64 h0_1)]] => some (h0_0, h0_1, r)
  | _, _ => none⟩
def spec_l1Rd_near.s : Spec := mkS [.box [.con (.int .u8), .val], .val, .val] (fun k avs H => match avs, H with
  | [.box 0 0, .v (.int .i64 a1), .v (.int .i64 a2)], [.box [.con (.int .u8) a0_0, .v (.int .i64 a0_1)]] => some (spec_l1Rd_near.f k a0_0 a0_1 a1 a2)
  | _, _ => none) (fun r => (.v (.int .i64 r.2.2), [.box [.con (.int .u8) r.1, .v (.int .i64 r.2.1)]]))
def spec_l1Rd_near.E : Env := [((63, []), spec_l1Rd_below.s), ((104, []), spec_l1Rd_word.s)]
def spec_l1Rd_near.G (k p : Nat) (avs : List AV) (H : List HE) : Option (List Int × Int × Int) := none
set_option maxRecDepth 100000 in
theorem spec_l1Rd_near.eq (k : Nat) (a0_0 : List Int) (a0_1 : Int) (a1 : Int) (a2 : Int) : fromTop Tryd.prog spec_l1Rd_near.E k spec_l1Rd_near.a (spec_l1Rd_near.G k) 1000 (bodyOf Tryd.prog 105) [.box 0 0, .v (.int .i64 a1), .v (.int .i64 a2)] [.box [.con (.int .u8) a0_0, .v (.int .i64 a0_1)]] = spec_l1Rd_near.f k a0_0 a0_1 a1 a2 := by kernel_rfl
theorem spec_l1Rd_near.E_ok : EnvOk Tryd.prog spec_l1Rd_near.E := ⟨⟨spec_l1Rd_below.sound, callable_of (by kernel_rfl)⟩, ⟨spec_l1Rd_word.sound, callable_of (by kernel_rfl)⟩, trivial⟩
theorem spec_l1Rd_near.sound : Sound Tryd.prog 105 spec_l1Rd_near.s := by
  refine func_sound (f := spec_l1Rd_near.a) (G := spec_l1Rd_near.G) (fn := Tryd.f105) (body := bodyOf Tryd.prog 105) 1000 (by kernel_rfl) spec_l1Rd_near.E_ok Tryd.func105 (by kernel_rfl) (by kernel_rfl) (by kernel_rfl) (ptsOk_of (by kernel_rfl)) ?_ ?_ ?_ ?_
  · intro r H x h
    unfold spec_l1Rd_near.a at h
    simp only at h
    split at h
    · cases h; rfl
    · cases h
  · intro q avs H; rfl
  · intro k q pt avs H x _ h; cases h
  · intro k avs H o h
    try dsimp only at h
    split at h
    · cases h; exact spec_l1Rd_near.eq _ _ _ _ _
    · cases h

def spec_l1Rd_off.a : FnA (List Int × Int × Int) := ⟨22, [.tmp 6], .val, [.box [.con (.int .u8), .val]], [], fun x H => match x, H with
  | .v (.int .i64 r), [.box [.con (.int .u8) h0_0, .v (.int .i64 h0_1)]] => some (h0_0, h0_1, r)
  | _, _ => none⟩
def spec_l1Rd_off.s : Spec := mkS [.box [.con (.int .u8), .val], .val, .val] (fun k avs H => match avs, H with
  | [.box 0 0, .v (.int .i64 a1), .v (.int .i64 a2)], [.box [.con (.int .u8) a0_0, .v (.int .i64 a0_1)]] => some (spec_l1Rd_off.f k a0_0 a0_1 a1 a2)
  | _, _ => none) (fun r => (.v (.int .i64 r.2.2), [.box [.con (.int .u8) r.1, .v (.int .i64 r.2.1)]]))
def spec_l1Rd_off.E : Env := [((94, []), spec_l1Rd_once.s), ((63, []), spec_l1Rd_below.s), ((105, []), spec_l1Rd_near.s)]
def spec_l1Rd_off.G (k p : Nat) (avs : List AV) (H : List HE) : Option (List Int × Int × Int) := none
set_option maxRecDepth 100000 in
theorem spec_l1Rd_off.eq (k : Nat) (a0_0 : List Int) (a0_1 : Int) (a1 : Int) (a2 : Int) : fromTop Tryd.prog spec_l1Rd_off.E k spec_l1Rd_off.a (spec_l1Rd_off.G k) 1000 (bodyOf Tryd.prog 97) [.box 0 0, .v (.int .i64 a1), .v (.int .i64 a2)] [.box [.con (.int .u8) a0_0, .v (.int .i64 a0_1)]] = spec_l1Rd_off.f k a0_0 a0_1 a1 a2 := by kernel_rfl
theorem spec_l1Rd_off.E_ok : EnvOk Tryd.prog spec_l1Rd_off.E := ⟨⟨spec_l1Rd_once.sound, callable_of (by kernel_rfl)⟩, ⟨spec_l1Rd_below.sound, callable_of (by kernel_rfl)⟩, ⟨spec_l1Rd_near.sound, callable_of (by kernel_rfl)⟩, trivial⟩
theorem spec_l1Rd_off.sound : Sound Tryd.prog 97 spec_l1Rd_off.s := by
  refine func_sound (f := spec_l1Rd_off.a) (G := spec_l1Rd_off.G) (fn := Tryd.f97) (body := bodyOf Tryd.prog 97) 1000 (by kernel_rfl) spec_l1Rd_off.E_ok Tryd.func97 (by kernel_rfl) (by kernel_rfl) (by kernel_rfl) (ptsOk_of (by kernel_rfl)) ?_ ?_ ?_ ?_
  · intro r H x h
    unfold spec_l1Rd_off.a at h
    simp only at h
    split at h
    · cases h; rfl
    · cases h
  · intro q avs H; rfl
  · intro k q pt avs H x _ h; cases h
  · intro k avs H o h
    try dsimp only at h
    split at h
    · cases h; exact spec_l1Rd_off.eq _ _ _ _ _
    · cases h

def spec_l1Rd_ref.a : FnA (List Int × Int × Int) := ⟨28, [.tmp 2], .val, [.box [.con (.int .u8), .val]], [], fun x H => match x, H with
  | .v (.int .i64 r), [.box [.con (.int .u8) h0_0, .v (.int .i64 h0_1)]] => some (h0_0, h0_1, r)
  | _, _ => none⟩
def spec_l1Rd_ref.s : Spec := mkS [.box [.con (.int .u8), .val]] (fun k avs H => match avs, H with
  | [.box 0 0], [.box [.con (.int .u8) a0_0, .v (.int .i64 a0_1)]] => some (spec_l1Rd_ref.f k a0_0 a0_1)
  | _, _ => none) (fun r => (.v (.int .i64 r.2.2), [.box [.con (.int .u8) r.1, .v (.int .i64 r.2.1)]]))
def spec_l1Rd_ref.E : Env := [((63, []), spec_l1Rd_below.s), ((97, []), spec_l1Rd_off.s)]
def spec_l1Rd_ref.G (k p : Nat) (avs : List AV) (H : List HE) : Option (List Int × Int × Int) := none
set_option maxRecDepth 100000 in
theorem spec_l1Rd_ref.eq (k : Nat) (a0_0 : List Int) (a0_1 : Int) : fromTop Tryd.prog spec_l1Rd_ref.E k spec_l1Rd_ref.a (spec_l1Rd_ref.G k) 1000 (bodyOf Tryd.prog 64) [.box 0 0] [.box [.con (.int .u8) a0_0, .v (.int .i64 a0_1)]] = spec_l1Rd_ref.f k a0_0 a0_1 := by kernel_rfl
theorem spec_l1Rd_ref.E_ok : EnvOk Tryd.prog spec_l1Rd_ref.E := ⟨⟨spec_l1Rd_below.sound, callable_of (by kernel_rfl)⟩, ⟨spec_l1Rd_off.sound, callable_of (by kernel_rfl)⟩, trivial⟩
theorem spec_l1Rd_ref.sound : Sound Tryd.prog 64 spec_l1Rd_ref.s := by
  refine func_sound (f := spec_l1Rd_ref.a) (G := spec_l1Rd_ref.G) (fn := Tryd.f64) (body := bodyOf Tryd.prog 64) 1000 (by kernel_rfl) spec_l1Rd_ref.E_ok Tryd.func64 (by kernel_rfl) (by kernel_rfl) (by kernel_rfl) (ptsOk_of (by kernel_rfl)) ?_ ?_ ?_ ?_
  · intro r H x h
    unfold spec_l1Rd_ref.a at h
    simp only at h
    split at h
    · cases h; rfl
    · cases h
  · intro q avs H; rfl
  · intro k q pt avs H x _ h; cases h
  · intro k avs H o h
    try dsimp only at h
    split at h
    · cases h; exact spec_l1Rd_ref.eq _ _ _
    · cases h

def spec_l1Rd_obj.a : FnA (List Int × Int × Int × List Int) := ⟨80, [.cell 4 54], .agg [.val, .con (.int .i64)], [.box [.con (.int .u8), .val]], [⟨8, [0, 1, 4, 5, 6], [.box [], .con .str, .box [.val, .val], .box [.val, .row 2 (.int .i64)], .val], [.box [.con (.int .u8), .val]]⟩], fun x H => match x, H with
  | .agg [.v (.int .i64 r_0), .con (.int .i64) r_1], [.box [.con (.int .u8) h0_0, .v (.int .i64 h0_1)]] => some (h0_0, h0_1, r_0, r_1)
  | _, _ => none⟩
def spec_l1Rd_obj.s : Spec := mkS [.box [.con (.int .u8), .val], .con .str] (fun k avs H => match avs, H with
  | [.box 0 0, .con .str a1], [.box [.con (.int .u8) a0_0, .v (.int .i64 a0_1)]] => some (spec_l1Rd_obj.f k a0_0 a0_1 a1)
  | _, _ => none) (fun r => (.agg [.v (.int .i64 r.2.2.1), .con (.int .i64) r.2.2.2], [.box [.con (.int .u8) r.1, .v (.int .i64 r.2.1)]]))
def spec_l1Rd_obj.E : Env := [((63, []), spec_l1Rd_below.s), ((96, []), spec_l1Rd_odd.s), ((97, []), spec_l1Rd_off.s), ((64, []), spec_l1Rd_ref.s)]
def spec_l1Rd_obj.G8 (k : Nat) (avs : List AV) (H : List HE) : Option (List Int × Int × Int × List Int) := match avs, H with
  | [.box 0 0, .con .str x1, .box 1 0, .box 2 0, .v (.int .i64 x6)], [.box [.con (.int .u8) h0_0, .v (.int .i64 h0_1)], .box [.v (.int .i64 x4_0), .v (.slice none 0 0)], .box [.v (.int .i64 x5_0), .own 3], .row 2 (.int .i64) x5_1] => spec_l1Rd_obj.p8 k h0_0 h0_1 x1 x4_0 x5_0 x5_1 x6
  | _, _ => none
def spec_l1Rd_obj.G (k p : Nat) (avs : List AV) (H : List HE) : Option (List Int × Int × Int × List Int) := (pick1 8 (spec_l1Rd_obj.G8 k avs H) none p)
set_option maxRecDepth 100000 in
theorem spec_l1Rd_obj.eq (k : Nat) (a0_0 : List Int) (a0_1 : Int) (a1 : List ByteArray) : fromTop Tryd.prog spec_l1Rd_obj.E k spec_l1Rd_obj.a (spec_l1Rd_obj.G k) 1000 (bodyOf Tryd.prog 62) [.box 0 0, .con .str a1] [.box [.con (.int .u8) a0_0, .v (.int .i64 a0_1)]] = spec_l1Rd_obj.f k a0_0 a0_1 a1 := by kernel_rfl
set_option maxRecDepth 100000 in
theorem spec_l1Rd_obj.eq8 (k : Nat) (h0_0 : List Int) (h0_1 : Int) (x1 : List ByteArray) (x4_0 : Int) (x5_0 : Int) (x5_1 : List Int) (x6 : Int) : fromPt Tryd.prog spec_l1Rd_obj.E k spec_l1Rd_obj.a (spec_l1Rd_obj.G k) 1000 (bodyOf Tryd.prog 62) 8 [.box 0 0, .con .str x1, .box 1 0, .box 2 0, .v (.int .i64 x6)] [.box [.con (.int .u8) h0_0, .v (.int .i64 h0_1)], .box [.v (.int .i64 x4_0), .v (.slice none 0 0)], .box [.v (.int .i64 x5_0), .own 3], .row 2 (.int .i64) x5_1] = spec_l1Rd_obj.p8 (k + 1) h0_0 h0_1 x1 x4_0 x5_0 x5_1 x6 := by kernel_rfl
theorem spec_l1Rd_obj.G8_0 {avs : List AV} {H : List HE} : spec_l1Rd_obj.G8 0 avs H = none := by unfold spec_l1Rd_obj.G8; split <;> rfl
theorem spec_l1Rd_obj.G8_s (k : Nat) {avs : List AV} {H : List HE} {x : List Int × Int × Int × List Int} (h : spec_l1Rd_obj.G8 (k + 1) avs H = some x) : fromPt Tryd.prog spec_l1Rd_obj.E k spec_l1Rd_obj.a (spec_l1Rd_obj.G k) 1000 (bodyOf Tryd.prog 62) 8 avs H = some x := by
  unfold spec_l1Rd_obj.G8 at h
  split at h
  · rw [← h]; exact spec_l1Rd_obj.eq8 _ _ _ _ _ _ _ _
  · cases h
theorem spec_l1Rd_obj.E_ok : EnvOk Tryd.prog spec_l1Rd_obj.E := ⟨⟨spec_l1Rd_below.sound, callable_of (by kernel_rfl)⟩, ⟨spec_l1Rd_odd.sound, callable_of (by kernel_rfl)⟩, ⟨spec_l1Rd_off.sound, callable_of (by kernel_rfl)⟩, ⟨spec_l1Rd_ref.sound, callable_of (by kernel_rfl)⟩, trivial⟩
theorem spec_l1Rd_obj.sound : Sound Tryd.prog 62 spec_l1Rd_obj.s := by
  refine func_sound (f := spec_l1Rd_obj.a) (G := spec_l1Rd_obj.G) (fn := Tryd.f62) (body := bodyOf Tryd.prog 62) 1000 (by kernel_rfl) spec_l1Rd_obj.E_ok Tryd.func62 (by kernel_rfl) (by kernel_rfl) (by kernel_rfl) (ptsOk_of (by kernel_rfl)) ?_ ?_ ?_ ?_
  · intro r H x h
    unfold spec_l1Rd_obj.a at h
    simp only at h
    split at h
    · cases h; rfl
    · cases h
  · exact fun q avs H => pick1_none spec_l1Rd_obj.G8_0 (rfl)
  · intro k q pt avs H x _ h
    rcases pick1_some h with ⟨rfl, h⟩ | h
    · exact spec_l1Rd_obj.G8_s _ h
    cases h
  · intro k avs H o h
    try dsimp only at h
    split at h
    · cases h; exact spec_l1Rd_obj.eq _ _ _ _
    · cases h

def spec_DrawForwarded.a : FnA (List ByteArray × Int × List Int × List Int × List Int) := ⟨64, [.tmp 2, .cell 3 54, .tmp 4, .tmp 5], .tup [.con .str, .agg [.val, .con (.int .i64)], .row 2 (.int .i64), .row 2 (.int .i64)], [], [⟨16, [3, 6, 7, 8, 9, 10, 11], [.box [.val, .val], .box [.con (.int .u8), .val], .con .str, .box [.val, .con (.int .i64)], .row 2 (.int .i64), .row 2 (.int .i64), .val], []⟩], fun x H => match x, H with
  | .tup [.con .str r_0, .agg [.v (.int .i64 r_1_0), .con (.int .i64) r_1_1], .own 0, .own 1], [.row 2 (.int .i64) r_2, .row 2 (.int .i64) r_3] => some (r_0, r_1_0, r_1_1, r_2, r_3)
  | _, _ => none⟩
def spec_DrawForwarded.s : Spec := mkS [.con (.int .u8)] (fun k avs H => match avs, H with
  | [.con (.int .u8) a0], [] => some (spec_DrawForwarded.f k a0)
  | _, _ => none) (fun r => (.tup [.con .str r.1, .agg [.v (.int .i64 r.2.1), .con (.int .i64) r.2.2.1], .own 0, .own 1], [.row 2 (.int .i64) r.2.2.2.1, .row 2 (.int .i64) r.2.2.2.2]))
def spec_DrawForwarded.E : Env := [((60, []), spec_l1Open.s), ((61, []), spec_l1Rd_types.s), ((62, []), spec_l1Rd_obj.s), ((63, []), spec_l1Rd_below.s), ((64, []), spec_l1Rd_ref.s)]
def spec_DrawForwarded.G16 (k : Nat) (avs : List AV) (H : List HE) : Option (List ByteArray × Int × List Int × List Int × List Int) := match avs, H with
  | [.box 0 0, .box 1 0, .con .str x7, .box 2 0, .own 3, .own 4, .v (.int .i64 x11)], [.box [.v (.int .i64 x3_0), .v (.slice none 0 0)], .box [.con (.int .u8) x6_0, .v (.int .i64 x6_1)], .box [.v (.int .i64 x8_0), .con (.int .i64) x8_1], .row 2 (.int .i64) x9, .row 2 (.int .i64) x10] => spec_DrawForwarded.p16 k x3_0 x6_0 x6_1 x7 x8_0 x8_1 x9 x10 x11
  | _, _ => none
def spec_DrawForwarded.G (k p : Nat) (avs : List AV) (H : List HE) : Option (List ByteArray × Int × List Int × List Int × List Int) := (pick1 16 (spec_DrawForwarded.G16 k avs H) none p)
set_option maxRecDepth 100000 in
theorem spec_DrawForwarded.eq (k : Nat) (a0 : List Int) : fromTop Tryd.prog spec_DrawForwarded.E k spec_DrawForwarded.a (spec_DrawForwarded.G k) 1000 (bodyOf Tryd.prog 27) [.con (.int .u8) a0] [] = spec_DrawForwarded.f k a0 := by kernel_rfl
set_option maxRecDepth 100000 in
theorem spec_DrawForwarded.eq16 (k : Nat) (x3_0 : Int) (x6_0 : List Int) (x6_1 : Int) (x7 : List ByteArray) (x8_0 : Int) (x8_1 : List Int) (x9 : List Int) (x10 : List Int) (x11 : Int) : fromPt Tryd.prog spec_DrawForwarded.E k spec_DrawForwarded.a (spec_DrawForwarded.G k) 1000 (bodyOf Tryd.prog 27) 16 [.box 0 0, .box 1 0, .con .str x7, .box 2 0, .own 3, .own 4, .v (.int .i64 x11)] [.box [.v (.int .i64 x3_0), .v (.slice none 0 0)], .box [.con (.int .u8) x6_0, .v (.int .i64 x6_1)], .box [.v (.int .i64 x8_0), .con (.int .i64) x8_1], .row 2 (.int .i64) x9, .row 2 (.int .i64) x10] = spec_DrawForwarded.p16 (k + 1) x3_0 x6_0 x6_1 x7 x8_0 x8_1 x9 x10 x11 := by kernel_rfl
theorem spec_DrawForwarded.G16_0 {avs : List AV} {H : List HE} : spec_DrawForwarded.G16 0 avs H = none := by unfold spec_DrawForwarded.G16; split <;> rfl
theorem spec_DrawForwarded.G16_s (k : Nat) {avs : List AV} {H : List HE} {x : List ByteArray × Int × List Int × List Int × List Int} (h : spec_DrawForwarded.G16 (k + 1) avs H = some x) : fromPt Tryd.prog spec_DrawForwarded.E k spec_DrawForwarded.a (spec_DrawForwarded.G k) 1000 (bodyOf Tryd.prog 27) 16 avs H = some x := by
  unfold spec_DrawForwarded.G16 at h
  split at h
  · rw [← h]; exact spec_DrawForwarded.eq16 _ _ _ _ _ _ _ _ _ _
  · cases h
theorem spec_DrawForwarded.E_ok : EnvOk Tryd.prog spec_DrawForwarded.E := ⟨⟨spec_l1Open.sound, callable_of (by kernel_rfl)⟩, ⟨spec_l1Rd_types.sound, callable_of (by kernel_rfl)⟩, ⟨spec_l1Rd_obj.sound, callable_of (by kernel_rfl)⟩, ⟨spec_l1Rd_below.sound, callable_of (by kernel_rfl)⟩, ⟨spec_l1Rd_ref.sound, callable_of (by kernel_rfl)⟩, trivial⟩
theorem spec_DrawForwarded.sound : Sound Tryd.prog 27 spec_DrawForwarded.s := by
  refine func_sound (f := spec_DrawForwarded.a) (G := spec_DrawForwarded.G) (fn := Tryd.f27) (body := bodyOf Tryd.prog 27) 1000 (by kernel_rfl) spec_DrawForwarded.E_ok Tryd.func27 (by kernel_rfl) (by kernel_rfl) (by kernel_rfl) (ptsOk_of (by kernel_rfl)) ?_ ?_ ?_ ?_
  · intro r H x h
    unfold spec_DrawForwarded.a at h
    simp only at h
    split at h
    · cases h; rfl
    · cases h
  · exact fun q avs H => pick1_none spec_DrawForwarded.G16_0 (rfl)
  · intro k q pt avs H x _ h
    rcases pick1_some h with ⟨rfl, h⟩ | h
    · exact spec_DrawForwarded.G16_s _ h
    cases h
  · intro k avs H o h
    try dsimp only at h
    split at h
    · cases h; exact spec_DrawForwarded.eq _ _
    · cases h

def impl_size_string.a : FnA (Int) := ⟨5, [.tmp 2], .val, [], [], fun x H => match x, H with
  | .v (.int .i64 r), [] => some r
  | _, _ => none⟩
def impl_size_string.s : Spec := mkS [.con .str] (fun k avs H => match avs, H with
  | [.con .str a0], [] => some (impl_size_string.f a0)
  | _, _ => none) (fun r => (.v (.int .i64 r), []))
def impl_size_string.E : Env := []
def impl_size_string.G (k p : Nat) (avs : List AV) (H : List HE) : Option (Int) := none
set_option maxRecDepth 100000 in
theorem impl_size_string.eq (k : Nat) (a0 : List ByteArray) : fromTop Tryd.prog impl_size_string.E k impl_size_string.a (impl_size_string.G k) 1000 (bodyOf Tryd.prog 77) [.con .str a0] [] = impl_size_string.f a0 := by kernel_rfl
theorem impl_size_string.E_ok : EnvOk Tryd.prog impl_size_string.E := trivial
theorem impl_size_string.sound : Sound Tryd.prog 77 impl_size_string.s := by
  refine func_sound (f := impl_size_string.a) (G := impl_size_string.G) (fn := Tryd.f77) (body := bodyOf Tryd.prog 77) 1000 (by kernel_rfl) impl_size_string.E_ok Tryd.func77 (by kernel_rfl) (by kernel_rfl) (by kernel_rfl) (ptsOk_of (by kernel_rfl)) ?_ ?_ ?_ ?_
  · intro r H x h
    unfold impl_size_string.a at h
    simp only at h
    split at h
    · cases h; rfl
    · cases h
  · intro q avs H; rfl
  · intro k q pt avs H x _ h; cases h
  · intro k avs H o h
    try dsimp only at h
    split at h
    · cases h; exact impl_size_string.eq _ _
    · cases h

def impl_within.a : FnA (Bool) := ⟨15, [.tmp 6], .bool, [], [], fun x H => match x, H with
  | .bs false r, [] => some r
  | _, _ => none⟩
def impl_within.s : Spec := mkS [.val, .val, .val] (fun k avs H => match avs, H with
  | [.v (.int .i64 a0), .v (.int .i64 a1), .v (.int .i64 a2)], [] => some (impl_within.f a0 a1 a2)
  | _, _ => none) (fun r => (.bs false r, []))
def impl_within.E : Env := []
def impl_within.G (k p : Nat) (avs : List AV) (H : List HE) : Option (Bool) := none
set_option maxRecDepth 100000 in
theorem impl_within.eq (k : Nat) (a0 : Int) (a1 : Int) (a2 : Int) : fromTop Tryd.prog impl_within.E k impl_within.a (impl_within.G k) 1000 (bodyOf Tryd.prog 76) [.v (.int .i64 a0), .v (.int .i64 a1), .v (.int .i64 a2)] [] = impl_within.f a0 a1 a2 := by kernel_rfl
theorem impl_within.E_ok : EnvOk Tryd.prog impl_within.E := trivial
theorem impl_within.sound : Sound Tryd.prog 76 impl_within.s := by
  refine func_sound (f := impl_within.a) (G := impl_within.G) (fn := Tryd.f76) (body := bodyOf Tryd.prog 76) 1000 (by kernel_rfl) impl_within.E_ok Tryd.func76 (by kernel_rfl) (by kernel_rfl) (by kernel_rfl) (ptsOk_of (by kernel_rfl)) ?_ ?_ ?_ ?_
  · intro r H x h
    unfold impl_within.a at h
    simp only at h
    split at h
    · cases h; rfl
    · cases h
  · intro q avs H; rfl
  · intro k q pt avs H x _ h; cases h
  · intro k avs H o h
    try dsimp only at h
    split at h
    · cases h; exact impl_within.eq _ _ _ _
    · cases h

def strings_Trim.s : Spec := mkS [.val, .val] (fun _ avs H => match avs, H with
  | [.v (.string a0), .v (.string a1)], [] => some (strings_Trim.f a0 a1)
  | _, _ => none) (fun r => (.v (.string r), []))
theorem strings_Trim.sound : Sound Tryd.prog 101 strings_Trim.s := by
  refine sound_plain (emb := fun r => .v (.string r)) ?_
  intro k avs H o x h hx
  split at h
  case h_2 => cases h
  rename_i a0 a1
  cases h
  refine ⟨rfl, fun M w ρ hp vals hr => ?_⟩
  obtain ⟨v0, q0, rfl, rfl, v1, q1, rfl, rfl, rfl⟩ := hr
  unfold strings_Trim.f at hx
  split at hx
  case isFalse => cases hx
  rename_i h0
  split at hx
  case isFalse => cases hx
  rename_i h1
  split at hx
  case isFalse => cases hx
  rename_i h2
  cases hx
  refine (Go.Proofs.Any.strings_Trim_laid Go.Proofs.Tryd.lays160 (by kernel_rfl) a0 a1 w h0 (by omega) (Go.Proofs.ascii_of_all h2)).mono ?_
  rintro e w' ⟨rfl, hb⟩
  exact ⟨_, rfl, hb, fun _ _ _ _ => rfl⟩

def impl_isType.a : FnA (Bool) := ⟨11, [.tmp 2], .bool, [], [], fun x H => match x, H with
  | .bs false r, [] => some r
  | _, _ => none⟩
def impl_isType.s : Spec := mkS [.val] (fun k avs H => match avs, H with
  | [.v (.string a0)], [] => some (impl_isType.f a0)
  | _, _ => none) (fun r => (.bs false r, []))
def impl_isType.E : Env := [((76, []), impl_within.s), ((101, []), strings_Trim.s)]
def impl_isType.G (k p : Nat) (avs : List AV) (H : List HE) : Option (Bool) := none
set_option maxRecDepth 100000 in
theorem impl_isType.eq (k : Nat) (a0 : ByteArray) : fromTop Tryd.prog impl_isType.E k impl_isType.a (impl_isType.G k) 1000 (bodyOf Tryd.prog 80) [.v (.string a0)] [] = impl_isType.f a0 := by kernel_rfl
theorem impl_isType.E_ok : EnvOk Tryd.prog impl_isType.E := ⟨⟨impl_within.sound, callable_of (by kernel_rfl)⟩, ⟨strings_Trim.sound, callable_of (by kernel_rfl)⟩, trivial⟩
theorem impl_isType.sound : Sound Tryd.prog 80 impl_isType.s := by
  refine func_sound (f := impl_isType.a) (G := impl_isType.G) (fn := Tryd.f80) (body := bodyOf Tryd.prog 80) 1000 (by kernel_rfl) impl_isType.E_ok Tryd.func80 (by kernel_rfl) (by kernel_rfl) (by kernel_rfl) (ptsOk_of (by kernel_rfl)) ?_ ?_ ?_ ?_
  · intro r H x h
    unfold impl_isType.a at h
    simp only at h
    split at h
    · cases h; rfl
    · cases h
  · intro q avs H; rfl
  · intro k q pt avs H x _ h; cases h
  · intro k avs H o h
    try dsimp only at h
    split at h
    · cases h; exact impl_isType.eq _ _
    · cases h

def impl_TypesOk_1.a : FnA (Bool) := ⟨6, [.tmp 2], .bool, [], [], fun x H => match x, H with
  | .bs false r, [] => some r
  | _, _ => none⟩
def impl_TypesOk_1.s : Spec := mkS [.val] (fun k avs H => match avs, H with
  | [.v (.string a0)], [] => some (impl_TypesOk_1.f a0)
  | _, _ => none) (fun r => (.bs false r, []))
def impl_TypesOk_1.E : Env := [((80, []), impl_isType.s)]
def impl_TypesOk_1.G (k p : Nat) (avs : List AV) (H : List HE) : Option (Bool) := none
set_option maxRecDepth 100000 in
theorem impl_TypesOk_1.eq (k : Nat) (a0 : ByteArray) : fromTop Tryd.prog impl_TypesOk_1.E k impl_TypesOk_1.a (impl_TypesOk_1.G k) 1000 (bodyOf Tryd.prog 79) [.v (.string a0)] [] = impl_TypesOk_1.f a0 := by kernel_rfl
theorem impl_TypesOk_1.E_ok : EnvOk Tryd.prog impl_TypesOk_1.E := ⟨⟨impl_isType.sound, callable_of (by kernel_rfl)⟩, trivial⟩
theorem impl_TypesOk_1.sound : Sound Tryd.prog 79 impl_TypesOk_1.s := by
  refine func_sound (f := impl_TypesOk_1.a) (G := impl_TypesOk_1.G) (fn := Tryd.f79) (body := bodyOf Tryd.prog 79) 1000 (by kernel_rfl) impl_TypesOk_1.E_ok Tryd.func79 (by kernel_rfl) (by kernel_rfl) (by kernel_rfl) (ptsOk_of (by kernel_rfl)) ?_ ?_ ?_ ?_
  · intro r H x h
    unfold impl_TypesOk_1.a at h
    simp only at h
    split at h
    · cases h; rfl
    · cases h
  · intro q avs H; rfl
  · intro k q pt avs H x _ h; cases h
  · intro k avs H o h
    try dsimp only at h
    split at h
    · cases h; exact impl_TypesOk_1.eq _ _
    · cases h

def slices_IndexFunc_string_at_impl_TypesOk_1.a : FnA (Int) := ⟨19, [.tmp 4], .val, [], [⟨6, [0, 1, 7, 8], [.con .str, .fn 79 0 [], .val, .val], []⟩], fun x H => match x, H with
  | .v (.int .i64 r), [] => some r
  | _, _ => none⟩
def slices_IndexFunc_string_at_impl_TypesOk_1.s : Spec := mkS [.con .str, .fn 79 0 []] (fun k avs H => match avs, H with
  | [.con .str a0, .fn 79 0 []], [] => some (slices_IndexFunc_string_at_impl_TypesOk_1.f k a0)
  | _, _ => none) (fun r => (.v (.int .i64 r), []))
def slices_IndexFunc_string_at_impl_TypesOk_1.E : Env := [((79, []), impl_TypesOk_1.s)]
def slices_IndexFunc_string_at_impl_TypesOk_1.G6 (k : Nat) (avs : List AV) (H : List HE) : Option (Int) := match avs, H with
  | [.con .str x0, .fn 79 0 [], .v (.int .i64 x7), .v (.int .i64 x8)], [] => slices_IndexFunc_string_at_impl_TypesOk_1.p6 k x0 x7 x8
  | _, _ => none
def slices_IndexFunc_string_at_impl_TypesOk_1.G (k p : Nat) (avs : List AV) (H : List HE) : Option (Int) := (pick1 6 (slices_IndexFunc_string_at_impl_TypesOk_1.G6 k avs H) none p)
set_option maxRecDepth 100000 in
theorem slices_IndexFunc_string_at_impl_TypesOk_1.eq (k : Nat) (a0 : List ByteArray) : fromTop Tryd.prog slices_IndexFunc_string_at_impl_TypesOk_1.E k slices_IndexFunc_string_at_impl_TypesOk_1.a (slices_IndexFunc_string_at_impl_TypesOk_1.G k) 1000 (bodyOf Tryd.prog 100) [.con .str a0, .fn 79 0 []] [] = slices_IndexFunc_string_at_impl_TypesOk_1.f k a0 := by kernel_rfl
set_option maxRecDepth 100000 in
theorem slices_IndexFunc_string_at_impl_TypesOk_1.eq6 (k : Nat) (x0 : List ByteArray) (x7 : Int) (x8 : Int) : fromPt Tryd.prog slices_IndexFunc_string_at_impl_TypesOk_1.E k slices_IndexFunc_string_at_impl_TypesOk_1.a (slices_IndexFunc_string_at_impl_TypesOk_1.G k) 1000 (bodyOf Tryd.prog 100) 6 [.con .str x0, .fn 79 0 [], .v (.int .i64 x7), .v (.int .i64 x8)] [] = slices_IndexFunc_string_at_impl_TypesOk_1.p6 (k + 1) x0 x7 x8 := by kernel_rfl
theorem slices_IndexFunc_string_at_impl_TypesOk_1.G6_0 {avs : List AV} {H : List HE} : slices_IndexFunc_string_at_impl_TypesOk_1.G6 0 avs H = none := by unfold slices_IndexFunc_string_at_impl_TypesOk_1.G6; split <;> rfl
theorem slices_IndexFunc_string_at_impl_TypesOk_1.G6_s (k : Nat) {avs : List AV} {H : List HE} {x : Int} (h : slices_IndexFunc_string_at_impl_TypesOk_1.G6 (k + 1) avs H = some x) : fromPt Tryd.prog slices_IndexFunc_string_at_impl_TypesOk_1.E k slices_IndexFunc_string_at_impl_TypesOk_1.a (slices_IndexFunc_string_at_impl_TypesOk_1.G k) 1000 (bodyOf Tryd.prog 100) 6 avs H = some x := by
  unfold slices_IndexFunc_string_at_impl_TypesOk_1.G6 at h
  split at h
  · rw [← h]; exact slices_IndexFunc_string_at_impl_TypesOk_1.eq6 _ _ _ _
  · cases h
theorem slices_IndexFunc_string_at_impl_TypesOk_1.E_ok : EnvOk Tryd.prog slices_IndexFunc_string_at_impl_TypesOk_1.E := ⟨⟨impl_TypesOk_1.sound, callable_of (by kernel_rfl)⟩, trivial⟩
theorem slices_IndexFunc_string_at_impl_TypesOk_1.sound : Sound Tryd.prog 100 slices_IndexFunc_string_at_impl_TypesOk_1.s := by
  refine func_sound (f := slices_IndexFunc_string_at_impl_TypesOk_1.a) (G := slices_IndexFunc_string_at_impl_TypesOk_1.G) (fn := Tryd.f100) (body := bodyOf Tryd.prog 100) 1000 (by kernel_rfl) slices_IndexFunc_string_at_impl_TypesOk_1.E_ok Tryd.func100 (by kernel_rfl) (by kernel_rfl) (by kernel_rfl) (ptsOk_of (by kernel_rfl)) ?_ ?_ ?_ ?_
  · intro r H x h
    unfold slices_IndexFunc_string_at_impl_TypesOk_1.a at h
    simp only at h
    split at h
    · cases h; rfl
    · cases h
  · exact fun q avs H => pick1_none slices_IndexFunc_string_at_impl_TypesOk_1.G6_0 (rfl)
  · intro k q pt avs H x _ h
    rcases pick1_some h with ⟨rfl, h⟩ | h
    · exact slices_IndexFunc_string_at_impl_TypesOk_1.G6_s _ h
    cases h
  · intro k avs H o h
    try dsimp only at h
    split at h
    · cases h; exact slices_IndexFunc_string_at_impl_TypesOk_1.eq _ _
    · cases h

def slices_ContainsFunc_string_at_impl_TypesOk_1.a : FnA (Bool) := ⟨9, [.tmp 4], .bool, [], [], fun x H => match x, H with
  | .bs false r, [] => some r
  | _, _ => none⟩
def slices_ContainsFunc_string_at_impl_TypesOk_1.s : Spec := mkS [.con .str, .fn 79 0 []] (fun k avs H => match avs, H with
  | [.con .str a0, .fn 79 0 []], [] => some (slices_ContainsFunc_string_at_impl_TypesOk_1.f k a0)
  | _, _ => none) (fun r => (.bs false r, []))
def slices_ContainsFunc_string_at_impl_TypesOk_1.E : Env := [((100, [79]), slices_IndexFunc_string_at_impl_TypesOk_1.s)]
def slices_ContainsFunc_string_at_impl_TypesOk_1.G (k p : Nat) (avs : List AV) (H : List HE) : Option (Bool) := none
set_option maxRecDepth 100000 in
theorem slices_ContainsFunc_string_at_impl_TypesOk_1.eq (k : Nat) (a0 : List ByteArray) : fromTop Tryd.prog slices_ContainsFunc_string_at_impl_TypesOk_1.E k slices_ContainsFunc_string_at_impl_TypesOk_1.a (slices_ContainsFunc_string_at_impl_TypesOk_1.G k) 1000 (bodyOf Tryd.prog 78) [.con .str a0, .fn 79 0 []] [] = slices_ContainsFunc_string_at_impl_TypesOk_1.f k a0 := by kernel_rfl
theorem slices_ContainsFunc_string_at_impl_TypesOk_1.E_ok : EnvOk Tryd.prog slices_ContainsFunc_string_at_impl_TypesOk_1.E := ⟨⟨slices_IndexFunc_string_at_impl_TypesOk_1.sound, callable_of (by kernel_rfl)⟩, trivial⟩
theorem slices_ContainsFunc_string_at_impl_TypesOk_1.sound : Sound Tryd.prog 78 slices_ContainsFunc_string_at_impl_TypesOk_1.s := by
  refine func_sound (f := slices_ContainsFunc_string_at_impl_TypesOk_1.a) (G := slices_ContainsFunc_string_at_impl_TypesOk_1.G) (fn := Tryd.f78) (body := bodyOf Tryd.prog 78) 1000 (by kernel_rfl) slices_ContainsFunc_string_at_impl_TypesOk_1.E_ok Tryd.func78 (by kernel_rfl) (by kernel_rfl) (by kernel_rfl) (ptsOk_of (by kernel_rfl)) ?_ ?_ ?_ ?_
  · intro r H x h
    unfold slices_ContainsFunc_string_at_impl_TypesOk_1.a at h
    simp only at h
    split at h
    · cases h; rfl
    · cases h
  · intro q avs H; rfl
  · intro k q pt avs H x _ h; cases h
  · intro k avs H o h
    try dsimp only at h
    split at h
    · cases h; exact slices_ContainsFunc_string_at_impl_TypesOk_1.eq _ _
    · cases h

def impl_TypesOk.a : FnA (Bool) := ⟨11, [.tmp 2], .bool, [], [], fun x H => match x, H with
  | .bs false r, [] => some r
  | _, _ => none⟩
def impl_TypesOk.s : Spec := mkS [.con .str] (fun k avs H => match avs, H with
  | [.con .str a0], [] => some (impl_TypesOk.f k a0)
  | _, _ => none) (fun r => (.bs false r, []))
def impl_TypesOk.E : Env := [((77, []), impl_size_string.s), ((76, []), impl_within.s), ((78, [79]), slices_ContainsFunc_string_at_impl_TypesOk_1.s)]
def impl_TypesOk.G (k p : Nat) (avs : List AV) (H : List HE) : Option (Bool) := none
set_option maxRecDepth 100000 in
theorem impl_TypesOk.eq (k : Nat) (a0 : List ByteArray) : fromTop Tryd.prog impl_TypesOk.E k impl_TypesOk.a (impl_TypesOk.G k) 1000 (bodyOf Tryd.prog 40) [.con .str a0] [] = impl_TypesOk.f k a0 := by kernel_rfl
theorem impl_TypesOk.E_ok : EnvOk Tryd.prog impl_TypesOk.E := ⟨⟨impl_size_string.sound, callable_of (by kernel_rfl)⟩, ⟨impl_within.sound, callable_of (by kernel_rfl)⟩, ⟨slices_ContainsFunc_string_at_impl_TypesOk_1.sound, callable_of (by kernel_rfl)⟩, trivial⟩
theorem impl_TypesOk.sound : Sound Tryd.prog 40 impl_TypesOk.s := by
  refine func_sound (f := impl_TypesOk.a) (G := impl_TypesOk.G) (fn := Tryd.f40) (body := bodyOf Tryd.prog 40) 1000 (by kernel_rfl) impl_TypesOk.E_ok Tryd.func40 (by kernel_rfl) (by kernel_rfl) (by kernel_rfl) (ptsOk_of (by kernel_rfl)) ?_ ?_ ?_ ?_
  · intro r H x h
    unfold impl_TypesOk.a at h
    simp only at h
    split at h
    · cases h; rfl
    · cases h
  · intro q avs H; rfl
  · intro k q pt avs H x _ h; cases h
  · intro k avs H o h
    try dsimp only at h
    split at h
    · cases h; exact impl_TypesOk.eq _ _
    · cases h

def impl_RefKind.a : FnA (Int) := ⟨22, [.tmp 2], .val, [], [], fun x H => match x, H with
  | .v (.int .i64 r), [] => some r
  | _, _ => none⟩
def impl_RefKind.s : Spec := mkS [.val] (fun k avs H => match avs, H with
  | [.v (.int .i64 a0)], [] => some (impl_RefKind.f a0)
  | _, _ => none) (fun r => (.v (.int .i64 r), []))
def impl_RefKind.E : Env := [((76, []), impl_within.s)]
def impl_RefKind.G (k p : Nat) (avs : List AV) (H : List HE) : Option (Int) := none
set_option maxRecDepth 100000 in
theorem impl_RefKind.eq (k : Nat) (a0 : Int) : fromTop Tryd.prog impl_RefKind.E k impl_RefKind.a (impl_RefKind.G k) 1000 (bodyOf Tryd.prog 66) [.v (.int .i64 a0)] [] = impl_RefKind.f a0 := by kernel_rfl
theorem impl_RefKind.E_ok : EnvOk Tryd.prog impl_RefKind.E := ⟨⟨impl_within.sound, callable_of (by kernel_rfl)⟩, trivial⟩
theorem impl_RefKind.sound : Sound Tryd.prog 66 impl_RefKind.s := by
  refine func_sound (f := impl_RefKind.a) (G := impl_RefKind.G) (fn := Tryd.f66) (body := bodyOf Tryd.prog 66) 1000 (by kernel_rfl) impl_RefKind.E_ok Tryd.func66 (by kernel_rfl) (by kernel_rfl) (by kernel_rfl) (ptsOk_of (by kernel_rfl)) ?_ ?_ ?_ ?_
  · intro r H x h
    unfold impl_RefKind.a at h
    simp only at h
    split at h
    · cases h; rfl
    · cases h
  · intro q avs H; rfl
  · intro k q pt avs H x _ h; cases h
  · intro k avs H o h
    try dsimp only at h
    split at h
    · cases h; exact impl_RefKind.eq _ _
    · cases h

def impl_ObjOk_1.a : FnA (Bool) := ⟨6, [.tmp 2], .bool, [], [], fun x H => match x, H with
  | .bs false r, [] => some r
  | _, _ => none⟩
def impl_ObjOk_1.s : Spec := mkS [.val] (fun k avs H => match avs, H with
  | [.v (.int .i64 a0)], [] => some (impl_ObjOk_1.f a0)
  | _, _ => none) (fun r => (.bs false r, []))
def impl_ObjOk_1.E : Env := [((66, []), impl_RefKind.s)]
def impl_ObjOk_1.G (k p : Nat) (avs : List AV) (H : List HE) : Option (Bool) := none
set_option maxRecDepth 100000 in
theorem impl_ObjOk_1.eq (k : Nat) (a0 : Int) : fromTop Tryd.prog impl_ObjOk_1.E k impl_ObjOk_1.a (impl_ObjOk_1.G k) 1000 (bodyOf Tryd.prog 72) [.v (.int .i64 a0)] [] = impl_ObjOk_1.f a0 := by kernel_rfl
theorem impl_ObjOk_1.E_ok : EnvOk Tryd.prog impl_ObjOk_1.E := ⟨⟨impl_RefKind.sound, callable_of (by kernel_rfl)⟩, trivial⟩
theorem impl_ObjOk_1.sound : Sound Tryd.prog 72 impl_ObjOk_1.s := by
  refine func_sound (f := impl_ObjOk_1.a) (G := impl_ObjOk_1.G) (fn := Tryd.f72) (body := bodyOf Tryd.prog 72) 1000 (by kernel_rfl) impl_ObjOk_1.E_ok Tryd.func72 (by kernel_rfl) (by kernel_rfl) (by kernel_rfl) (ptsOk_of (by kernel_rfl)) ?_ ?_ ?_ ?_
  · intro r H x h
    unfold impl_ObjOk_1.a at h
    simp only at h
    split at h
    · cases h; rfl
    · cases h
  · intro q avs H; rfl
  · intro k q pt avs H x _ h; cases h
  · intro k avs H o h
    try dsimp only at h
    split at h
    · cases h; exact impl_ObjOk_1.eq _ _
    · cases h

def impl_isObject_at_impl_ObjOk_1.a : FnA (Bool) := ⟨51, [.tmp 6], .bool, [], [⟨14, [0, 2, 4, 29, 30, 31], [.con .str, .fn 72 0 [], .box [.val, .con (.int .i64)], .con (.int .i64), .val, .val], []⟩], fun x H => match x, H with
  | .bs false r, [] => some r
  | _, _ => none⟩
def impl_isObject_at_impl_ObjOk_1.s : Spec := mkS [.con .str, .agg [.val, .con (.int .i64)], .fn 72 0 []] (fun k avs H => match avs, H with
  | [.con .str a0, .agg [.v (.int .i64 a1_0), .con (.int .i64) a1_1], .fn 72 0 []], [] => some (impl_isObject_at_impl_ObjOk_1.f k a0 a1_0 a1_1)
  | _, _ => none) (fun r => (.bs false r, []))
def impl_isObject_at_impl_ObjOk_1.E : Env := [((77, []), impl_size_string.s), ((76, []), impl_within.s), ((72, []), impl_ObjOk_1.s)]
def impl_isObject_at_impl_ObjOk_1.G14 (k : Nat) (avs : List AV) (H : List HE) : Option (Bool) := match avs, H with
  | [.con .str x0, .fn 72 0 [], .box 0 0, .con (.int .i64) x29, .v (.int .i64 x30), .v (.int .i64 x31)], [.box [.v (.int .i64 x4_0), .con (.int .i64) x4_1]] => impl_isObject_at_impl_ObjOk_1.p14 k x0 x4_0 x4_1 x29 x30 x31
  | _, _ => none
def impl_isObject_at_impl_ObjOk_1.G (k p : Nat) (avs : List AV) (H : List HE) : Option (Bool) := (pick1 14 (impl_isObject_at_impl_ObjOk_1.G14 k avs H) none p)
set_option maxRecDepth 100000 in
theorem impl_isObject_at_impl_ObjOk_1.eq (k : Nat) (a0 : List ByteArray) (a1_0 : Int) (a1_1 : List Int) : fromTop Tryd.prog impl_isObject_at_impl_ObjOk_1.E k impl_isObject_at_impl_ObjOk_1.a (impl_isObject_at_impl_ObjOk_1.G k) 1000 (bodyOf Tryd.prog 46) [.con .str a0, .agg [.v (.int .i64 a1_0), .con (.int .i64) a1_1], .fn 72 0 []] [] = impl_isObject_at_impl_ObjOk_1.f k a0 a1_0 a1_1 := by kernel_rfl
set_option maxRecDepth 100000 in
theorem impl_isObject_at_impl_ObjOk_1.eq14 (k : Nat) (x0 : List ByteArray) (x4_0 : Int) (x4_1 : List Int) (x29 : List Int) (x30 : Int) (x31 : Int) : fromPt Tryd.prog impl_isObject_at_impl_ObjOk_1.E k impl_isObject_at_impl_ObjOk_1.a (impl_isObject_at_impl_ObjOk_1.G k) 1000 (bodyOf Tryd.prog 46) 14 [.con .str x0, .fn 72 0 [], .box 0 0, .con (.int .i64) x29, .v (.int .i64 x30), .v (.int .i64 x31)] [.box [.v (.int .i64 x4_0), .con (.int .i64) x4_1]] = impl_isObject_at_impl_ObjOk_1.p14 (k + 1) x0 x4_0 x4_1 x29 x30 x31 := by kernel_rfl
theorem impl_isObject_at_impl_ObjOk_1.G14_0 {avs : List AV} {H : List HE} : impl_isObject_at_impl_ObjOk_1.G14 0 avs H = none := by unfold impl_isObject_at_impl_ObjOk_1.G14; split <;> rfl
theorem impl_isObject_at_impl_ObjOk_1.G14_s (k : Nat) {avs : List AV} {H : List HE} {x : Bool} (h : impl_isObject_at_impl_ObjOk_1.G14 (k + 1) avs H = some x) : fromPt Tryd.prog impl_isObject_at_impl_ObjOk_1.E k impl_isObject_at_impl_ObjOk_1.a (impl_isObject_at_impl_ObjOk_1.G k) 1000 (bodyOf Tryd.prog 46) 14 avs H = some x := by
  unfold impl_isObject_at_impl_ObjOk_1.G14 at h
  split at h
  · rw [← h]; exact impl_isObject_at_impl_ObjOk_1.eq14 _ _ _ _ _ _ _
  · cases h
theorem impl_isObject_at_impl_ObjOk_1.E_ok : EnvOk Tryd.prog impl_isObject_at_impl_ObjOk_1.E := ⟨⟨impl_size_string.sound, callable_of (by kernel_rfl)⟩, ⟨impl_within.sound, callable_of (by kernel_rfl)⟩, ⟨impl_ObjOk_1.sound, callable_of (by kernel_rfl)⟩, trivial⟩
theorem impl_isObject_at_impl_ObjOk_1.sound : Sound Tryd.prog 46 impl_isObject_at_impl_ObjOk_1.s := by
  refine func_sound (f := impl_isObject_at_impl_ObjOk_1.a) (G := impl_isObject_at_impl_ObjOk_1.G) (fn := Tryd.f46) (body := bodyOf Tryd.prog 46) 1000 (by kernel_rfl) impl_isObject_at_impl_ObjOk_1.E_ok Tryd.func46 (by kernel_rfl) (by kernel_rfl) (by kernel_rfl) (ptsOk_of (by kernel_rfl)) ?_ ?_ ?_ ?_
  · intro r H x h
    unfold impl_isObject_at_impl_ObjOk_1.a at h
    simp only at h
    split at h
    · cases h; rfl
    · cases h
  · exact fun q avs H => pick1_none impl_isObject_at_impl_ObjOk_1.G14_0 (rfl)
  · intro k q pt avs H x _ h
    rcases pick1_some h with ⟨rfl, h⟩ | h
    · exact impl_isObject_at_impl_ObjOk_1.G14_s _ h
    cases h
  · intro k avs H o h
    try dsimp only at h
    split at h
    · cases h; exact impl_isObject_at_impl_ObjOk_1.eq _ _ _ _
    · cases h

def impl_ObjOk.a : FnA (Bool) := ⟨12, [.tmp 4], .bool, [], [], fun x H => match x, H with
  | .bs false r, [] => some r
  | _, _ => none⟩
def impl_ObjOk.s : Spec := mkS [.con .str, .agg [.val, .con (.int .i64)]] (fun k avs H => match avs, H with
  | [.con .str a0, .agg [.v (.int .i64 a1_0), .con (.int .i64) a1_1]], [] => some (impl_ObjOk.f k a0 a1_0 a1_1)
  | _, _ => none) (fun r => (.bs false r, []))
def impl_ObjOk.E : Env := [((40, []), impl_TypesOk.s), ((46, [72]), impl_isObject_at_impl_ObjOk_1.s)]
def impl_ObjOk.G (k p : Nat) (avs : List AV) (H : List HE) : Option (Bool) := none
set_option maxRecDepth 100000 in
theorem impl_ObjOk.eq (k : Nat) (a0 : List ByteArray) (a1_0 : Int) (a1_1 : List Int) : fromTop Tryd.prog impl_ObjOk.E k impl_ObjOk.a (impl_ObjOk.G k) 1000 (bodyOf Tryd.prog 33) [.con .str a0, .agg [.v (.int .i64 a1_0), .con (.int .i64) a1_1]] [] = impl_ObjOk.f k a0 a1_0 a1_1 := by kernel_rfl
theorem impl_ObjOk.E_ok : EnvOk Tryd.prog impl_ObjOk.E := ⟨⟨impl_TypesOk.sound, callable_of (by kernel_rfl)⟩, ⟨impl_isObject_at_impl_ObjOk_1.sound, callable_of (by kernel_rfl)⟩, trivial⟩
theorem impl_ObjOk.sound : Sound Tryd.prog 33 impl_ObjOk.s := by
  refine func_sound (f := impl_ObjOk.a) (G := impl_ObjOk.G) (fn := Tryd.f33) (body := bodyOf Tryd.prog 33) 1000 (by kernel_rfl) impl_ObjOk.E_ok Tryd.func33 (by kernel_rfl) (by kernel_rfl) (by kernel_rfl) (ptsOk_of (by kernel_rfl)) ?_ ?_ ?_ ?_
  · intro r H x h
    unfold impl_ObjOk.a at h
    simp only at h
    split at h
    · cases h; rfl
    · cases h
  · intro q avs H; rfl
  · intro k q pt avs H x _ h; cases h
  · intro k avs H o h
    try dsimp only at h
    split at h
    · cases h; exact impl_ObjOk.eq _ _ _ _
    · cases h

def impl_Forwarded_1.a : FnA (Bool) := ⟨6, [.tmp 2], .bool, [], [], fun x H => match x, H with
  | .bs false r, [] => some r
  | _, _ => none⟩
def impl_Forwarded_1.s : Spec := mkS [.val] (fun k avs H => match avs, H with
  | [.v (.int .i64 a0)], [] => some (impl_Forwarded_1.f a0)
  | _, _ => none) (fun r => (.bs false r, []))
def impl_Forwarded_1.E : Env := [((66, []), impl_RefKind.s)]
def impl_Forwarded_1.G (k p : Nat) (avs : List AV) (H : List HE) : Option (Bool) := none
set_option maxRecDepth 100000 in
theorem impl_Forwarded_1.eq (k : Nat) (a0 : Int) : fromTop Tryd.prog impl_Forwarded_1.E k impl_Forwarded_1.a (impl_Forwarded_1.G k) 1000 (bodyOf Tryd.prog 65) [.v (.int .i64 a0)] [] = impl_Forwarded_1.f a0 := by kernel_rfl
theorem impl_Forwarded_1.E_ok : EnvOk Tryd.prog impl_Forwarded_1.E := ⟨⟨impl_RefKind.sound, callable_of (by kernel_rfl)⟩, trivial⟩
theorem impl_Forwarded_1.sound : Sound Tryd.prog 65 impl_Forwarded_1.s := by
  refine func_sound (f := impl_Forwarded_1.a) (G := impl_Forwarded_1.G) (fn := Tryd.f65) (body := bodyOf Tryd.prog 65) 1000 (by kernel_rfl) impl_Forwarded_1.E_ok Tryd.func65 (by kernel_rfl) (by kernel_rfl) (by kernel_rfl) (ptsOk_of (by kernel_rfl)) ?_ ?_ ?_ ?_
  · intro r H x h
    unfold impl_Forwarded_1.a at h
    simp only at h
    split at h
    · cases h; rfl
    · cases h
  · intro q avs H; rfl
  · intro k q pt avs H x _ h; cases h
  · intro k avs H o h
    try dsimp only at h
    split at h
    · cases h; exact impl_Forwarded_1.eq _ _
    · cases h

def slices_IndexFunc_int64_at_impl_Forwarded_1.a : FnA (Int) := ⟨19, [.tmp 4], .val, [], [⟨6, [0, 1, 7, 8], [.con (.int .i64), .fn 65 0 [], .val, .val], []⟩], fun x H => match x, H with
  | .v (.int .i64 r), [] => some r
  | _, _ => none⟩
def slices_IndexFunc_int64_at_impl_Forwarded_1.s : Spec := mkS [.con (.int .i64), .fn 65 0 []] (fun k avs H => match avs, H with
  | [.con (.int .i64) a0, .fn 65 0 []], [] => some (slices_IndexFunc_int64_at_impl_Forwarded_1.f k a0)
  | _, _ => none) (fun r => (.v (.int .i64 r), []))
def slices_IndexFunc_int64_at_impl_Forwarded_1.E : Env := [((65, []), impl_Forwarded_1.s)]
def slices_IndexFunc_int64_at_impl_Forwarded_1.G6 (k : Nat) (avs : List AV) (H : List HE) : Option (Int) := match avs, H with
  | [.con (.int .i64) x0, .fn 65 0 [], .v (.int .i64 x7), .v (.int .i64 x8)], [] => slices_IndexFunc_int64_at_impl_Forwarded_1.p6 k x0 x7 x8
  | _, _ => none
def slices_IndexFunc_int64_at_impl_Forwarded_1.G (k p : Nat) (avs : List AV) (H : List HE) : Option (Int) := (pick1 6 (slices_IndexFunc_int64_at_impl_Forwarded_1.G6 k avs H) none p)
set_option maxRecDepth 100000 in
theorem slices_IndexFunc_int64_at_impl_Forwarded_1.eq (k : Nat) (a0 : List Int) : fromTop Tryd.prog slices_IndexFunc_int64_at_impl_Forwarded_1.E k slices_IndexFunc_int64_at_impl_Forwarded_1.a (slices_IndexFunc_int64_at_impl_Forwarded_1.G k) 1000 (bodyOf Tryd.prog 82) [.con (.int .i64) a0, .fn 65 0 []] [] = slices_IndexFunc_int64_at_impl_Forwarded_1.f k a0 := by kernel_rfl
set_option maxRecDepth 100000 in
theorem slices_IndexFunc_int64_at_impl_Forwarded_1.eq6 (k : Nat) (x0 : List Int) (x7 : Int) (x8 : Int) : fromPt Tryd.prog slices_IndexFunc_int64_at_impl_Forwarded_1.E k slices_IndexFunc_int64_at_impl_Forwarded_1.a (slices_IndexFunc_int64_at_impl_Forwarded_1.G k) 1000 (bodyOf Tryd.prog 82) 6 [.con (.int .i64) x0, .fn 65 0 [], .v (.int .i64 x7), .v (.int .i64 x8)] [] = slices_IndexFunc_int64_at_impl_Forwarded_1.p6 (k + 1) x0 x7 x8 := by kernel_rfl
theorem slices_IndexFunc_int64_at_impl_Forwarded_1.G6_0 {avs : List AV} {H : List HE} : slices_IndexFunc_int64_at_impl_Forwarded_1.G6 0 avs H = none := by unfold slices_IndexFunc_int64_at_impl_Forwarded_1.G6; split <;> rfl
theorem slices_IndexFunc_int64_at_impl_Forwarded_1.G6_s (k : Nat) {avs : List AV} {H : List HE} {x : Int} (h : slices_IndexFunc_int64_at_impl_Forwarded_1.G6 (k + 1) avs H = some x) : fromPt Tryd.prog slices_IndexFunc_int64_at_impl_Forwarded_1.E k slices_IndexFunc_int64_at_impl_Forwarded_1.a (slices_IndexFunc_int64_at_impl_Forwarded_1.G k) 1000 (bodyOf Tryd.prog 82) 6 avs H = some x := by
  unfold slices_IndexFunc_int64_at_impl_Forwarded_1.G6 at h
  split at h
  · rw [← h]; exact slices_IndexFunc_int64_at_impl_Forwarded_1.eq6 _ _ _ _
  · cases h
theorem slices_IndexFunc_int64_at_impl_Forwarded_1.E_ok : EnvOk Tryd.prog slices_IndexFunc_int64_at_impl_Forwarded_1.E := ⟨⟨impl_Forwarded_1.sound, callable_of (by kernel_rfl)⟩, trivial⟩
theorem slices_IndexFunc_int64_at_impl_Forwarded_1.sound : Sound Tryd.prog 82 slices_IndexFunc_int64_at_impl_Forwarded_1.s := by
  refine func_sound (f := slices_IndexFunc_int64_at_impl_Forwarded_1.a) (G := slices_IndexFunc_int64_at_impl_Forwarded_1.G) (fn := Tryd.f82) (body := bodyOf Tryd.prog 82) 1000 (by kernel_rfl) slices_IndexFunc_int64_at_impl_Forwarded_1.E_ok Tryd.func82 (by kernel_rfl) (by kernel_rfl) (by kernel_rfl) (ptsOk_of (by kernel_rfl)) ?_ ?_ ?_ ?_
  · intro r H x h
    unfold slices_IndexFunc_int64_at_impl_Forwarded_1.a at h
    simp only at h
    split at h
    · cases h; rfl
    · cases h
  · exact fun q avs H => pick1_none slices_IndexFunc_int64_at_impl_Forwarded_1.G6_0 (rfl)
  · intro k q pt avs H x _ h
    rcases pick1_some h with ⟨rfl, h⟩ | h
    · exact slices_IndexFunc_int64_at_impl_Forwarded_1.G6_s _ h
    cases h
  · intro k avs H o h
    try dsimp only at h
    split at h
    · cases h; exact slices_IndexFunc_int64_at_impl_Forwarded_1.eq _ _
    · cases h

def slices_ContainsFunc_int64_at_impl_Forwarded_1.a : FnA (Bool) := ⟨9, [.tmp 4], .bool, [], [], fun x H => match x, H with
  | .bs false r, [] => some r
  | _, _ => none⟩
def slices_ContainsFunc_int64_at_impl_Forwarded_1.s : Spec := mkS [.con (.int .i64), .fn 65 0 []] (fun k avs H => match avs, H with
  | [.con (.int .i64) a0, .fn 65 0 []], [] => some (slices_ContainsFunc_int64_at_impl_Forwarded_1.f k a0)
  | _, _ => none) (fun r => (.bs false r, []))
def slices_ContainsFunc_int64_at_impl_Forwarded_1.E : Env := [((82, [65]), slices_IndexFunc_int64_at_impl_Forwarded_1.s)]
def slices_ContainsFunc_int64_at_impl_Forwarded_1.G (k p : Nat) (avs : List AV) (H : List HE) : Option (Bool) := none
set_option maxRecDepth 100000 in
theorem slices_ContainsFunc_int64_at_impl_Forwarded_1.eq (k : Nat) (a0 : List Int) : fromTop Tryd.prog slices_ContainsFunc_int64_at_impl_Forwarded_1.E k slices_ContainsFunc_int64_at_impl_Forwarded_1.a (slices_ContainsFunc_int64_at_impl_Forwarded_1.G k) 1000 (bodyOf Tryd.prog 43) [.con (.int .i64) a0, .fn 65 0 []] [] = slices_ContainsFunc_int64_at_impl_Forwarded_1.f k a0 := by kernel_rfl
theorem slices_ContainsFunc_int64_at_impl_Forwarded_1.E_ok : EnvOk Tryd.prog slices_ContainsFunc_int64_at_impl_Forwarded_1.E := ⟨⟨slices_IndexFunc_int64_at_impl_Forwarded_1.sound, callable_of (by kernel_rfl)⟩, trivial⟩
theorem slices_ContainsFunc_int64_at_impl_Forwarded_1.sound : Sound Tryd.prog 43 slices_ContainsFunc_int64_at_impl_Forwarded_1.s := by
  refine func_sound (f := slices_ContainsFunc_int64_at_impl_Forwarded_1.a) (G := slices_ContainsFunc_int64_at_impl_Forwarded_1.G) (fn := Tryd.f43) (body := bodyOf Tryd.prog 43) 1000 (by kernel_rfl) slices_ContainsFunc_int64_at_impl_Forwarded_1.E_ok Tryd.func43 (by kernel_rfl) (by kernel_rfl) (by kernel_rfl) (ptsOk_of (by kernel_rfl)) ?_ ?_ ?_ ?_
  · intro r H x h
    unfold slices_ContainsFunc_int64_at_impl_Forwarded_1.a at h
    simp only at h
    split at h
    · cases h; rfl
    · cases h
  · intro q avs H; rfl
  · intro k q pt avs H x _ h; cases h
  · intro k avs H o h
    try dsimp only at h
    split at h
    · cases h; exact slices_ContainsFunc_int64_at_impl_Forwarded_1.eq _ _
    · cases h

def slices_Clone_int64.s : Spec := mkS [.con (.int .i64)] (fun _ avs H => match avs, H with
  | [.con (.int .i64) a0], [] => some (slices_Clone_int64.f a0)
  | _, _ => none) (fun r => (.own 0, [.row 2 (.int .i64) r]))
theorem slices_Clone_int64.sound : Sound Tryd.prog 67 slices_Clone_int64.s := by
  refine sound_row (e := 2) (t := .int .i64) (emb := fun r => r) ?_
  intro k avs H o x h hx
  split at h
  case h_2 => cases h
  rename_i a0
  cases h
  refine ⟨rfl, fun M w ρ hp vals hr => ?_⟩
  obtain ⟨v0, q0, rfl, ⟨A0, c, rfl, hle, hrow⟩, rfl⟩ := hr
  unfold slices_Clone_int64.f at hx
  split at hx
  case isFalse => cases hx
  rename_i h0
  obtain rfl := Option.some.inj hx
  exact clone_int_calls a0 A0 c hle hrow h0 (fun n c w => Go.Proofs.Tryd.slices_Clone_int_nil n c w) (fun a c w => Go.Proofs.Tryd.slices_Clone_int_zero a c w) (fun b off n c zs w => Go.Proofs.Tryd.slices_Clone_int b off n c zs w)

def slices_Index_int64.a : FnA (Int) := ⟨19, [.tmp 4], .val, [], [⟨6, [0, 1, 7, 8], [.con (.int .i64), .val, .val, .val], []⟩], fun x H => match x, H with
  | .v (.int .i64 r), [] => some r
  | _, _ => none⟩
def slices_Index_int64.s : Spec := mkS [.con (.int .i64), .val] (fun k avs H => match avs, H with
  | [.con (.int .i64) a0, .v (.int .i64 a1)], [] => some (slices_Index_int64.f k a0 a1)
  | _, _ => none) (fun r => (.v (.int .i64 r), []))
def slices_Index_int64.E : Env := []
def slices_Index_int64.G6 (k : Nat) (avs : List AV) (H : List HE) : Option (Int) := match avs, H with
  | [.con (.int .i64) x0, .v (.int .i64 x1), .v (.int .i64 x7), .v (.int .i64 x8)], [] => slices_Index_int64.p6 k x0 x1 x7 x8
  | _, _ => none
def slices_Index_int64.G (k p : Nat) (avs : List AV) (H : List HE) : Option (Int) := (pick1 6 (slices_Index_int64.G6 k avs H) none p)
set_option maxRecDepth 100000 in
theorem slices_Index_int64.eq (k : Nat) (a0 : List Int) (a1 : Int) : fromTop Tryd.prog slices_Index_int64.E k slices_Index_int64.a (slices_Index_int64.G k) 1000 (bodyOf Tryd.prog 68) [.con (.int .i64) a0, .v (.int .i64 a1)] [] = slices_Index_int64.f k a0 a1 := by kernel_rfl
set_option maxRecDepth 100000 in
theorem slices_Index_int64.eq6 (k : Nat) (x0 : List Int) (x1 : Int) (x7 : Int) (x8 : Int) : fromPt Tryd.prog slices_Index_int64.E k slices_Index_int64.a (slices_Index_int64.G k) 1000 (bodyOf Tryd.prog 68) 6 [.con (.int .i64) x0, .v (.int .i64 x1), .v (.int .i64 x7), .v (.int .i64 x8)] [] = slices_Index_int64.p6 (k + 1) x0 x1 x7 x8 := by kernel_rfl
theorem slices_Index_int64.G6_0 {avs : List AV} {H : List HE} : slices_Index_int64.G6 0 avs H = none := by unfold slices_Index_int64.G6; split <;> rfl
theorem slices_Index_int64.G6_s (k : Nat) {avs : List AV} {H : List HE} {x : Int} (h : slices_Index_int64.G6 (k + 1) avs H = some x) : fromPt Tryd.prog slices_Index_int64.E k slices_Index_int64.a (slices_Index_int64.G k) 1000 (bodyOf Tryd.prog 68) 6 avs H = some x := by
  unfold slices_Index_int64.G6 at h
  split at h
  · rw [← h]; exact slices_Index_int64.eq6 _ _ _ _ _
  · cases h
theorem slices_Index_int64.E_ok : EnvOk Tryd.prog slices_Index_int64.E := trivial
theorem slices_Index_int64.sound : Sound Tryd.prog 68 slices_Index_int64.s := by
  refine func_sound (f := slices_Index_int64.a) (G := slices_Index_int64.G) (fn := Tryd.f68) (body := bodyOf Tryd.prog 68) 1000 (by kernel_rfl) slices_Index_int64.E_ok Tryd.func68 (by kernel_rfl) (by kernel_rfl) (by kernel_rfl) (ptsOk_of (by kernel_rfl)) ?_ ?_ ?_ ?_
  · intro r H x h
    unfold slices_Index_int64.a at h
    simp only at h
    split at h
    · cases h; rfl
    · cases h
  · exact fun q avs H => pick1_none slices_Index_int64.G6_0 (rfl)
  · intro k q pt avs H x _ h
    rcases pick1_some h with ⟨rfl, h⟩ | h
    · exact slices_Index_int64.G6_s _ h
    cases h
  · intro k avs H o h
    try dsimp only at h
    split at h
    · cases h; exact slices_Index_int64.eq _ _ _
    · cases h

def impl_Forwarded.a : FnA (Int × List Int) := ⟨73, [.cell 8 54], .agg [.val, .row 2 (.int .i64)], [], [⟨16, [0, 2, 3, 5, 8, 9, 41, 42, 43], [.con .str, .con (.int .i64), .con (.int .i64), .box [.val, .con (.int .i64)], .box [.val, .val], .box [.val, .row 2 (.int .i64)], .con (.int .i64), .val, .val], []⟩, ⟨31, [0, 2, 3, 5, 8, 9, 10, 12, 41, 42, 43, 62], [.con .str, .con (.int .i64), .con (.int .i64), .box [.val, .con (.int .i64)], .box [.val, .val], .box [.val, .row 2 (.int .i64)], .val, .val, .con (.int .i64), .val, .val, .bool], []⟩], fun x H => match x, H with
  | .agg [.v (.int .i64 r_0), .own 0], [.row 2 (.int .i64) r_1] => some (r_0, r_1)
  | _, _ => none⟩
def impl_Forwarded.s : Spec := mkS [.con .str, .agg [.val, .con (.int .i64)], .con (.int .i64), .con (.int .i64)] (fun k avs H => match avs, H with
  | [.con .str a0, .agg [.v (.int .i64 a1_0), .con (.int .i64) a1_1], .con (.int .i64) a2, .con (.int .i64) a3], [] => some (impl_Forwarded.f k a0 a1_0 a1_1 a2 a3)
  | _, _ => none) (fun r => (.agg [.v (.int .i64 r.1), .own 0], [.row 2 (.int .i64) r.2]))
def impl_Forwarded.E : Env := [((33, []), impl_ObjOk.s), ((43, [65]), slices_ContainsFunc_int64_at_impl_Forwarded_1.s), ((67, []), slices_Clone_int64.s), ((68, []), slices_Index_int64.s)]
def impl_Forwarded.G16 (k : Nat) (avs : List AV) (H : List HE) : Option (Int × List Int) := match avs, H with
  | [.con .str x0, .con (.int .i64) x2, .con (.int .i64) x3, .box 0 0, .box 1 0, .box 2 0, .con (.int .i64) x41, .v (.int .i64 x42), .v (.int .i64 x43)], [.box [.v (.int .i64 x5_0), .con (.int .i64) x5_1], .box [.v (.int .i64 x8_0), .v (.slice none 0 0)], .box [.v (.int .i64 x9_0), .own 3], .row 2 (.int .i64) x9_1] => impl_Forwarded.p16 k x0 x2 x3 x5_0 x5_1 x8_0 x9_0 x9_1 x41 x42 x43
  | _, _ => none
def impl_Forwarded.G31 (k : Nat) (avs : List AV) (H : List HE) : Option (Int × List Int) := match avs, H with
  | [.con .str x0, .con (.int .i64) x2, .con (.int .i64) x3, .box 0 0, .box 1 0, .box 2 0, .v (.int .i64 x10), .v (.int .i64 x12), .con (.int .i64) x41, .v (.int .i64 x42), .v (.int .i64 x43), .bs false x62], [.box [.v (.int .i64 x5_0), .con (.int .i64) x5_1], .box [.v (.int .i64 x8_0), .v (.slice none 0 0)], .box [.v (.int .i64 x9_0), .own 3], .row 2 (.int .i64) x9_1] => impl_Forwarded.p31 k x0 x2 x3 x5_0 x5_1 x8_0 x9_0 x9_1 x10 x12 x41 x42 x43 x62
  | _, _ => none
def impl_Forwarded.G (k p : Nat) (avs : List AV) (H : List HE) : Option (Int × List Int) := (pick1 16 (impl_Forwarded.G16 k avs H) (pick1 31 (impl_Forwarded.G31 k avs H) none p) p)
set_option maxRecDepth 100000 in
theorem impl_Forwarded.eq (k : Nat) (a0 : List ByteArray) (a1_0 : Int) (a1_1 : List Int) (a2 : List Int) (a3 : List Int) : fromTop Tryd.prog impl_Forwarded.E k impl_Forwarded.a (impl_Forwarded.G k) 1000 (bodyOf Tryd.prog 28) [.con .str a0, .agg [.v (.int .i64 a1_0), .con (.int .i64) a1_1], .con (.int .i64) a2, .con (.int .i64) a3] [] = impl_Forwarded.f k a0 a1_0 a1_1 a2 a3 := by kernel_rfl
set_option maxRecDepth 100000 in
theorem impl_Forwarded.eq16 (k : Nat) (x0 : List ByteArray) (x2 : List Int) (x3 : List Int) (x5_0 : Int) (x5_1 : List Int) (x8_0 : Int) (x9_0 : Int) (x9_1 : List Int) (x41 : List Int) (x42 : Int) (x43 : Int) : fromPt Tryd.prog impl_Forwarded.E k impl_Forwarded.a (impl_Forwarded.G k) 1000 (bodyOf Tryd.prog 28) 16 [.con .str x0, .con (.int .i64) x2, .con (.int .i64) x3, .box 0 0, .box 1 0, .box 2 0, .con (.int .i64) x41, .v (.int .i64 x42), .v (.int .i64 x43)] [.box [.v (.int .i64 x5_0), .con (.int .i64) x5_1], .box [.v (.int .i64 x8_0), .v (.slice none 0 0)], .box [.v (.int .i64 x9_0), .own 3], .row 2 (.int .i64) x9_1] = impl_Forwarded.p16 (k + 1) x0 x2 x3 x5_0 x5_1 x8_0 x9_0 x9_1 x41 x42 x43 := by kernel_rfl
theorem impl_Forwarded.G16_0 {avs : List AV} {H : List HE} : impl_Forwarded.G16 0 avs H = none := by unfold impl_Forwarded.G16; split <;> rfl
theorem impl_Forwarded.G16_s (k : Nat) {avs : List AV} {H : List HE} {x : Int × List Int} (h : impl_Forwarded.G16 (k + 1) avs H = some x) : fromPt Tryd.prog impl_Forwarded.E k impl_Forwarded.a (impl_Forwarded.G k) 1000 (bodyOf Tryd.prog 28) 16 avs H = some x := by
  unfold impl_Forwarded.G16 at h
  split at h
  · rw [← h]; exact impl_Forwarded.eq16 _ _ _ _ _ _ _ _ _ _ _ _
  · cases h
set_option maxRecDepth 100000 in
theorem impl_Forwarded.eq31 (k : Nat) (x0 : List ByteArray) (x2 : List Int) (x3 : List Int) (x5_0 : Int) (x5_1 : List Int) (x8_0 : Int) (x9_0 : Int) (x9_1 : List Int) (x10 : Int) (x12 : Int) (x41 : List Int) (x42 : Int) (x43 : Int) (x62 : Bool) : fromPt Tryd.prog impl_Forwarded.E k impl_Forwarded.a (impl_Forwarded.G k) 1000 (bodyOf Tryd.prog 28) 31 [.con .str x0, .con (.int .i64) x2, .con (.int .i64) x3, .box 0 0, .box 1 0, .box 2 0, .v (.int .i64 x10), .v (.int .i64 x12), .con (.int .i64) x41, .v (.int .i64 x42), .v (.int .i64 x43), .bs false x62] [.box [.v (.int .i64 x5_0), .con (.int .i64) x5_1], .box [.v (.int .i64 x8_0), .v (.slice none 0 0)], .box [.v (.int .i64 x9_0), .own 3], .row 2 (.int .i64) x9_1] = impl_Forwarded.p31 (k + 1) x0 x2 x3 x5_0 x5_1 x8_0 x9_0 x9_1 x10 x12 x41 x42 x43 x62 := by kernel_rfl
theorem impl_Forwarded.G31_0 {avs : List AV} {H : List HE} : impl_Forwarded.G31 0 avs H = none := by unfold impl_Forwarded.G31; split <;> rfl
theorem impl_Forwarded.G31_s (k : Nat) {avs : List AV} {H : List HE} {x : Int × List Int} (h : impl_Forwarded.G31 (k + 1) avs H = some x) : fromPt Tryd.prog impl_Forwarded.E k impl_Forwarded.a (impl_Forwarded.G k) 1000 (bodyOf Tryd.prog 28) 31 avs H = some x := by
  unfold impl_Forwarded.G31 at h
  split at h
  · rw [← h]; exact impl_Forwarded.eq31 _ _ _ _ _ _ _ _ _ _ _ _ _ _ _
  · cases h
theorem impl_Forwarded.E_ok : EnvOk Tryd.prog impl_Forwarded.E := ⟨⟨impl_ObjOk.sound, callable_of (by kernel_rfl)⟩, ⟨slices_ContainsFunc_int64_at_impl_Forwarded_1.sound, callable_of (by kernel_rfl)⟩, ⟨slices_Clone_int64.sound, callable_of (by kernel_rfl)⟩, ⟨slices_Index_int64.sound, callable_of (by kernel_rfl)⟩, trivial⟩
theorem impl_Forwarded.sound : Sound Tryd.prog 28 impl_Forwarded.s := by
  refine func_sound (f := impl_Forwarded.a) (G := impl_Forwarded.G) (fn := Tryd.f28) (body := bodyOf Tryd.prog 28) 1000 (by kernel_rfl) impl_Forwarded.E_ok Tryd.func28 (by kernel_rfl) (by kernel_rfl) (by kernel_rfl) (ptsOk_of (by kernel_rfl)) ?_ ?_ ?_ ?_
  · intro r H x h
    unfold impl_Forwarded.a at h
    simp only at h
    split at h
    · cases h; rfl
    · cases h
  · exact fun q avs H => pick1_none impl_Forwarded.G16_0 (pick1_none impl_Forwarded.G31_0 (rfl))
  · intro k q pt avs H x _ h
    rcases pick1_some h with ⟨rfl, h⟩ | h
    · exact impl_Forwarded.G16_s _ h
    rcases pick1_some h with ⟨rfl, h⟩ | h
    · exact impl_Forwarded.G31_s _ h
    cases h
  · intro k avs H o h
    try dsimp only at h
    split at h
    · cases h; exact impl_Forwarded.eq _ _ _ _ _ _
    · cases h

def spec_l1In.a : FnA (Bool) := ⟨15, [.tmp 6], .bool, [], [], fun x H => match x, H with
  | .bs false r, [] => some r
  | _, _ => none⟩
def spec_l1In.s : Spec := mkS [.val, .val, .val] (fun k avs H => match avs, H with
  | [.v (.int .i64 a0), .v (.int .i64 a1), .v (.int .i64 a2)], [] => some (spec_l1In.f a0 a1 a2)
  | _, _ => none) (fun r => (.bs false r, []))
def spec_l1In.E : Env := []
def spec_l1In.G (k p : Nat) (avs : List AV) (H : List HE) : Option (Bool) := none
set_option maxRecDepth 100000 in
theorem spec_l1In.eq (k : Nat) (a0 : Int) (a1 : Int) (a2 : Int) : fromTop Tryd.prog spec_l1In.E k spec_l1In.a (spec_l1In.G k) 1000 (bodyOf Tryd.prog 37) [.v (.int .i64 a0), .v (.int .i64 a1), .v (.int .i64 a2)] [] = spec_l1In.f a0 a1 a2 := by kernel_rfl
theorem spec_l1In.E_ok : EnvOk Tryd.prog spec_l1In.E := trivial
theorem spec_l1In.sound : Sound Tryd.prog 37 spec_l1In.s := by
  refine func_sound (f := spec_l1In.a) (G := spec_l1In.G) (fn := Tryd.f37) (body := bodyOf Tryd.prog 37) 1000 (by kernel_rfl) spec_l1In.E_ok Tryd.func37 (by kernel_rfl) (by kernel_rfl) (by kernel_rfl) (ptsOk_of (by kernel_rfl)) ?_ ?_ ?_ ?_
  · intro r H x h
    unfold spec_l1In.a at h
    simp only at h
    split at h
    · cases h; rfl
    · cases h
  · intro q avs H; rfl
  · intro k q pt avs H x _ h; cases h
  · intro k avs H o h
    try dsimp only at h
    split at h
    · cases h; exact spec_l1In.eq _ _ _ _
    · cases h

def spec_l3Type.a : FnA (Bool) := ⟨23, [.tmp 2], .bool, [], [⟨6, [0, 3], [.val, .val], []⟩], fun x H => match x, H with
  | .bs false r, [] => some r
  | _, _ => none⟩
def spec_l3Type.s : Spec := mkS [.val] (fun k avs H => match avs, H with
  | [.v (.string a0)], [] => some (spec_l3Type.f k a0)
  | _, _ => none) (fun r => (.bs false r, []))
def spec_l3Type.E : Env := [((37, []), spec_l1In.s)]
def spec_l3Type.G6 (k : Nat) (avs : List AV) (H : List HE) : Option (Bool) := match avs, H with
  | [.v (.string x0), .v (.int .i64 x3)], [] => spec_l3Type.p6 k x0 x3
  | _, _ => none
def spec_l3Type.G (k p : Nat) (avs : List AV) (H : List HE) : Option (Bool) := (pick1 6 (spec_l3Type.G6 k avs H) none p)
set_option maxRecDepth 100000 in
theorem spec_l3Type.eq (k : Nat) (a0 : ByteArray) : fromTop Tryd.prog spec_l3Type.E k spec_l3Type.a (spec_l3Type.G k) 1000 (bodyOf Tryd.prog 74) [.v (.string a0)] [] = spec_l3Type.f k a0 := by kernel_rfl
set_option maxRecDepth 100000 in
theorem spec_l3Type.eq6 (k : Nat) (x0 : ByteArray) (x3 : Int) : fromPt Tryd.prog spec_l3Type.E k spec_l3Type.a (spec_l3Type.G k) 1000 (bodyOf Tryd.prog 74) 6 [.v (.string x0), .v (.int .i64 x3)] [] = spec_l3Type.p6 (k + 1) x0 x3 := by kernel_rfl
theorem spec_l3Type.G6_0 {avs : List AV} {H : List HE} : spec_l3Type.G6 0 avs H = none := by unfold spec_l3Type.G6; split <;> rfl
theorem spec_l3Type.G6_s (k : Nat) {avs : List AV} {H : List HE} {x : Bool} (h : spec_l3Type.G6 (k + 1) avs H = some x) : fromPt Tryd.prog spec_l3Type.E k spec_l3Type.a (spec_l3Type.G k) 1000 (bodyOf Tryd.prog 74) 6 avs H = some x := by
  unfold spec_l3Type.G6 at h
  split at h
  · rw [← h]; exact spec_l3Type.eq6 _ _ _
  · cases h
theorem spec_l3Type.E_ok : EnvOk Tryd.prog spec_l3Type.E := ⟨⟨spec_l1In.sound, callable_of (by kernel_rfl)⟩, trivial⟩
theorem spec_l3Type.sound : Sound Tryd.prog 74 spec_l3Type.s := by
  refine func_sound (f := spec_l3Type.a) (G := spec_l3Type.G) (fn := Tryd.f74) (body := bodyOf Tryd.prog 74) 1000 (by kernel_rfl) spec_l3Type.E_ok Tryd.func74 (by kernel_rfl) (by kernel_rfl) (by kernel_rfl) (ptsOk_of (by kernel_rfl)) ?_ ?_ ?_ ?_
  · intro r H x h
    unfold spec_l3Type.a at h
    simp only at h
    split at h
    · cases h; rfl
    · cases h
  · exact fun q avs H => pick1_none spec_l3Type.G6_0 (rfl)
  · intro k q pt avs H x _ h
    rcases pick1_some h with ⟨rfl, h⟩ | h
    · exact spec_l3Type.G6_s _ h
    cases h
  · intro k avs H o h
    try dsimp only at h
    split at h
    · cases h; exact spec_l3Type.eq _ _
    · cases h

def spec_TypesOk.a : FnA (Bool) := ⟨20, [.tmp 2], .bool, [], [⟨14, [0, 3], [.con .str, .val], []⟩], fun x H => match x, H with
  | .bs false r, [] => some r
  | _, _ => none⟩
def spec_TypesOk.s : Spec := mkS [.con .str] (fun k avs H => match avs, H with
  | [.con .str a0], [] => some (spec_TypesOk.f k a0)
  | _, _ => none) (fun r => (.bs false r, []))
def spec_TypesOk.E : Env := [((37, []), spec_l1In.s), ((74, []), spec_l3Type.s)]
def spec_TypesOk.G14 (k : Nat) (avs : List AV) (H : List HE) : Option (Bool) := match avs, H with
  | [.con .str x0, .v (.int .i64 x3)], [] => spec_TypesOk.p14 k x0 x3
  | _, _ => none
def spec_TypesOk.G (k p : Nat) (avs : List AV) (H : List HE) : Option (Bool) := (pick1 14 (spec_TypesOk.G14 k avs H) none p)
set_option maxRecDepth 100000 in
theorem spec_TypesOk.eq (k : Nat) (a0 : List ByteArray) : fromTop Tryd.prog spec_TypesOk.E k spec_TypesOk.a (spec_TypesOk.G k) 1000 (bodyOf Tryd.prog 36) [.con .str a0] [] = spec_TypesOk.f k a0 := by kernel_rfl
set_option maxRecDepth 100000 in
theorem spec_TypesOk.eq14 (k : Nat) (x0 : List ByteArray) (x3 : Int) : fromPt Tryd.prog spec_TypesOk.E k spec_TypesOk.a (spec_TypesOk.G k) 1000 (bodyOf Tryd.prog 36) 14 [.con .str x0, .v (.int .i64 x3)] [] = spec_TypesOk.p14 (k + 1) x0 x3 := by kernel_rfl
theorem spec_TypesOk.G14_0 {avs : List AV} {H : List HE} : spec_TypesOk.G14 0 avs H = none := by unfold spec_TypesOk.G14; split <;> rfl
theorem spec_TypesOk.G14_s (k : Nat) {avs : List AV} {H : List HE} {x : Bool} (h : spec_TypesOk.G14 (k + 1) avs H = some x) : fromPt Tryd.prog spec_TypesOk.E k spec_TypesOk.a (spec_TypesOk.G k) 1000 (bodyOf Tryd.prog 36) 14 avs H = some x := by
  unfold spec_TypesOk.G14 at h
  split at h
  · rw [← h]; exact spec_TypesOk.eq14 _ _ _
  · cases h
theorem spec_TypesOk.E_ok : EnvOk Tryd.prog spec_TypesOk.E := ⟨⟨spec_l1In.sound, callable_of (by kernel_rfl)⟩, ⟨spec_l3Type.sound, callable_of (by kernel_rfl)⟩, trivial⟩
theorem spec_TypesOk.sound : Sound Tryd.prog 36 spec_TypesOk.s := by
  refine func_sound (f := spec_TypesOk.a) (G := spec_TypesOk.G) (fn := Tryd.f36) (body := bodyOf Tryd.prog 36) 1000 (by kernel_rfl) spec_TypesOk.E_ok Tryd.func36 (by kernel_rfl) (by kernel_rfl) (by kernel_rfl) (ptsOk_of (by kernel_rfl)) ?_ ?_ ?_ ?_
  · intro r H x h
    unfold spec_TypesOk.a at h
    simp only at h
    split at h
    · cases h; rfl
    · cases h
  · exact fun q avs H => pick1_none spec_TypesOk.G14_0 (rfl)
  · intro k q pt avs H x _ h
    rcases pick1_some h with ⟨rfl, h⟩ | h
    · exact spec_TypesOk.G14_s _ h
    cases h
  · intro k avs H o h
    try dsimp only at h
    split at h
    · cases h; exact spec_TypesOk.eq _ _
    · cases h

def spec_RefKind.a : FnA (Int) := ⟨22, [.tmp 2], .val, [], [], fun x H => match x, H with
  | .v (.int .i64 r), [] => some r
  | _, _ => none⟩
def spec_RefKind.s : Spec := mkS [.val] (fun k avs H => match avs, H with
  | [.v (.int .i64 a0)], [] => some (spec_RefKind.f a0)
  | _, _ => none) (fun r => (.v (.int .i64 r), []))
def spec_RefKind.E : Env := [((37, []), spec_l1In.s)]
def spec_RefKind.G (k p : Nat) (avs : List AV) (H : List HE) : Option (Int) := none
set_option maxRecDepth 100000 in
theorem spec_RefKind.eq (k : Nat) (a0 : Int) : fromTop Tryd.prog spec_RefKind.E k spec_RefKind.a (spec_RefKind.G k) 1000 (bodyOf Tryd.prog 70) [.v (.int .i64 a0)] [] = spec_RefKind.f a0 := by kernel_rfl
theorem spec_RefKind.E_ok : EnvOk Tryd.prog spec_RefKind.E := ⟨⟨spec_l1In.sound, callable_of (by kernel_rfl)⟩, trivial⟩
theorem spec_RefKind.sound : Sound Tryd.prog 70 spec_RefKind.s := by
  refine func_sound (f := spec_RefKind.a) (G := spec_RefKind.G) (fn := Tryd.f70) (body := bodyOf Tryd.prog 70) 1000 (by kernel_rfl) spec_RefKind.E_ok Tryd.func70 (by kernel_rfl) (by kernel_rfl) (by kernel_rfl) (ptsOk_of (by kernel_rfl)) ?_ ?_ ?_ ?_
  · intro r H x h
    unfold spec_RefKind.a at h
    simp only at h
    split at h
    · cases h; rfl
    · cases h
  · intro q avs H; rfl
  · intro k q pt avs H x _ h; cases h
  · intro k avs H o h
    try dsimp only at h
    split at h
    · cases h; exact spec_RefKind.eq _ _
    · cases h

def spec_ObjOk.a : FnA (Bool) := ⟨54, [.tmp 4], .bool, [], [⟨14, [0, 3, 5], [.con .str, .box [.val, .con (.int .i64)], .val], []⟩], fun x H => match x, H with
  | .bs false r, [] => some r
  | _, _ => none⟩
def spec_ObjOk.s : Spec := mkS [.con .str, .agg [.val, .con (.int .i64)]] (fun k avs H => match avs, H with
  | [.con .str a0, .agg [.v (.int .i64 a1_0), .con (.int .i64) a1_1]], [] => some (spec_ObjOk.f k a0 a1_0 a1_1)
  | _, _ => none) (fun r => (.bs false r, []))
def spec_ObjOk.E : Env := [((36, []), spec_TypesOk.s), ((37, []), spec_l1In.s), ((70, []), spec_RefKind.s)]
def spec_ObjOk.G14 (k : Nat) (avs : List AV) (H : List HE) : Option (Bool) := match avs, H with
  | [.con .str x0, .box 0 0, .v (.int .i64 x5)], [.box [.v (.int .i64 x3_0), .con (.int .i64) x3_1]] => spec_ObjOk.p14 k x0 x3_0 x3_1 x5
  | _, _ => none
def spec_ObjOk.G (k p : Nat) (avs : List AV) (H : List HE) : Option (Bool) := (pick1 14 (spec_ObjOk.G14 k avs H) none p)
set_option maxRecDepth 100000 in
theorem spec_ObjOk.eq (k : Nat) (a0 : List ByteArray) (a1_0 : Int) (a1_1 : List Int) : fromTop Tryd.prog spec_ObjOk.E k spec_ObjOk.a (spec_ObjOk.G k) 1000 (bodyOf Tryd.prog 31) [.con .str a0, .agg [.v (.int .i64 a1_0), .con (.int .i64) a1_1]] [] = spec_ObjOk.f k a0 a1_0 a1_1 := by kernel_rfl
set_option maxRecDepth 100000 in
theorem spec_ObjOk.eq14 (k : Nat) (x0 : List ByteArray) (x3_0 : Int) (x3_1 : List Int) (x5 : Int) : fromPt Tryd.prog spec_ObjOk.E k spec_ObjOk.a (spec_ObjOk.G k) 1000 (bodyOf Tryd.prog 31) 14 [.con .str x0, .box 0 0, .v (.int .i64 x5)] [.box [.v (.int .i64 x3_0), .con (.int .i64) x3_1]] = spec_ObjOk.p14 (k + 1) x0 x3_0 x3_1 x5 := by kernel_rfl
theorem spec_ObjOk.G14_0 {avs : List AV} {H : List HE} : spec_ObjOk.G14 0 avs H = none := by unfold spec_ObjOk.G14; split <;> rfl
theorem spec_ObjOk.G14_s (k : Nat) {avs : List AV} {H : List HE} {x : Bool} (h : spec_ObjOk.G14 (k + 1) avs H = some x) : fromPt Tryd.prog spec_ObjOk.E k spec_ObjOk.a (spec_ObjOk.G k) 1000 (bodyOf Tryd.prog 31) 14 avs H = some x := by
  unfold spec_ObjOk.G14 at h
  split at h
  · rw [← h]; exact spec_ObjOk.eq14 _ _ _ _ _
  · cases h
theorem spec_ObjOk.E_ok : EnvOk Tryd.prog spec_ObjOk.E := ⟨⟨spec_TypesOk.sound, callable_of (by kernel_rfl)⟩, ⟨spec_l1In.sound, callable_of (by kernel_rfl)⟩, ⟨spec_RefKind.sound, callable_of (by kernel_rfl)⟩, trivial⟩
theorem spec_ObjOk.sound : Sound Tryd.prog 31 spec_ObjOk.s := by
  refine func_sound (f := spec_ObjOk.a) (G := spec_ObjOk.G) (fn := Tryd.f31) (body := bodyOf Tryd.prog 31) 1000 (by kernel_rfl) spec_ObjOk.E_ok Tryd.func31 (by kernel_rfl) (by kernel_rfl) (by kernel_rfl) (ptsOk_of (by kernel_rfl)) ?_ ?_ ?_ ?_
  · intro r H x h
    unfold spec_ObjOk.a at h
    simp only at h
    split at h
    · cases h; rfl
    · cases h
  · exact fun q avs H => pick1_none spec_ObjOk.G14_0 (rfl)
  · intro k q pt avs H x _ h
    rcases pick1_some h with ⟨rfl, h⟩ | h
    · exact spec_ObjOk.G14_s _ h
    cases h
  · intro k avs H o h
    try dsimp only at h
    split at h
    · cases h; exact spec_ObjOk.eq _ _ _ _
    · cases h

def spec_l4To.a : FnA (Int) := ⟨25, [.tmp 6], .val, [], [⟨6, [0, 1, 2, 7], [.val, .con (.int .i64), .con (.int .i64), .val], []⟩], fun x H => match x, H with
  | .v (.int .i64 r), [] => some r
  | _, _ => none⟩
def spec_l4To.s : Spec := mkS [.val, .con (.int .i64), .con (.int .i64)] (fun k avs H => match avs, H with
  | [.v (.int .i64 a0), .con (.int .i64) a1, .con (.int .i64) a2], [] => some (spec_l4To.f k a0 a1 a2)
  | _, _ => none) (fun r => (.v (.int .i64 r), []))
def spec_l4To.E : Env := []
def spec_l4To.G6 (k : Nat) (avs : List AV) (H : List HE) : Option (Int) := match avs, H with
  | [.v (.int .i64 x0), .con (.int .i64) x1, .con (.int .i64) x2, .v (.int .i64 x7)], [] => spec_l4To.p6 k x0 x1 x2 x7
  | _, _ => none
def spec_l4To.G (k p : Nat) (avs : List AV) (H : List HE) : Option (Int) := (pick1 6 (spec_l4To.G6 k avs H) none p)
set_option maxRecDepth 100000 in
theorem spec_l4To.eq (k : Nat) (a0 : Int) (a1 : List Int) (a2 : List Int) : fromTop Tryd.prog spec_l4To.E k spec_l4To.a (spec_l4To.G k) 1000 (bodyOf Tryd.prog 99) [.v (.int .i64 a0), .con (.int .i64) a1, .con (.int .i64) a2] [] = spec_l4To.f k a0 a1 a2 := by kernel_rfl
set_option maxRecDepth 100000 in
theorem spec_l4To.eq6 (k : Nat) (x0 : Int) (x1 : List Int) (x2 : List Int) (x7 : Int) : fromPt Tryd.prog spec_l4To.E k spec_l4To.a (spec_l4To.G k) 1000 (bodyOf Tryd.prog 99) 6 [.v (.int .i64 x0), .con (.int .i64) x1, .con (.int .i64) x2, .v (.int .i64 x7)] [] = spec_l4To.p6 (k + 1) x0 x1 x2 x7 := by kernel_rfl
theorem spec_l4To.G6_0 {avs : List AV} {H : List HE} : spec_l4To.G6 0 avs H = none := by unfold spec_l4To.G6; split <;> rfl
theorem spec_l4To.G6_s (k : Nat) {avs : List AV} {H : List HE} {x : Int} (h : spec_l4To.G6 (k + 1) avs H = some x) : fromPt Tryd.prog spec_l4To.E k spec_l4To.a (spec_l4To.G k) 1000 (bodyOf Tryd.prog 99) 6 avs H = some x := by
  unfold spec_l4To.G6 at h
  split at h
  · rw [← h]; exact spec_l4To.eq6 _ _ _ _ _
  · cases h
theorem spec_l4To.E_ok : EnvOk Tryd.prog spec_l4To.E := trivial
theorem spec_l4To.sound : Sound Tryd.prog 99 spec_l4To.s := by
  refine func_sound (f := spec_l4To.a) (G := spec_l4To.G) (fn := Tryd.f99) (body := bodyOf Tryd.prog 99) 1000 (by kernel_rfl) spec_l4To.E_ok Tryd.func99 (by kernel_rfl) (by kernel_rfl) (by kernel_rfl) (ptsOk_of (by kernel_rfl)) ?_ ?_ ?_ ?_
  · intro r H x h
    unfold spec_l4To.a at h
    simp only at h
    split at h
    · cases h; rfl
    · cases h
  · exact fun q avs H => pick1_none spec_l4To.G6_0 (rfl)
  · intro k q pt avs H x _ h
    rcases pick1_some h with ⟨rfl, h⟩ | h
    · exact spec_l4To.G6_s _ h
    cases h
  · intro k avs H o h
    try dsimp only at h
    split at h
    · cases h; exact spec_l4To.eq _ _ _ _
    · cases h

def spec_l4Forward.a : FnA (Int × List Int) := ⟨46, [.cell 8 54], .agg [.val, .row 2 (.int .i64)], [], [⟨8, [0, 2, 3, 5, 8, 9, 10], [.con .str, .con (.int .i64), .con (.int .i64), .box [.val, .con (.int .i64)], .box [.val, .val], .box [.val, .row 2 (.int .i64)], .val], []⟩], fun x H => match x, H with
  | .agg [.v (.int .i64 r_0), .own 0], [.row 2 (.int .i64) r_1] => some (r_0, r_1)
  | _, _ => none⟩
def spec_l4Forward.s : Spec := mkS [.con .str, .agg [.val, .con (.int .i64)], .con (.int .i64), .con (.int .i64)] (fun k avs H => match avs, H with
  | [.con .str a0, .agg [.v (.int .i64 a1_0), .con (.int .i64) a1_1], .con (.int .i64) a2, .con (.int .i64) a3], [] => some (spec_l4Forward.f k a0 a1_0 a1_1 a2 a3)
  | _, _ => none) (fun r => (.agg [.v (.int .i64 r.1), .own 0], [.row 2 (.int .i64) r.2]))
def spec_l4Forward.E : Env := [((99, []), spec_l4To.s)]
def spec_l4Forward.G8 (k : Nat) (avs : List AV) (H : List HE) : Option (Int × List Int) := match avs, H with
  | [.con .str x0, .con (.int .i64) x2, .con (.int .i64) x3, .box 0 0, .box 1 0, .box 2 0, .v (.int .i64 x10)], [.box [.v (.int .i64 x5_0), .con (.int .i64) x5_1], .box [.v (.int .i64 x8_0), .v (.slice none 0 0)], .box [.v (.int .i64 x9_0), .own 3], .row 2 (.int .i64) x9_1] => spec_l4Forward.p8 k x0 x2 x3 x5_0 x5_1 x8_0 x9_0 x9_1 x10
  | _, _ => none
def spec_l4Forward.G (k p : Nat) (avs : List AV) (H : List HE) : Option (Int × List Int) := (pick1 8 (spec_l4Forward.G8 k avs H) none p)
set_option maxRecDepth 100000 in
theorem spec_l4Forward.eq (k : Nat) (a0 : List ByteArray) (a1_0 : Int) (a1_1 : List Int) (a2 : List Int) (a3 : List Int) : fromTop Tryd.prog spec_l4Forward.E k spec_l4Forward.a (spec_l4Forward.G k) 1000 (bodyOf Tryd.prog 71) [.con .str a0, .agg [.v (.int .i64 a1_0), .con (.int .i64) a1_1], .con (.int .i64) a2, .con (.int .i64) a3] [] = spec_l4Forward.f k a0 a1_0 a1_1 a2 a3 := by kernel_rfl
set_option maxRecDepth 100000 in
theorem spec_l4Forward.eq8 (k : Nat) (x0 : List ByteArray) (x2 : List Int) (x3 : List Int) (x5_0 : Int) (x5_1 : List Int) (x8_0 : Int) (x9_0 : Int) (x9_1 : List Int) (x10 : Int) : fromPt Tryd.prog spec_l4Forward.E k spec_l4Forward.a (spec_l4Forward.G k) 1000 (bodyOf Tryd.prog 71) 8 [.con .str x0, .con (.int .i64) x2, .con (.int .i64) x3, .box 0 0, .box 1 0, .box 2 0, .v (.int .i64 x10)] [.box [.v (.int .i64 x5_0), .con (.int .i64) x5_1], .box [.v (.int .i64 x8_0), .v (.slice none 0 0)], .box [.v (.int .i64 x9_0), .own 3], .row 2 (.int .i64) x9_1] = spec_l4Forward.p8 (k + 1) x0 x2 x3 x5_0 x5_1 x8_0 x9_0 x9_1 x10 := by kernel_rfl
theorem spec_l4Forward.G8_0 {avs : List AV} {H : List HE} : spec_l4Forward.G8 0 avs H = none := by unfold spec_l4Forward.G8; split <;> rfl
theorem spec_l4Forward.G8_s (k : Nat) {avs : List AV} {H : List HE} {x : Int × List Int} (h : spec_l4Forward.G8 (k + 1) avs H = some x) : fromPt Tryd.prog spec_l4Forward.E k spec_l4Forward.a (spec_l4Forward.G k) 1000 (bodyOf Tryd.prog 71) 8 avs H = some x := by
  unfold spec_l4Forward.G8 at h
  split at h
  · rw [← h]; exact spec_l4Forward.eq8 _ _ _ _ _ _ _ _ _ _
  · cases h
theorem spec_l4Forward.E_ok : EnvOk Tryd.prog spec_l4Forward.E := ⟨⟨spec_l4To.sound, callable_of (by kernel_rfl)⟩, trivial⟩
theorem spec_l4Forward.sound : Sound Tryd.prog 71 spec_l4Forward.s := by
  refine func_sound (f := spec_l4Forward.a) (G := spec_l4Forward.G) (fn := Tryd.f71) (body := bodyOf Tryd.prog 71) 1000 (by kernel_rfl) spec_l4Forward.E_ok Tryd.func71 (by kernel_rfl) (by kernel_rfl) (by kernel_rfl) (ptsOk_of (by kernel_rfl)) ?_ ?_ ?_ ?_
  · intro r H x h
    unfold spec_l4Forward.a at h
    simp only at h
    split at h
    · cases h; rfl
    · cases h
  · exact fun q avs H => pick1_none spec_l4Forward.G8_0 (rfl)
  · intro k q pt avs H x _ h
    rcases pick1_some h with ⟨rfl, h⟩ | h
    · exact spec_l4Forward.G8_s _ h
    cases h
  · intro k avs H o h
    try dsimp only at h
    split at h
    · cases h; exact spec_l4Forward.eq _ _ _ _ _ _
    · cases h

def spec_Forwarded.a : FnA (Int × List Int) := ⟨45, [.cell 8 54], .agg [.val, .row 2 (.int .i64)], [], [⟨14, [0, 2, 3, 5, 8, 9], [.con .str, .con (.int .i64), .con (.int .i64), .box [.val, .con (.int .i64)], .box [.val, .val], .val], []⟩], fun x H => match x, H with
  | .agg [.v (.int .i64 r_0), .own 0], [.row 2 (.int .i64) r_1] => some (r_0, r_1)
  | _, _ => none⟩
def spec_Forwarded.s : Spec := mkS [.con .str, .agg [.val, .con (.int .i64)], .con (.int .i64), .con (.int .i64)] (fun k avs H => match avs, H with
  | [.con .str a0, .agg [.v (.int .i64 a1_0), .con (.int .i64) a1_1], .con (.int .i64) a2, .con (.int .i64) a3], [] => some (spec_Forwarded.f k a0 a1_0 a1_1 a2 a3)
  | _, _ => none) (fun r => (.agg [.v (.int .i64 r.1), .own 0], [.row 2 (.int .i64) r.2]))
def spec_Forwarded.E : Env := [((31, []), spec_ObjOk.s), ((70, []), spec_RefKind.s), ((71, []), spec_l4Forward.s)]
def spec_Forwarded.G14 (k : Nat) (avs : List AV) (H : List HE) : Option (Int × List Int) := match avs, H with
  | [.con .str x0, .con (.int .i64) x2, .con (.int .i64) x3, .box 0 0, .box 1 0, .v (.int .i64 x9)], [.box [.v (.int .i64 x5_0), .con (.int .i64) x5_1], .box [.v (.int .i64 x8_0), .v (.slice none 0 0)]] => spec_Forwarded.p14 k x0 x2 x3 x5_0 x5_1 x8_0 x9
  | _, _ => none
def spec_Forwarded.G (k p : Nat) (avs : List AV) (H : List HE) : Option (Int × List Int) := (pick1 14 (spec_Forwarded.G14 k avs H) none p)
set_option maxRecDepth 100000 in
theorem spec_Forwarded.eq (k : Nat) (a0 : List ByteArray) (a1_0 : Int) (a1_1 : List Int) (a2 : List Int) (a3 : List Int) : fromTop Tryd.prog spec_Forwarded.E k spec_Forwarded.a (spec_Forwarded.G k) 1000 (bodyOf Tryd.prog 30) [.con .str a0, .agg [.v (.int .i64 a1_0), .con (.int .i64) a1_1], .con (.int .i64) a2, .con (.int .i64) a3] [] = spec_Forwarded.f k a0 a1_0 a1_1 a2 a3 := by kernel_rfl
set_option maxRecDepth 100000 in
theorem spec_Forwarded.eq14 (k : Nat) (x0 : List ByteArray) (x2 : List Int) (x3 : List Int) (x5_0 : Int) (x5_1 : List Int) (x8_0 : Int) (x9 : Int) : fromPt Tryd.prog spec_Forwarded.E k spec_Forwarded.a (spec_Forwarded.G k) 1000 (bodyOf Tryd.prog 30) 14 [.con .str x0, .con (.int .i64) x2, .con (.int .i64) x3, .box 0 0, .box 1 0, .v (.int .i64 x9)] [.box [.v (.int .i64 x5_0), .con (.int .i64) x5_1], .box [.v (.int .i64 x8_0), .v (.slice none 0 0)]] = spec_Forwarded.p14 (k + 1) x0 x2 x3 x5_0 x5_1 x8_0 x9 := by kernel_rfl
theorem spec_Forwarded.G14_0 {avs : List AV} {H : List HE} : spec_Forwarded.G14 0 avs H = none := by unfold spec_Forwarded.G14; split <;> rfl
theorem spec_Forwarded.G14_s (k : Nat) {avs : List AV} {H : List HE} {x : Int × List Int} (h : spec_Forwarded.G14 (k + 1) avs H = some x) : fromPt Tryd.prog spec_Forwarded.E k spec_Forwarded.a (spec_Forwarded.G k) 1000 (bodyOf Tryd.prog 30) 14 avs H = some x := by
  unfold spec_Forwarded.G14 at h
  split at h
  · rw [← h]; exact spec_Forwarded.eq14 _ _ _ _ _ _ _ _
  · cases h
theorem spec_Forwarded.E_ok : EnvOk Tryd.prog spec_Forwarded.E := ⟨⟨spec_ObjOk.sound, callable_of (by kernel_rfl)⟩, ⟨spec_RefKind.sound, callable_of (by kernel_rfl)⟩, ⟨spec_l4Forward.sound, callable_of (by kernel_rfl)⟩, trivial⟩
theorem spec_Forwarded.sound : Sound Tryd.prog 30 spec_Forwarded.s := by
  refine func_sound (f := spec_Forwarded.a) (G := spec_Forwarded.G) (fn := Tryd.f30) (body := bodyOf Tryd.prog 30) 1000 (by kernel_rfl) spec_Forwarded.E_ok Tryd.func30 (by kernel_rfl) (by kernel_rfl) (by kernel_rfl) (ptsOk_of (by kernel_rfl)) ?_ ?_ ?_ ?_
  · intro r H x h
    unfold spec_Forwarded.a at h
    simp only at h
    split at h
    · cases h; rfl
    · cases h
  · exact fun q avs H => pick1_none spec_Forwarded.G14_0 (rfl)
  · intro k q pt avs H x _ h
    rcases pick1_some h with ⟨rfl, h⟩ | h
    · exact spec_Forwarded.G14_s _ h
    cases h
  · intro k avs H o h
    try dsimp only at h
    split at h
    · cases h; exact spec_Forwarded.eq _ _ _ _ _ _
    · cases h

def laws_sameInts.a : FnA (Bool) := ⟨26, [.tmp 4], .bool, [], [⟨14, [0, 1, 5], [.con (.int .i64), .con (.int .i64), .val], []⟩], fun x H => match x, H with
  | .bs false r, [] => some r
  | _, _ => none⟩
def laws_sameInts.s : Spec := mkS [.con (.int .i64), .con (.int .i64)] (fun k avs H => match avs, H with
  | [.con (.int .i64) a0, .con (.int .i64) a1], [] => some (laws_sameInts.f k a0 a1)
  | _, _ => none) (fun r => (.bs false r, []))
def laws_sameInts.E : Env := []
def laws_sameInts.G14 (k : Nat) (avs : List AV) (H : List HE) : Option (Bool) := match avs, H with
  | [.con (.int .i64) x0, .con (.int .i64) x1, .v (.int .i64 x5)], [] => laws_sameInts.p14 k x0 x1 x5
  | _, _ => none
def laws_sameInts.G (k p : Nat) (avs : List AV) (H : List HE) : Option (Bool) := (pick1 14 (laws_sameInts.G14 k avs H) none p)
set_option maxRecDepth 100000 in
theorem laws_sameInts.eq (k : Nat) (a0 : List Int) (a1 : List Int) : fromTop Tryd.prog laws_sameInts.E k laws_sameInts.a (laws_sameInts.G k) 1000 (bodyOf Tryd.prog 69) [.con (.int .i64) a0, .con (.int .i64) a1] [] = laws_sameInts.f k a0 a1 := by kernel_rfl
set_option maxRecDepth 100000 in
theorem laws_sameInts.eq14 (k : Nat) (x0 : List Int) (x1 : List Int) (x5 : Int) : fromPt Tryd.prog laws_sameInts.E k laws_sameInts.a (laws_sameInts.G k) 1000 (bodyOf Tryd.prog 69) 14 [.con (.int .i64) x0, .con (.int .i64) x1, .v (.int .i64 x5)] [] = laws_sameInts.p14 (k + 1) x0 x1 x5 := by kernel_rfl
theorem laws_sameInts.G14_0 {avs : List AV} {H : List HE} : laws_sameInts.G14 0 avs H = none := by unfold laws_sameInts.G14; split <;> rfl
theorem laws_sameInts.G14_s (k : Nat) {avs : List AV} {H : List HE} {x : Bool} (h : laws_sameInts.G14 (k + 1) avs H = some x) : fromPt Tryd.prog laws_sameInts.E k laws_sameInts.a (laws_sameInts.G k) 1000 (bodyOf Tryd.prog 69) 14 avs H = some x := by
  unfold laws_sameInts.G14 at h
  split at h
  · rw [← h]; exact laws_sameInts.eq14 _ _ _ _
  · cases h
theorem laws_sameInts.E_ok : EnvOk Tryd.prog laws_sameInts.E := trivial
theorem laws_sameInts.sound : Sound Tryd.prog 69 laws_sameInts.s := by
  refine func_sound (f := laws_sameInts.a) (G := laws_sameInts.G) (fn := Tryd.f69) (body := bodyOf Tryd.prog 69) 1000 (by kernel_rfl) laws_sameInts.E_ok Tryd.func69 (by kernel_rfl) (by kernel_rfl) (by kernel_rfl) (ptsOk_of (by kernel_rfl)) ?_ ?_ ?_ ?_
  · intro r H x h
    unfold laws_sameInts.a at h
    simp only at h
    split at h
    · cases h; rfl
    · cases h
  · exact fun q avs H => pick1_none laws_sameInts.G14_0 (rfl)
  · intro k q pt avs H x _ h
    rcases pick1_some h with ⟨rfl, h⟩ | h
    · exact laws_sameInts.G14_s _ h
    cases h
  · intro k avs H o h
    try dsimp only at h
    split at h
    · cases h; exact laws_sameInts.eq _ _ _
    · cases h

def laws_sameObj.a : FnA (Bool) := ⟨17, [.tmp 4], .bool, [], [], fun x H => match x, H with
  | .bs false r, [] => some r
  | _, _ => none⟩
def laws_sameObj.s : Spec := mkS [.agg [.val, .con (.int .i64)], .agg [.val, .con (.int .i64)]] (fun k avs H => match avs, H with
  | [.agg [.v (.int .i64 a0_0), .con (.int .i64) a0_1], .agg [.v (.int .i64 a1_0), .con (.int .i64) a1_1]], [] => some (laws_sameObj.f k a0_0 a0_1 a1_0 a1_1)
  | _, _ => none) (fun r => (.bs false r, []))
def laws_sameObj.E : Env := [((69, []), laws_sameInts.s)]
def laws_sameObj.G (k p : Nat) (avs : List AV) (H : List HE) : Option (Bool) := none
set_option maxRecDepth 100000 in
theorem laws_sameObj.eq (k : Nat) (a0_0 : Int) (a0_1 : List Int) (a1_0 : Int) (a1_1 : List Int) : fromTop Tryd.prog laws_sameObj.E k laws_sameObj.a (laws_sameObj.G k) 1000 (bodyOf Tryd.prog 29) [.agg [.v (.int .i64 a0_0), .con (.int .i64) a0_1], .agg [.v (.int .i64 a1_0), .con (.int .i64) a1_1]] [] = laws_sameObj.f k a0_0 a0_1 a1_0 a1_1 := by kernel_rfl
theorem laws_sameObj.E_ok : EnvOk Tryd.prog laws_sameObj.E := ⟨⟨laws_sameInts.sound, callable_of (by kernel_rfl)⟩, trivial⟩
theorem laws_sameObj.sound : Sound Tryd.prog 29 laws_sameObj.s := by
  refine func_sound (f := laws_sameObj.a) (G := laws_sameObj.G) (fn := Tryd.f29) (body := bodyOf Tryd.prog 29) 1000 (by kernel_rfl) laws_sameObj.E_ok Tryd.func29 (by kernel_rfl) (by kernel_rfl) (by kernel_rfl) (ptsOk_of (by kernel_rfl)) ?_ ?_ ?_ ?_
  · intro r H x h
    unfold laws_sameObj.a at h
    simp only at h
    split at h
    · cases h; rfl
    · cases h
  · intro q avs H; rfl
  · intro k q pt avs H x _ h; cases h
  · intro k avs H o h
    try dsimp only at h
    split at h
    · cases h; exact laws_sameObj.eq _ _ _ _ _
    · cases h

def laws_has.a : FnA (Bool) := ⟨18, [.tmp 4], .bool, [], [⟨6, [0, 1, 5], [.con (.int .i64), .val, .val], []⟩], fun x H => match x, H with
  | .bs false r, [] => some r
  | _, _ => none⟩
def laws_has.s : Spec := mkS [.con (.int .i64), .val] (fun k avs H => match avs, H with
  | [.con (.int .i64) a0, .v (.int .i64 a1)], [] => some (laws_has.f k a0 a1)
  | _, _ => none) (fun r => (.bs false r, []))
def laws_has.E : Env := []
def laws_has.G6 (k : Nat) (avs : List AV) (H : List HE) : Option (Bool) := match avs, H with
  | [.con (.int .i64) x0, .v (.int .i64 x1), .v (.int .i64 x5)], [] => laws_has.p6 k x0 x1 x5
  | _, _ => none
def laws_has.G (k p : Nat) (avs : List AV) (H : List HE) : Option (Bool) := (pick1 6 (laws_has.G6 k avs H) none p)
set_option maxRecDepth 100000 in
theorem laws_has.eq (k : Nat) (a0 : List Int) (a1 : Int) : fromTop Tryd.prog laws_has.E k laws_has.a (laws_has.G k) 1000 (bodyOf Tryd.prog 32) [.con (.int .i64) a0, .v (.int .i64 a1)] [] = laws_has.f k a0 a1 := by kernel_rfl
set_option maxRecDepth 100000 in
theorem laws_has.eq6 (k : Nat) (x0 : List Int) (x1 : Int) (x5 : Int) : fromPt Tryd.prog laws_has.E k laws_has.a (laws_has.G k) 1000 (bodyOf Tryd.prog 32) 6 [.con (.int .i64) x0, .v (.int .i64 x1), .v (.int .i64 x5)] [] = laws_has.p6 (k + 1) x0 x1 x5 := by kernel_rfl
theorem laws_has.G6_0 {avs : List AV} {H : List HE} : laws_has.G6 0 avs H = none := by unfold laws_has.G6; split <;> rfl
theorem laws_has.G6_s (k : Nat) {avs : List AV} {H : List HE} {x : Bool} (h : laws_has.G6 (k + 1) avs H = some x) : fromPt Tryd.prog laws_has.E k laws_has.a (laws_has.G k) 1000 (bodyOf Tryd.prog 32) 6 avs H = some x := by
  unfold laws_has.G6 at h
  split at h
  · rw [← h]; exact laws_has.eq6 _ _ _ _
  · cases h
theorem laws_has.E_ok : EnvOk Tryd.prog laws_has.E := trivial
theorem laws_has.sound : Sound Tryd.prog 32 laws_has.s := by
  refine func_sound (f := laws_has.a) (G := laws_has.G) (fn := Tryd.f32) (body := bodyOf Tryd.prog 32) 1000 (by kernel_rfl) laws_has.E_ok Tryd.func32 (by kernel_rfl) (by kernel_rfl) (by kernel_rfl) (ptsOk_of (by kernel_rfl)) ?_ ?_ ?_ ?_
  · intro r H x h
    unfold laws_has.a at h
    simp only at h
    split at h
    · cases h; rfl
    · cases h
  · exact fun q avs H => pick1_none laws_has.G6_0 (rfl)
  · intro k q pt avs H x _ h
    rcases pick1_some h with ⟨rfl, h⟩ | h
    · exact laws_has.G6_s _ h
    cases h
  · intro k avs H o h
    try dsimp only at h
    split at h
    · cases h; exact laws_has.eq _ _ _
    · cases h

def laws_FnForwarded.a : FnA (Bool) := ⟨129, [.tmp 2], .bool, [], [⟨17, [3, 4, 5, 6, 7, 50], [.con .str, .box [.val, .con (.int .i64)], .row 2 (.int .i64), .row 2 (.int .i64), .box [.val, .row 2 (.int .i64)], .bool], []⟩, ⟨26, [3, 4, 5, 6, 7, 8], [.con .str, .box [.val, .con (.int .i64)], .row 2 (.int .i64), .row 2 (.int .i64), .box [.val, .row 2 (.int .i64)], .val], []⟩], fun x H => match x, H with
  | .bs false r, [] => some r
  | _, _ => none⟩
def laws_FnForwarded.s : Spec := mkS [.con (.int .u8)] (fun k avs H => match avs, H with
  | [.con (.int .u8) a0], [] => some (laws_FnForwarded.f k a0)
  | _, _ => none) (fun r => (.bs false r, []))
def laws_FnForwarded.E : Env := [((26, []), laws_big.s), ((27, []), spec_DrawForwarded.s), ((28, []), impl_Forwarded.s), ((30, []), spec_Forwarded.s), ((29, []), laws_sameObj.s), ((31, []), spec_ObjOk.s), ((32, []), laws_has.s), ((33, []), impl_ObjOk.s)]
def laws_FnForwarded.G17 (k : Nat) (avs : List AV) (H : List HE) : Option (Bool) := match avs, H with
  | [.con .str x3, .box 0 0, .own 1, .own 2, .box 3 0, .bs false x50], [.box [.v (.int .i64 x4_0), .con (.int .i64) x4_1], .row 2 (.int .i64) x5, .row 2 (.int .i64) x6, .box [.v (.int .i64 x7_0), .own 4], .row 2 (.int .i64) x7_1] => laws_FnForwarded.p17 k x3 x4_0 x4_1 x5 x6 x7_0 x7_1 x50
  | _, _ => none
def laws_FnForwarded.G26 (k : Nat) (avs : List AV) (H : List HE) : Option (Bool) := match avs, H with
  | [.con .str x3, .box 0 0, .own 1, .own 2, .box 3 0, .v (.int .i64 x8)], [.box [.v (.int .i64 x4_0), .con (.int .i64) x4_1], .row 2 (.int .i64) x5, .row 2 (.int .i64) x6, .box [.v (.int .i64 x7_0), .own 4], .row 2 (.int .i64) x7_1] => laws_FnForwarded.p26 k x3 x4_0 x4_1 x5 x6 x7_0 x7_1 x8
  | _, _ => none
def laws_FnForwarded.G (k p : Nat) (avs : List AV) (H : List HE) : Option (Bool) := (pick1 17 (laws_FnForwarded.G17 k avs H) (pick1 26 (laws_FnForwarded.G26 k avs H) none p) p)
set_option maxRecDepth 100000 in
theorem laws_FnForwarded.eq (k : Nat) (a0 : List Int) : fromTop Tryd.prog laws_FnForwarded.E k laws_FnForwarded.a (laws_FnForwarded.G k) 1000 (bodyOf Tryd.prog 6) [.con (.int .u8) a0] [] = laws_FnForwarded.f k a0 := by kernel_rfl
set_option maxRecDepth 100000 in
theorem laws_FnForwarded.eq17 (k : Nat) (x3 : List ByteArray) (x4_0 : Int) (x4_1 : List Int) (x5 : List Int) (x6 : List Int) (x7_0 : Int) (x7_1 : List Int) (x50 : Bool) : fromPt Tryd.prog laws_FnForwarded.E k laws_FnForwarded.a (laws_FnForwarded.G k) 1000 (bodyOf Tryd.prog 6) 17 [.con .str x3, .box 0 0, .own 1, .own 2, .box 3 0, .bs false x50] [.box [.v (.int .i64 x4_0), .con (.int .i64) x4_1], .row 2 (.int .i64) x5, .row 2 (.int .i64) x6, .box [.v (.int .i64 x7_0), .own 4], .row 2 (.int .i64) x7_1] = laws_FnForwarded.p17 (k + 1) x3 x4_0 x4_1 x5 x6 x7_0 x7_1 x50 := by kernel_rfl
theorem laws_FnForwarded.G17_0 {avs : List AV} {H : List HE} : laws_FnForwarded.G17 0 avs H = none := by unfold laws_FnForwarded.G17; split <;> rfl
theorem laws_FnForwarded.G17_s (k : Nat) {avs : List AV} {H : List HE} {x : Bool} (h : laws_FnForwarded.G17 (k + 1) avs H = some x) : fromPt Tryd.prog laws_FnForwarded.E k laws_FnForwarded.a (laws_FnForwarded.G k) 1000 (bodyOf Tryd.prog 6) 17 avs H = some x := by
  unfold laws_FnForwarded.G17 at h
  split at h
  · rw [← h]; exact laws_FnForwarded.eq17 _ _ _ _ _ _ _ _ _
  · cases h
set_option maxRecDepth 100000 in
theorem laws_FnForwarded.eq26 (k : Nat) (x3 : List ByteArray) (x4_0 : Int) (x4_1 : List Int) (x5 : List Int) (x6 : List Int) (x7_0 : Int) (x7_1 : List Int) (x8 : Int) : fromPt Tryd.prog laws_FnForwarded.E k laws_FnForwarded.a (laws_FnForwarded.G k) 1000 (bodyOf Tryd.prog 6) 26 [.con .str x3, .box 0 0, .own 1, .own 2, .box 3 0, .v (.int .i64 x8)] [.box [.v (.int .i64 x4_0), .con (.int .i64) x4_1], .row 2 (.int .i64) x5, .row 2 (.int .i64) x6, .box [.v (.int .i64 x7_0), .own 4], .row 2 (.int .i64) x7_1] = laws_FnForwarded.p26 (k + 1) x3 x4_0 x4_1 x5 x6 x7_0 x7_1 x8 := by kernel_rfl
theorem laws_FnForwarded.G26_0 {avs : List AV} {H : List HE} : laws_FnForwarded.G26 0 avs H = none := by unfold laws_FnForwarded.G26; split <;> rfl
theorem laws_FnForwarded.G26_s (k : Nat) {avs : List AV} {H : List HE} {x : Bool} (h : laws_FnForwarded.G26 (k + 1) avs H = some x) : fromPt Tryd.prog laws_FnForwarded.E k laws_FnForwarded.a (laws_FnForwarded.G k) 1000 (bodyOf Tryd.prog 6) 26 avs H = some x := by
  unfold laws_FnForwarded.G26 at h
  split at h
  · rw [← h]; exact laws_FnForwarded.eq26 _ _ _ _ _ _ _ _ _
  · cases h
theorem laws_FnForwarded.E_ok : EnvOk Tryd.prog laws_FnForwarded.E := ⟨⟨laws_big.sound, callable_of (by kernel_rfl)⟩, ⟨spec_DrawForwarded.sound, callable_of (by kernel_rfl)⟩, ⟨impl_Forwarded.sound, callable_of (by kernel_rfl)⟩, ⟨spec_Forwarded.sound, callable_of (by kernel_rfl)⟩, ⟨laws_sameObj.sound, callable_of (by kernel_rfl)⟩, ⟨spec_ObjOk.sound, callable_of (by kernel_rfl)⟩, ⟨laws_has.sound, callable_of (by kernel_rfl)⟩, ⟨impl_ObjOk.sound, callable_of (by kernel_rfl)⟩, trivial⟩
theorem laws_FnForwarded.sound : Sound Tryd.prog 6 laws_FnForwarded.s := by
  refine func_sound (f := laws_FnForwarded.a) (G := laws_FnForwarded.G) (fn := Tryd.f6) (body := bodyOf Tryd.prog 6) 1000 (by kernel_rfl) laws_FnForwarded.E_ok Tryd.func6 (by kernel_rfl) (by kernel_rfl) (by kernel_rfl) (ptsOk_of (by kernel_rfl)) ?_ ?_ ?_ ?_
  · intro r H x h
    unfold laws_FnForwarded.a at h
    simp only at h
    split at h
    · cases h; rfl
    · cases h
  · exact fun q avs H => pick1_none laws_FnForwarded.G17_0 (pick1_none laws_FnForwarded.G26_0 (rfl))
  · intro k q pt avs H x _ h
    rcases pick1_some h with ⟨rfl, h⟩ | h
    · exact laws_FnForwarded.G17_s _ h
    rcases pick1_some h with ⟨rfl, h⟩ | h
    · exact laws_FnForwarded.G26_s _ h
    cases h
  · intro k avs H o h
    try dsimp only at h
    split at h
    · cases h; exact laws_FnForwarded.eq _ _
    · cases h
end
end Go.Proofs.YtnhladaobcnmhaaDoor.Abs
