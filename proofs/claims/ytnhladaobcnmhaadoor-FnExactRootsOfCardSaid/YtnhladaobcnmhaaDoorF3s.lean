/- They are sound. -/
import Derived.Test.YtnhladaobcnmhaaDoorShelfSt
import Derived.Shelf.Strings.SlTrimAscii
import Derived.Test.YtnhladaobcnmhaaDoorF3
import Derived.Test.YtnhladaobcnmhaaDoorProg
namespace Go.Proofs.YtnhladaobcnmhaaDoor.Abs
open Go Go.RowKit
set_option linter.unusedVariables false
set_option linter.unusedSectionVars false
set_option linter.unusedSimpArgs false
noncomputable section
def laws_szStringS.a : FnA (Int) := ⟨28, [.tmp 4], .val, [], [⟨16, [0, 1, 5], [.con .str, .val, .val], []⟩], fun x H => match x, H with
  | .v (.int .i64 r), [] => some r
  | _, _ => none⟩
def laws_szStringS.s : Spec := mkS [.con .str, .val] (fun k avs H => match avs, H with
  | [.con .str a0, .v (.int .i64 a1)], [] => some (laws_szStringS.f k a0 a1)
  | _, _ => none) (fun r => (.v (.int .i64 r), []))
def laws_szStringS.E : Env := []
def laws_szStringS.G16 (k : Nat) (avs : List AV) (H : List HE) : Option (Int) := match avs, H with
  | [.con .str x0, .v (.int .i64 x1), .v (.int .i64 x5)], [] => laws_szStringS.p16 k x0 x1 x5
  | _, _ => none
def laws_szStringS.G (k p : Nat) (avs : List AV) (H : List HE) : Option (Int) := (pick1 16 (laws_szStringS.G16 k avs H) none p)
set_option maxRecDepth 100000 in
theorem laws_szStringS.eq (k : Nat) (a0 : List ByteArray) (a1 : Int) : fromTop Tryd.prog laws_szStringS.E k laws_szStringS.a (laws_szStringS.G k) 1000 (bodyOf Tryd.prog 7) [.con .str a0, .v (.int .i64 a1)] [] = laws_szStringS.f k a0 a1 := by kernel_rfl
set_option maxRecDepth 100000 in
theorem laws_szStringS.eq16 (k : Nat) (x0 : List ByteArray) (x1 : Int) (x5 : Int) : fromPt Tryd.prog laws_szStringS.E k laws_szStringS.a (laws_szStringS.G k) 1000 (bodyOf Tryd.prog 7) 16 [.con .str x0, .v (.int .i64 x1), .v (.int .i64 x5)] [] = laws_szStringS.p16 (k + 1) x0 x1 x5 := by kernel_rfl
theorem laws_szStringS.G16_0 {avs : List AV} {H : List HE} : laws_szStringS.G16 0 avs H = none := by unfold laws_szStringS.G16; split <;> rfl
theorem laws_szStringS.G16_s (k : Nat) {avs : List AV} {H : List HE} {x : Int} (h : laws_szStringS.G16 (k + 1) avs H = some x) : fromPt Tryd.prog laws_szStringS.E k laws_szStringS.a (laws_szStringS.G k) 1000 (bodyOf Tryd.prog 7) 16 avs H = some x := by
  unfold laws_szStringS.G16 at h
  split at h
  · rw [← h]; exact laws_szStringS.eq16 _ _ _ _
  · cases h
theorem laws_szStringS.E_ok : EnvOk Tryd.prog laws_szStringS.E := trivial
theorem laws_szStringS.sound : Sound Tryd.prog 7 laws_szStringS.s := by
  refine func_sound (f := laws_szStringS.a) (G := laws_szStringS.G) (fn := Tryd.f7) (body := bodyOf Tryd.prog 7) 1000 (by kernel_rfl) laws_szStringS.E_ok Tryd.func7 (by kernel_rfl) (by kernel_rfl) (by kernel_rfl) (ptsOk_of (by kernel_rfl)) ?_ ?_ ?_ ?_
  · intro r H x h
    unfold laws_szStringS.a at h
    simp only at h
    split at h
    · cases h; rfl
    · cases h
  · exact fun q avs H => pick1_none laws_szStringS.G16_0 (rfl)
  · intro k q pt avs H x _ h
    rcases pick1_some h with ⟨rfl, h⟩ | h
    · exact laws_szStringS.G16_s _ h
    cases h
  · intro k avs H o h
    try dsimp only at h
    split at h
    · cases h; exact laws_szStringS.eq _ _ _
    · cases h

def laws_szConfig.a : FnA (Int) := ⟨12, [.tmp 4], .val, [], [], fun x H => match x, H with
  | .v (.int .i64 r), [] => some r
  | _, _ => none⟩
def laws_szConfig.s : Spec := mkS [.agg [.val, .val, .val, .con .str], .val] (fun k avs H => match avs, H with
  | [.agg [.v (.int .i64 a0_0), .v (.int .i64 a0_1), .v (.int .i64 a0_2), .con .str a0_3], .v (.int .i64 a1)], [] => some (laws_szConfig.f k a0_0 a0_1 a0_2 a0_3 a1)
  | _, _ => none) (fun r => (.v (.int .i64 r), []))
def laws_szConfig.E : Env := [((7, []), laws_szStringS.s)]
def laws_szConfig.G (k p : Nat) (avs : List AV) (H : List HE) : Option (Int) := none
set_option maxRecDepth 100000 in
theorem laws_szConfig.eq (k : Nat) (a0_0 : Int) (a0_1 : Int) (a0_2 : Int) (a0_3 : List ByteArray) (a1 : Int) : fromTop Tryd.prog laws_szConfig.E k laws_szConfig.a (laws_szConfig.G k) 1000 (bodyOf Tryd.prog 15) [.agg [.v (.int .i64 a0_0), .v (.int .i64 a0_1), .v (.int .i64 a0_2), .con .str a0_3], .v (.int .i64 a1)] [] = laws_szConfig.f k a0_0 a0_1 a0_2 a0_3 a1 := by kernel_rfl
theorem laws_szConfig.E_ok : EnvOk Tryd.prog laws_szConfig.E := ⟨⟨laws_szStringS.sound, callable_of (by kernel_rfl)⟩, trivial⟩
theorem laws_szConfig.sound : Sound Tryd.prog 15 laws_szConfig.s := by
  refine func_sound (f := laws_szConfig.a) (G := laws_szConfig.G) (fn := Tryd.f15) (body := bodyOf Tryd.prog 15) 1000 (by kernel_rfl) laws_szConfig.E_ok Tryd.func15 (by kernel_rfl) (by kernel_rfl) (by kernel_rfl) (ptsOk_of (by kernel_rfl)) ?_ ?_ ?_ ?_
  · intro r H x h
    unfold laws_szConfig.a at h
    simp only at h
    split at h
    · cases h; rfl
    · cases h
  · intro q avs H; rfl
  · intro k q pt avs H x _ h; cases h
  · intro k avs H o h
    try dsimp only at h
    split at h
    · cases h; exact laws_szConfig.eq _ _ _ _ _ _
    · cases h

def laws_toStringS.a : FnA (List ByteArray) := ⟨22, [.tmp 2], .row 9 .str, [], [⟨8, [0, 3, 4], [.con .str, .row 9 .str, .val], []⟩], fun x H => match x, H with
  | .own 0, [.row 9 .str r] => some r
  | _, _ => none⟩
def laws_toStringS.s : Spec := mkS [.con .str] (fun k avs H => match avs, H with
  | [.con .str a0], [] => some (laws_toStringS.f k a0)
  | _, _ => none) (fun r => (.own 0, [.row 9 .str r]))
def laws_toStringS.E : Env := []
def laws_toStringS.G8 (k : Nat) (avs : List AV) (H : List HE) : Option (List ByteArray) := match avs, H with
  | [.con .str x0, .own 0, .v (.int .i64 x4)], [.row 9 .str x3] => laws_toStringS.p8 k x0 x3 x4
  | _, _ => none
def laws_toStringS.G (k p : Nat) (avs : List AV) (H : List HE) : Option (List ByteArray) := (pick1 8 (laws_toStringS.G8 k avs H) none p)
set_option maxRecDepth 100000 in
theorem laws_toStringS.eq (k : Nat) (a0 : List ByteArray) : fromTop Tryd.prog laws_toStringS.E k laws_toStringS.a (laws_toStringS.G k) 1000 (bodyOf Tryd.prog 10) [.con .str a0] [] = laws_toStringS.f k a0 := by kernel_rfl
set_option maxRecDepth 100000 in
theorem laws_toStringS.eq8 (k : Nat) (x0 : List ByteArray) (x3 : List ByteArray) (x4 : Int) : fromPt Tryd.prog laws_toStringS.E k laws_toStringS.a (laws_toStringS.G k) 1000 (bodyOf Tryd.prog 10) 8 [.con .str x0, .own 0, .v (.int .i64 x4)] [.row 9 .str x3] = laws_toStringS.p8 (k + 1) x0 x3 x4 := by kernel_rfl
theorem laws_toStringS.G8_0 {avs : List AV} {H : List HE} : laws_toStringS.G8 0 avs H = none := by unfold laws_toStringS.G8; split <;> rfl
theorem laws_toStringS.G8_s (k : Nat) {avs : List AV} {H : List HE} {x : List ByteArray} (h : laws_toStringS.G8 (k + 1) avs H = some x) : fromPt Tryd.prog laws_toStringS.E k laws_toStringS.a (laws_toStringS.G k) 1000 (bodyOf Tryd.prog 10) 8 avs H = some x := by
  unfold laws_toStringS.G8 at h
  split at h
  · rw [← h]; exact laws_toStringS.eq8 _ _ _ _
  · cases h
theorem laws_toStringS.E_ok : EnvOk Tryd.prog laws_toStringS.E := trivial
theorem laws_toStringS.sound : Sound Tryd.prog 10 laws_toStringS.s := by
  refine func_sound (f := laws_toStringS.a) (G := laws_toStringS.G) (fn := Tryd.f10) (body := bodyOf Tryd.prog 10) 1000 (by kernel_rfl) laws_toStringS.E_ok Tryd.func10 (by kernel_rfl) (by kernel_rfl) (by kernel_rfl) (ptsOk_of (by kernel_rfl)) ?_ ?_ ?_ ?_
  · intro r H x h
    unfold laws_toStringS.a at h
    simp only at h
    split at h
    · cases h; rfl
    · cases h
  · exact fun q avs H => pick1_none laws_toStringS.G8_0 (rfl)
  · intro k q pt avs H x _ h
    rcases pick1_some h with ⟨rfl, h⟩ | h
    · exact laws_toStringS.G8_s _ h
    cases h
  · intro k avs H o h
    try dsimp only at h
    split at h
    · cases h; exact laws_toStringS.eq _ _
    · cases h

def laws_toConfig.a : FnA (Int × Int × Int × List ByteArray) := ⟨18, [.cell 2 43], .agg [.val, .val, .val, .row 9 .str], [], [], fun x H => match x, H with
  | .agg [.v (.int .i64 r_0), .v (.int .i64 r_1), .v (.int .i64 r_2), .own 0], [.row 9 .str r_3] => some (r_0, r_1, r_2, r_3)
  | _, _ => none⟩
def laws_toConfig.s : Spec := mkS [.agg [.val, .val, .val, .con .str]] (fun k avs H => match avs, H with
  | [.agg [.v (.int .i64 a0_0), .v (.int .i64 a0_1), .v (.int .i64 a0_2), .con .str a0_3]], [] => some (laws_toConfig.f k a0_0 a0_1 a0_2 a0_3)
  | _, _ => none) (fun r => (.agg [.v (.int .i64 r.1), .v (.int .i64 r.2.1), .v (.int .i64 r.2.2.1), .own 0], [.row 9 .str r.2.2.2]))
def laws_toConfig.E : Env := [((10, []), laws_toStringS.s)]
def laws_toConfig.G (k p : Nat) (avs : List AV) (H : List HE) : Option (Int × Int × Int × List ByteArray) := none
set_option maxRecDepth 100000 in
theorem laws_toConfig.eq (k : Nat) (a0_0 : Int) (a0_1 : Int) (a0_2 : Int) (a0_3 : List ByteArray) : fromTop Tryd.prog laws_toConfig.E k laws_toConfig.a (laws_toConfig.G k) 1000 (bodyOf Tryd.prog 17) [.agg [.v (.int .i64 a0_0), .v (.int .i64 a0_1), .v (.int .i64 a0_2), .con .str a0_3]] [] = laws_toConfig.f k a0_0 a0_1 a0_2 a0_3 := by kernel_rfl
theorem laws_toConfig.E_ok : EnvOk Tryd.prog laws_toConfig.E := ⟨⟨laws_toStringS.sound, callable_of (by kernel_rfl)⟩, trivial⟩
theorem laws_toConfig.sound : Sound Tryd.prog 17 laws_toConfig.s := by
  refine func_sound (f := laws_toConfig.a) (G := laws_toConfig.G) (fn := Tryd.f17) (body := bodyOf Tryd.prog 17) 1000 (by kernel_rfl) laws_toConfig.E_ok Tryd.func17 (by kernel_rfl) (by kernel_rfl) (by kernel_rfl) (ptsOk_of (by kernel_rfl)) ?_ ?_ ?_ ?_
  · intro r H x h
    unfold laws_toConfig.a at h
    simp only at h
    split at h
    · cases h; rfl
    · cases h
  · intro q avs H; rfl
  · intro k q pt avs H x _ h; cases h
  · intro k avs H o h
    try dsimp only at h
    split at h
    · cases h; exact laws_toConfig.eq _ _ _ _ _
    · cases h

def spec_l1In.a : FnA (Bool) := ⟨15, [.tmp 6], .bool, [], [], fun x H => match x, H with
  | .bs false r, [] => some r
  | _, _ => none⟩
def spec_l1In.s : Spec := mkS [.val, .val, .val] (fun k avs H => match avs, H with
  | [.v (.int .i64 a0), .v (.int .i64 a1), .v (.int .i64 a2)], [] => some (spec_l1In.f a0 a1 a2)
  | _, _ => none) (fun r => (.bs false r, []))
def spec_l1In.E : Env := []
def spec_l1In.G (k p : Nat) (avs : List AV) (H : List HE) : Option (Bool) := none
set_option maxRecDepth 100000 in
theorem spec_l1In.eq (k : Nat) (a0 : Int) (a1 : Int) (a2 : Int) : fromTop Tryd.prog spec_l1In.E k spec_l1In.a (spec_l1In.G k) 1000 (bodyOf Tryd.prog 37) [.v (.int .i64 a0), .v (.int .i64 a1), .v (.int .i64 a2)] [] = spec_l1In.f a0 a1 a2 := by kernel_rfl
theorem spec_l1In.E_ok : EnvOk Tryd.prog spec_l1In.E := trivial
theorem spec_l1In.sound : Sound Tryd.prog 37 spec_l1In.s := by
  refine func_sound (f := spec_l1In.a) (G := spec_l1In.G) (fn := Tryd.f37) (body := bodyOf Tryd.prog 37) 1000 (by kernel_rfl) spec_l1In.E_ok Tryd.func37 (by kernel_rfl) (by kernel_rfl) (by kernel_rfl) (ptsOk_of (by kernel_rfl)) ?_ ?_ ?_ ?_
  · intro r H x h
    unfold spec_l1In.a at h
    simp only at h
    split at h
    · cases h; rfl
    · cases h
  · intro q avs H; rfl
  · intro k q pt avs H x _ h; cases h
  · intro k avs H o h
    try dsimp only at h
    split at h
    · cases h; exact spec_l1In.eq _ _ _ _
    · cases h

def spec_l3Type.a : FnA (Bool) := ⟨23, [.tmp 2], .bool, [], [⟨6, [0, 3], [.val, .val], []⟩], fun x H => match x, H with
  | .bs false r, [] => some r
  | _, _ => none⟩
def spec_l3Type.s : Spec := mkS [.val] (fun k avs H => match avs, H with
  | [.v (.string a0)], [] => some (spec_l3Type.f k a0)
  | _, _ => none) (fun r => (.bs false r, []))
def spec_l3Type.E : Env := [((37, []), spec_l1In.s)]
def spec_l3Type.G6 (k : Nat) (avs : List AV) (H : List HE) : Option (Bool) := match avs, H with
  | [.v (.string x0), .v (.int .i64 x3)], [] => spec_l3Type.p6 k x0 x3
  | _, _ => none
def spec_l3Type.G (k p : Nat) (avs : List AV) (H : List HE) : Option (Bool) := (pick1 6 (spec_l3Type.G6 k avs H) none p)
set_option maxRecDepth 100000 in
theorem spec_l3Type.eq (k : Nat) (a0 : ByteArray) : fromTop Tryd.prog spec_l3Type.E k spec_l3Type.a (spec_l3Type.G k) 1000 (bodyOf Tryd.prog 74) [.v (.string a0)] [] = spec_l3Type.f k a0 := by kernel_rfl
set_option maxRecDepth 100000 in
theorem spec_l3Type.eq6 (k : Nat) (x0 : ByteArray) (x3 : Int) : fromPt Tryd.prog spec_l3Type.E k spec_l3Type.a (spec_l3Type.G k) 1000 (bodyOf Tryd.prog 74) 6 [.v (.string x0), .v (.int .i64 x3)] [] = spec_l3Type.p6 (k + 1) x0 x3 := by kernel_rfl
theorem spec_l3Type.G6_0 {avs : List AV} {H : List HE} : spec_l3Type.G6 0 avs H = none := by unfold spec_l3Type.G6; split <;> rfl
theorem spec_l3Type.G6_s (k : Nat) {avs : List AV} {H : List HE} {x : Bool} (h : spec_l3Type.G6 (k + 1) avs H = some x) : fromPt Tryd.prog spec_l3Type.E k spec_l3Type.a (spec_l3Type.G k) 1000 (bodyOf Tryd.prog 74) 6 avs H = some x := by
  unfold spec_l3Type.G6 at h
  split at h
  · rw [← h]; exact spec_l3Type.eq6 _ _ _
  · cases h
theorem spec_l3Type.E_ok : EnvOk Tryd.prog spec_l3Type.E := ⟨⟨spec_l1In.sound, callable_of (by kernel_rfl)⟩, trivial⟩
theorem spec_l3Type.sound : Sound Tryd.prog 74 spec_l3Type.s := by
  refine func_sound (f := spec_l3Type.a) (G := spec_l3Type.G) (fn := Tryd.f74) (body := bodyOf Tryd.prog 74) 1000 (by kernel_rfl) spec_l3Type.E_ok Tryd.func74 (by kernel_rfl) (by kernel_rfl) (by kernel_rfl) (ptsOk_of (by kernel_rfl)) ?_ ?_ ?_ ?_
  · intro r H x h
    unfold spec_l3Type.a at h
    simp only at h
    split at h
    · cases h; rfl
    · cases h
  · exact fun q avs H => pick1_none spec_l3Type.G6_0 (rfl)
  · intro k q pt avs H x _ h
    rcases pick1_some h with ⟨rfl, h⟩ | h
    · exact spec_l3Type.G6_s _ h
    cases h
  · intro k avs H o h
    try dsimp only at h
    split at h
    · cases h; exact spec_l3Type.eq _ _
    · cases h

def spec_TypesOk.a : FnA (Bool) := ⟨20, [.tmp 2], .bool, [], [⟨14, [0, 3], [.con .str, .val], []⟩], fun x H => match x, H with
  | .bs false r, [] => some r
  | _, _ => none⟩
def spec_TypesOk.s : Spec := mkS [.con .str] (fun k avs H => match avs, H with
  | [.con .str a0], [] => some (spec_TypesOk.f k a0)
  | _, _ => none) (fun r => (.bs false r, []))
def spec_TypesOk.E : Env := [((37, []), spec_l1In.s), ((74, []), spec_l3Type.s)]
def spec_TypesOk.G14 (k : Nat) (avs : List AV) (H : List HE) : Option (Bool) := match avs, H with
  | [.con .str x0, .v (.int .i64 x3)], [] => spec_TypesOk.p14 k x0 x3
  | _, _ => none
def spec_TypesOk.G (k p : Nat) (avs : List AV) (H : List HE) : Option (Bool) := (pick1 14 (spec_TypesOk.G14 k avs H) none p)
set_option maxRecDepth 100000 in
theorem spec_TypesOk.eq (k : Nat) (a0 : List ByteArray) : fromTop Tryd.prog spec_TypesOk.E k spec_TypesOk.a (spec_TypesOk.G k) 1000 (bodyOf Tryd.prog 36) [.con .str a0] [] = spec_TypesOk.f k a0 := by kernel_rfl
set_option maxRecDepth 100000 in
theorem spec_TypesOk.eq14 (k : Nat) (x0 : List ByteArray) (x3 : Int) : fromPt Tryd.prog spec_TypesOk.E k spec_TypesOk.a (spec_TypesOk.G k) 1000 (bodyOf Tryd.prog 36) 14 [.con .str x0, .v (.int .i64 x3)] [] = spec_TypesOk.p14 (k + 1) x0 x3 := by kernel_rfl
theorem spec_TypesOk.G14_0 {avs : List AV} {H : List HE} : spec_TypesOk.G14 0 avs H = none := by unfold spec_TypesOk.G14; split <;> rfl
theorem spec_TypesOk.G14_s (k : Nat) {avs : List AV} {H : List HE} {x : Bool} (h : spec_TypesOk.G14 (k + 1) avs H = some x) : fromPt Tryd.prog spec_TypesOk.E k spec_TypesOk.a (spec_TypesOk.G k) 1000 (bodyOf Tryd.prog 36) 14 avs H = some x := by
  unfold spec_TypesOk.G14 at h
  split at h
  · rw [← h]; exact spec_TypesOk.eq14 _ _ _
  · cases h
theorem spec_TypesOk.E_ok : EnvOk Tryd.prog spec_TypesOk.E := ⟨⟨spec_l1In.sound, callable_of (by kernel_rfl)⟩, ⟨spec_l3Type.sound, callable_of (by kernel_rfl)⟩, trivial⟩
theorem spec_TypesOk.sound : Sound Tryd.prog 36 spec_TypesOk.s := by
  refine func_sound (f := spec_TypesOk.a) (G := spec_TypesOk.G) (fn := Tryd.f36) (body := bodyOf Tryd.prog 36) 1000 (by kernel_rfl) spec_TypesOk.E_ok Tryd.func36 (by kernel_rfl) (by kernel_rfl) (by kernel_rfl) (ptsOk_of (by kernel_rfl)) ?_ ?_ ?_ ?_
  · intro r H x h
    unfold spec_TypesOk.a at h
    simp only at h
    split at h
    · cases h; rfl
    · cases h
  · exact fun q avs H => pick1_none spec_TypesOk.G14_0 (rfl)
  · intro k q pt avs H x _ h
    rcases pick1_some h with ⟨rfl, h⟩ | h
    · exact spec_TypesOk.G14_s _ h
    cases h
  · intro k avs H o h
    try dsimp only at h
    split at h
    · cases h; exact spec_TypesOk.eq _ _
    · cases h

def spec_ConfigOk.a : FnA (Bool) := ⟨29, [.tmp 2], .bool, [], [], fun x H => match x, H with
  | .bs false r, [] => some r
  | _, _ => none⟩
def spec_ConfigOk.s : Spec := mkS [.agg [.val, .val, .val, .con .str]] (fun k avs H => match avs, H with
  | [.agg [.v (.int .i64 a0_0), .v (.int .i64 a0_1), .v (.int .i64 a0_2), .con .str a0_3]], [] => some (spec_ConfigOk.f k a0_0 a0_1 a0_2 a0_3)
  | _, _ => none) (fun r => (.bs false r, []))
def spec_ConfigOk.E : Env := [((37, []), spec_l1In.s), ((36, []), spec_TypesOk.s)]
def spec_ConfigOk.G (k p : Nat) (avs : List AV) (H : List HE) : Option (Bool) := none
set_option maxRecDepth 100000 in
theorem spec_ConfigOk.eq (k : Nat) (a0_0 : Int) (a0_1 : Int) (a0_2 : Int) (a0_3 : List ByteArray) : fromTop Tryd.prog spec_ConfigOk.E k spec_ConfigOk.a (spec_ConfigOk.G k) 1000 (bodyOf Tryd.prog 85) [.agg [.v (.int .i64 a0_0), .v (.int .i64 a0_1), .v (.int .i64 a0_2), .con .str a0_3]] [] = spec_ConfigOk.f k a0_0 a0_1 a0_2 a0_3 := by kernel_rfl
theorem spec_ConfigOk.E_ok : EnvOk Tryd.prog spec_ConfigOk.E := ⟨⟨spec_l1In.sound, callable_of (by kernel_rfl)⟩, ⟨spec_TypesOk.sound, callable_of (by kernel_rfl)⟩, trivial⟩
theorem spec_ConfigOk.sound : Sound Tryd.prog 85 spec_ConfigOk.s := by
  refine func_sound (f := spec_ConfigOk.a) (G := spec_ConfigOk.G) (fn := Tryd.f85) (body := bodyOf Tryd.prog 85) 1000 (by kernel_rfl) spec_ConfigOk.E_ok Tryd.func85 (by kernel_rfl) (by kernel_rfl) (by kernel_rfl) (ptsOk_of (by kernel_rfl)) ?_ ?_ ?_ ?_
  · intro r H x h
    unfold spec_ConfigOk.a at h
    simp only at h
    split at h
    · cases h; rfl
    · cases h
  · intro q avs H; rfl
  · intro k q pt avs H x _ h; cases h
  · intro k avs H o h
    try dsimp only at h
    split at h
    · cases h; exact spec_ConfigOk.eq _ _ _ _ _
    · cases h

def spec_l5Image.a : FnA (Bool) := ⟨15, [.tmp 4], .bool, [], [], fun x H => match x, H with
  | .bs false r, [] => some r
  | _, _ => none⟩
def spec_l5Image.s : Spec := mkS [.agg [.val, .val, .val, .con .str], .val] (fun k avs H => match avs, H with
  | [.agg [.v (.int .i64 a0_0), .v (.int .i64 a0_1), .v (.int .i64 a0_2), .con .str a0_3], .v (.string a1)], [] => some (spec_l5Image.f k a0_0 a0_1 a0_2 a0_3 a1)
  | _, _ => none) (fun r => (.bs false r, []))
def spec_l5Image.E : Env := [((85, []), spec_ConfigOk.s)]
def spec_l5Image.G (k p : Nat) (avs : List AV) (H : List HE) : Option (Bool) := none
set_option maxRecDepth 100000 in
theorem spec_l5Image.eq (k : Nat) (a0_0 : Int) (a0_1 : Int) (a0_2 : Int) (a0_3 : List ByteArray) (a1 : ByteArray) : fromTop Tryd.prog spec_l5Image.E k spec_l5Image.a (spec_l5Image.G k) 1000 (bodyOf Tryd.prog 48) [.agg [.v (.int .i64 a0_0), .v (.int .i64 a0_1), .v (.int .i64 a0_2), .con .str a0_3], .v (.string a1)] [] = spec_l5Image.f k a0_0 a0_1 a0_2 a0_3 a1 := by kernel_rfl
theorem spec_l5Image.E_ok : EnvOk Tryd.prog spec_l5Image.E := ⟨⟨spec_ConfigOk.sound, callable_of (by kernel_rfl)⟩, trivial⟩
theorem spec_l5Image.sound : Sound Tryd.prog 48 spec_l5Image.s := by
  refine func_sound (f := spec_l5Image.a) (G := spec_l5Image.G) (fn := Tryd.f48) (body := bodyOf Tryd.prog 48) 1000 (by kernel_rfl) spec_l5Image.E_ok Tryd.func48 (by kernel_rfl) (by kernel_rfl) (by kernel_rfl) (ptsOk_of (by kernel_rfl)) ?_ ?_ ?_ ?_
  · intro r H x h
    unfold spec_l5Image.a at h
    simp only at h
    split at h
    · cases h; rfl
    · cases h
  · intro q avs H; rfl
  · intro k q pt avs H x _ h; cases h
  · intro k avs H o h
    try dsimp only at h
    split at h
    · cases h; exact spec_l5Image.eq _ _ _ _ _ _
    · cases h

def spec_ReadWord.a : FnA (Int × Bool) := ⟨22, [.tmp 2, .tmp 3], .tup [.val, .bool], [], [⟨16, [0, 4, 5], [.val, .val, .val], []⟩], fun x H => match x, H with
  | .tup [.v (.int .i64 r_0), .bs false r_1], [] => some (r_0, r_1)
  | _, _ => none⟩
def spec_ReadWord.s : Spec := mkS [.val] (fun k avs H => match avs, H with
  | [.v (.string a0)], [] => some (spec_ReadWord.f k a0)
  | _, _ => none) (fun r => (.tup [.v (.int .i64 r.1), .bs false r.2], []))
def spec_ReadWord.E : Env := []
def spec_ReadWord.G16 (k : Nat) (avs : List AV) (H : List HE) : Option (Int × Bool) := match avs, H with
  | [.v (.string x0), .v (.int .u64 x4), .v (.int .i64 x5)], [] => spec_ReadWord.p16 k x0 x4 x5
  | _, _ => none
def spec_ReadWord.G (k p : Nat) (avs : List AV) (H : List HE) : Option (Int × Bool) := (pick1 16 (spec_ReadWord.G16 k avs H) none p)
set_option maxRecDepth 100000 in
theorem spec_ReadWord.eq (k : Nat) (a0 : ByteArray) : fromTop Tryd.prog spec_ReadWord.E k spec_ReadWord.a (spec_ReadWord.G k) 1000 (bodyOf Tryd.prog 103) [.v (.string a0)] [] = spec_ReadWord.f k a0 := by kernel_rfl
set_option maxRecDepth 100000 in
theorem spec_ReadWord.eq16 (k : Nat) (x0 : ByteArray) (x4 : Int) (x5 : Int) : fromPt Tryd.prog spec_ReadWord.E k spec_ReadWord.a (spec_ReadWord.G k) 1000 (bodyOf Tryd.prog 103) 16 [.v (.string x0), .v (.int .u64 x4), .v (.int .i64 x5)] [] = spec_ReadWord.p16 (k + 1) x0 x4 x5 := by kernel_rfl
theorem spec_ReadWord.G16_0 {avs : List AV} {H : List HE} : spec_ReadWord.G16 0 avs H = none := by unfold spec_ReadWord.G16; split <;> rfl
theorem spec_ReadWord.G16_s (k : Nat) {avs : List AV} {H : List HE} {x : Int × Bool} (h : spec_ReadWord.G16 (k + 1) avs H = some x) : fromPt Tryd.prog spec_ReadWord.E k spec_ReadWord.a (spec_ReadWord.G k) 1000 (bodyOf Tryd.prog 103) 16 avs H = some x := by
  unfold spec_ReadWord.G16 at h
  split at h
  · rw [← h]; exact spec_ReadWord.eq16 _ _ _ _
  · cases h
theorem spec_ReadWord.E_ok : EnvOk Tryd.prog spec_ReadWord.E := trivial
theorem spec_ReadWord.sound : Sound Tryd.prog 103 spec_ReadWord.s := by
  refine func_sound (f := spec_ReadWord.a) (G := spec_ReadWord.G) (fn := Tryd.f103) (body := bodyOf Tryd.prog 103) 1000 (by kernel_rfl) spec_ReadWord.E_ok Tryd.func103 (by kernel_rfl) (by kernel_rfl) (by kernel_rfl) (ptsOk_of (by kernel_rfl)) ?_ ?_ ?_ ?_
  · intro r H x h
    unfold spec_ReadWord.a at h
    simp only at h
    split at h
    · cases h; rfl
    · cases h
  · exact fun q avs H => pick1_none spec_ReadWord.G16_0 (rfl)
  · intro k q pt avs H x _ h
    rcases pick1_some h with ⟨rfl, h⟩ | h
    · exact spec_ReadWord.G16_s _ h
    cases h
  · intro k avs H o h
    try dsimp only at h
    split at h
    · cases h; exact spec_ReadWord.eq _ _
    · cases h

def spec_l9Word.a : FnA (Int) := ⟨19, [.tmp 4], .val, [], [], fun x H => match x, H with
  | .v (.int .i64 r), [] => some r
  | _, _ => none⟩
def spec_l9Word.s : Spec := mkS [.val, .val] (fun k avs H => match avs, H with
  | [.v (.string a0), .v (.int .i64 a1)], [] => some (spec_l9Word.f k a0 a1)
  | _, _ => none) (fun r => (.v (.int .i64 r), []))
def spec_l9Word.E : Env := [((103, []), spec_ReadWord.s)]
def spec_l9Word.G (k p : Nat) (avs : List AV) (H : List HE) : Option (Int) := none
set_option maxRecDepth 100000 in
theorem spec_l9Word.eq (k : Nat) (a0 : ByteArray) (a1 : Int) : fromTop Tryd.prog spec_l9Word.E k spec_l9Word.a (spec_l9Word.G k) 1000 (bodyOf Tryd.prog 87) [.v (.string a0), .v (.int .i64 a1)] [] = spec_l9Word.f k a0 a1 := by kernel_rfl
theorem spec_l9Word.E_ok : EnvOk Tryd.prog spec_l9Word.E := ⟨⟨spec_ReadWord.sound, callable_of (by kernel_rfl)⟩, trivial⟩
theorem spec_l9Word.sound : Sound Tryd.prog 87 spec_l9Word.s := by
  refine func_sound (f := spec_l9Word.a) (G := spec_l9Word.G) (fn := Tryd.f87) (body := bodyOf Tryd.prog 87) 1000 (by kernel_rfl) spec_l9Word.E_ok Tryd.func87 (by kernel_rfl) (by kernel_rfl) (by kernel_rfl) (ptsOk_of (by kernel_rfl)) ?_ ?_ ?_ ?_
  · intro r H x h
    unfold spec_l9Word.a at h
    simp only at h
    split at h
    · cases h; rfl
    · cases h
  · intro q avs H; rfl
  · intro k q pt avs H x _ h; cases h
  · intro k avs H o h
    try dsimp only at h
    split at h
    · cases h; exact spec_l9Word.eq _ _ _
    · cases h

def spec_l10Slots.a : FnA (List Int) := ⟨18, [.tmp 2], .row 2 (.int .i64), [], [⟨8, [0, 3, 4], [.val, .row 2 (.int .i64), .val], []⟩], fun x H => match x, H with
  | .own 0, [.row 2 (.int .i64) r] => some r
  | _, _ => none⟩
def spec_l10Slots.s : Spec := mkS [.val] (fun k avs H => match avs, H with
  | [.v (.string a0)], [] => some (spec_l10Slots.f k a0)
  | _, _ => none) (fun r => (.own 0, [.row 2 (.int .i64) r]))
def spec_l10Slots.E : Env := [((87, []), spec_l9Word.s)]
def spec_l10Slots.G8 (k : Nat) (avs : List AV) (H : List HE) : Option (List Int) := match avs, H with
  | [.v (.string x0), .own 0, .v (.int .i64 x4)], [.row 2 (.int .i64) x3] => spec_l10Slots.p8 k x0 x3 x4
  | _, _ => none
def spec_l10Slots.G (k p : Nat) (avs : List AV) (H : List HE) : Option (List Int) := (pick1 8 (spec_l10Slots.G8 k avs H) none p)
set_option maxRecDepth 100000 in
theorem spec_l10Slots.eq (k : Nat) (a0 : ByteArray) : fromTop Tryd.prog spec_l10Slots.E k spec_l10Slots.a (spec_l10Slots.G k) 1000 (bodyOf Tryd.prog 50) [.v (.string a0)] [] = spec_l10Slots.f k a0 := by kernel_rfl
set_option maxRecDepth 100000 in
theorem spec_l10Slots.eq8 (k : Nat) (x0 : ByteArray) (x3 : List Int) (x4 : Int) : fromPt Tryd.prog spec_l10Slots.E k spec_l10Slots.a (spec_l10Slots.G k) 1000 (bodyOf Tryd.prog 50) 8 [.v (.string x0), .own 0, .v (.int .i64 x4)] [.row 2 (.int .i64) x3] = spec_l10Slots.p8 (k + 1) x0 x3 x4 := by kernel_rfl
theorem spec_l10Slots.G8_0 {avs : List AV} {H : List HE} : spec_l10Slots.G8 0 avs H = none := by unfold spec_l10Slots.G8; split <;> rfl
theorem spec_l10Slots.G8_s (k : Nat) {avs : List AV} {H : List HE} {x : List Int} (h : spec_l10Slots.G8 (k + 1) avs H = some x) : fromPt Tryd.prog spec_l10Slots.E k spec_l10Slots.a (spec_l10Slots.G k) 1000 (bodyOf Tryd.prog 50) 8 avs H = some x := by
  unfold spec_l10Slots.G8 at h
  split at h
  · rw [← h]; exact spec_l10Slots.eq8 _ _ _ _
  · cases h
theorem spec_l10Slots.E_ok : EnvOk Tryd.prog spec_l10Slots.E := ⟨⟨spec_l9Word.sound, callable_of (by kernel_rfl)⟩, trivial⟩
theorem spec_l10Slots.sound : Sound Tryd.prog 50 spec_l10Slots.s := by
  refine func_sound (f := spec_l10Slots.a) (G := spec_l10Slots.G) (fn := Tryd.f50) (body := bodyOf Tryd.prog 50) 1000 (by kernel_rfl) spec_l10Slots.E_ok Tryd.func50 (by kernel_rfl) (by kernel_rfl) (by kernel_rfl) (ptsOk_of (by kernel_rfl)) ?_ ?_ ?_ ?_
  · intro r H x h
    unfold spec_l10Slots.a at h
    simp only at h
    split at h
    · cases h; rfl
    · cases h
  · exact fun q avs H => pick1_none spec_l10Slots.G8_0 (rfl)
  · intro k q pt avs H x _ h
    rcases pick1_some h with ⟨rfl, h⟩ | h
    · exact spec_l10Slots.G8_s _ h
    cases h
  · intro k avs H o h
    try dsimp only at h
    split at h
    · cases h; exact spec_l10Slots.eq _ _
    · cases h

def spec_RefKind.a : FnA (Int) := ⟨22, [.tmp 2], .val, [], [], fun x H => match x, H with
  | .v (.int .i64 r), [] => some r
  | _, _ => none⟩
def spec_RefKind.s : Spec := mkS [.val] (fun k avs H => match avs, H with
  | [.v (.int .i64 a0)], [] => some (spec_RefKind.f a0)
  | _, _ => none) (fun r => (.v (.int .i64 r), []))
def spec_RefKind.E : Env := [((37, []), spec_l1In.s)]
def spec_RefKind.G (k p : Nat) (avs : List AV) (H : List HE) : Option (Int) := none
set_option maxRecDepth 100000 in
theorem spec_RefKind.eq (k : Nat) (a0 : Int) : fromTop Tryd.prog spec_RefKind.E k spec_RefKind.a (spec_RefKind.G k) 1000 (bodyOf Tryd.prog 70) [.v (.int .i64 a0)] [] = spec_RefKind.f a0 := by kernel_rfl
theorem spec_RefKind.E_ok : EnvOk Tryd.prog spec_RefKind.E := ⟨⟨spec_l1In.sound, callable_of (by kernel_rfl)⟩, trivial⟩
theorem spec_RefKind.sound : Sound Tryd.prog 70 spec_RefKind.s := by
  refine func_sound (f := spec_RefKind.a) (G := spec_RefKind.G) (fn := Tryd.f70) (body := bodyOf Tryd.prog 70) 1000 (by kernel_rfl) spec_RefKind.E_ok Tryd.func70 (by kernel_rfl) (by kernel_rfl) (by kernel_rfl) (ptsOk_of (by kernel_rfl)) ?_ ?_ ?_ ?_
  · intro r H x h
    unfold spec_RefKind.a at h
    simp only at h
    split at h
    · cases h; rfl
    · cases h
  · intro q avs H; rfl
  · intro k q pt avs H x _ h; cases h
  · intro k avs H o h
    try dsimp only at h
    split at h
    · cases h; exact spec_RefKind.eq _ _
    · cases h

def spec_l10Line.a : FnA (Bool) := ⟨13, [.tmp 4], .bool, [], [], fun x H => match x, H with
  | .bs false r, [] => some r
  | _, _ => none⟩
def spec_l10Line.s : Spec := mkS [.agg [.val, .val, .val, .con .str], .val] (fun k avs H => match avs, H with
  | [.agg [.v (.int .i64 a0_0), .v (.int .i64 a0_1), .v (.int .i64 a0_2), .con .str a0_3], .v (.int .i64 a1)], [] => some (spec_l10Line.f a0_0 a0_1 a0_2 a0_3 a1)
  | _, _ => none) (fun r => (.bs false r, []))
def spec_l10Line.E : Env := [((37, []), spec_l1In.s)]
def spec_l10Line.G (k p : Nat) (avs : List AV) (H : List HE) : Option (Bool) := none
set_option maxRecDepth 100000 in
theorem spec_l10Line.eq (k : Nat) (a0_0 : Int) (a0_1 : Int) (a0_2 : Int) (a0_3 : List ByteArray) (a1 : Int) : fromTop Tryd.prog spec_l10Line.E k spec_l10Line.a (spec_l10Line.G k) 1000 (bodyOf Tryd.prog 102) [.agg [.v (.int .i64 a0_0), .v (.int .i64 a0_1), .v (.int .i64 a0_2), .con .str a0_3], .v (.int .i64 a1)] [] = spec_l10Line.f a0_0 a0_1 a0_2 a0_3 a1 := by kernel_rfl
theorem spec_l10Line.E_ok : EnvOk Tryd.prog spec_l10Line.E := ⟨⟨spec_l1In.sound, callable_of (by kernel_rfl)⟩, trivial⟩
theorem spec_l10Line.sound : Sound Tryd.prog 102 spec_l10Line.s := by
  refine func_sound (f := spec_l10Line.a) (G := spec_l10Line.G) (fn := Tryd.f102) (body := bodyOf Tryd.prog 102) 1000 (by kernel_rfl) spec_l10Line.E_ok Tryd.func102 (by kernel_rfl) (by kernel_rfl) (by kernel_rfl) (ptsOk_of (by kernel_rfl)) ?_ ?_ ?_ ?_
  · intro r H x h
    unfold spec_l10Line.a at h
    simp only at h
    split at h
    · cases h; rfl
    · cases h
  · intro q avs H; rfl
  · intro k q pt avs H x _ h; cases h
  · intro k avs H o h
    try dsimp only at h
    split at h
    · cases h; exact spec_l10Line.eq _ _ _ _ _ _
    · cases h

def spec_l10Ref.a : FnA (Bool) := ⟨18, [.tmp 4], .bool, [], [], fun x H => match x, H with
  | .bs false r, [] => some r
  | _, _ => none⟩
def spec_l10Ref.s : Spec := mkS [.agg [.val, .val, .val, .con .str], .val] (fun k avs H => match avs, H with
  | [.agg [.v (.int .i64 a0_0), .v (.int .i64 a0_1), .v (.int .i64 a0_2), .con .str a0_3], .v (.int .i64 a1)], [] => some (spec_l10Ref.f a0_0 a0_1 a0_2 a0_3 a1)
  | _, _ => none) (fun r => (.bs false r, []))
def spec_l10Ref.E : Env := [((70, []), spec_RefKind.s), ((102, []), spec_l10Line.s)]
def spec_l10Ref.G (k p : Nat) (avs : List AV) (H : List HE) : Option (Bool) := none
set_option maxRecDepth 100000 in
theorem spec_l10Ref.eq (k : Nat) (a0_0 : Int) (a0_1 : Int) (a0_2 : Int) (a0_3 : List ByteArray) (a1 : Int) : fromTop Tryd.prog spec_l10Ref.E k spec_l10Ref.a (spec_l10Ref.G k) 1000 (bodyOf Tryd.prog 86) [.agg [.v (.int .i64 a0_0), .v (.int .i64 a0_1), .v (.int .i64 a0_2), .con .str a0_3], .v (.int .i64 a1)] [] = spec_l10Ref.f a0_0 a0_1 a0_2 a0_3 a1 := by kernel_rfl
theorem spec_l10Ref.E_ok : EnvOk Tryd.prog spec_l10Ref.E := ⟨⟨spec_RefKind.sound, callable_of (by kernel_rfl)⟩, ⟨spec_l10Line.sound, callable_of (by kernel_rfl)⟩, trivial⟩
theorem spec_l10Ref.sound : Sound Tryd.prog 86 spec_l10Ref.s := by
  refine func_sound (f := spec_l10Ref.a) (G := spec_l10Ref.G) (fn := Tryd.f86) (body := bodyOf Tryd.prog 86) 1000 (by kernel_rfl) spec_l10Ref.E_ok Tryd.func86 (by kernel_rfl) (by kernel_rfl) (by kernel_rfl) (ptsOk_of (by kernel_rfl)) ?_ ?_ ?_ ?_
  · intro r H x h
    unfold spec_l10Ref.a at h
    simp only at h
    split at h
    · cases h; rfl
    · cases h
  · intro q avs H; rfl
  · intro k q pt avs H x _ h; cases h
  · intro k avs H o h
    try dsimp only at h
    split at h
    · cases h; exact spec_l10Ref.eq _ _ _ _ _ _
    · cases h

def spec_l10Refs.a : FnA (Bool) := ⟨19, [.tmp 4], .bool, [], [⟨6, [1, 2, 5], [.con (.int .i64), .box [.val, .val, .val, .con .str], .val], []⟩], fun x H => match x, H with
  | .bs false r, [] => some r
  | _, _ => none⟩
def spec_l10Refs.s : Spec := mkS [.agg [.val, .val, .val, .con .str], .con (.int .i64)] (fun k avs H => match avs, H with
  | [.agg [.v (.int .i64 a0_0), .v (.int .i64 a0_1), .v (.int .i64 a0_2), .con .str a0_3], .con (.int .i64) a1], [] => some (spec_l10Refs.f k a0_0 a0_1 a0_2 a0_3 a1)
  | _, _ => none) (fun r => (.bs false r, []))
def spec_l10Refs.E : Env := [((86, []), spec_l10Ref.s)]
def spec_l10Refs.G6 (k : Nat) (avs : List AV) (H : List HE) : Option (Bool) := match avs, H with
  | [.con (.int .i64) x1, .box 0 0, .v (.int .i64 x5)], [.box [.v (.int .i64 x2_0), .v (.int .i64 x2_1), .v (.int .i64 x2_2), .con .str x2_3]] => spec_l10Refs.p6 k x1 x2_0 x2_1 x2_2 x2_3 x5
  | _, _ => none
def spec_l10Refs.G (k p : Nat) (avs : List AV) (H : List HE) : Option (Bool) := (pick1 6 (spec_l10Refs.G6 k avs H) none p)
set_option maxRecDepth 100000 in
theorem spec_l10Refs.eq (k : Nat) (a0_0 : Int) (a0_1 : Int) (a0_2 : Int) (a0_3 : List ByteArray) (a1 : List Int) : fromTop Tryd.prog spec_l10Refs.E k spec_l10Refs.a (spec_l10Refs.G k) 1000 (bodyOf Tryd.prog 49) [.agg [.v (.int .i64 a0_0), .v (.int .i64 a0_1), .v (.int .i64 a0_2), .con .str a0_3], .con (.int .i64) a1] [] = spec_l10Refs.f k a0_0 a0_1 a0_2 a0_3 a1 := by kernel_rfl
set_option maxRecDepth 100000 in
theorem spec_l10Refs.eq6 (k : Nat) (x1 : List Int) (x2_0 : Int) (x2_1 : Int) (x2_2 : Int) (x2_3 : List ByteArray) (x5 : Int) : fromPt Tryd.prog spec_l10Refs.E k spec_l10Refs.a (spec_l10Refs.G k) 1000 (bodyOf Tryd.prog 49) 6 [.con (.int .i64) x1, .box 0 0, .v (.int .i64 x5)] [.box [.v (.int .i64 x2_0), .v (.int .i64 x2_1), .v (.int .i64 x2_2), .con .str x2_3]] = spec_l10Refs.p6 (k + 1) x1 x2_0 x2_1 x2_2 x2_3 x5 := by kernel_rfl
theorem spec_l10Refs.G6_0 {avs : List AV} {H : List HE} : spec_l10Refs.G6 0 avs H = none := by unfold spec_l10Refs.G6; split <;> rfl
theorem spec_l10Refs.G6_s (k : Nat) {avs : List AV} {H : List HE} {x : Bool} (h : spec_l10Refs.G6 (k + 1) avs H = some x) : fromPt Tryd.prog spec_l10Refs.E k spec_l10Refs.a (spec_l10Refs.G k) 1000 (bodyOf Tryd.prog 49) 6 avs H = some x := by
  unfold spec_l10Refs.G6 at h
  split at h
  · rw [← h]; exact spec_l10Refs.eq6 _ _ _ _ _ _ _
  · cases h
theorem spec_l10Refs.E_ok : EnvOk Tryd.prog spec_l10Refs.E := ⟨⟨spec_l10Ref.sound, callable_of (by kernel_rfl)⟩, trivial⟩
theorem spec_l10Refs.sound : Sound Tryd.prog 49 spec_l10Refs.s := by
  refine func_sound (f := spec_l10Refs.a) (G := spec_l10Refs.G) (fn := Tryd.f49) (body := bodyOf Tryd.prog 49) 1000 (by kernel_rfl) spec_l10Refs.E_ok Tryd.func49 (by kernel_rfl) (by kernel_rfl) (by kernel_rfl) (ptsOk_of (by kernel_rfl)) ?_ ?_ ?_ ?_
  · intro r H x h
    unfold spec_l10Refs.a at h
    simp only at h
    split at h
    · cases h; rfl
    · cases h
  · exact fun q avs H => pick1_none spec_l10Refs.G6_0 (rfl)
  · intro k q pt avs H x _ h
    rcases pick1_some h with ⟨rfl, h⟩ | h
    · exact spec_l10Refs.G6_s _ h
    cases h
  · intro k avs H o h
    try dsimp only at h
    split at h
    · cases h; exact spec_l10Refs.eq _ _ _ _ _ _
    · cases h

def spec_RootsOf.a : FnA (List Int × Bool) := ⟨19, [.tmp 4, .tmp 5], .tup [.row 2 (.int .i64), .bool], [], [], fun x H => match x, H with
  | .tup [.own 0, .bs false r_1], [.row 2 (.int .i64) r_0] => some (r_0, r_1)
  | _, _ => none⟩
def spec_RootsOf.s : Spec := mkS [.agg [.val, .val, .val, .con .str], .val] (fun k avs H => match avs, H with
  | [.agg [.v (.int .i64 a0_0), .v (.int .i64 a0_1), .v (.int .i64 a0_2), .con .str a0_3], .v (.string a1)], [] => some (spec_RootsOf.f k a0_0 a0_1 a0_2 a0_3 a1)
  | _, _ => none) (fun r => (.tup [.own 0, .bs false r.2], [.row 2 (.int .i64) r.1]))
def spec_RootsOf.E : Env := [((48, []), spec_l5Image.s), ((50, []), spec_l10Slots.s), ((49, []), spec_l10Refs.s)]
def spec_RootsOf.G (k p : Nat) (avs : List AV) (H : List HE) : Option (List Int × Bool) := none
set_option maxRecDepth 100000 in
theorem spec_RootsOf.eq (k : Nat) (a0_0 : Int) (a0_1 : Int) (a0_2 : Int) (a0_3 : List ByteArray) (a1 : ByteArray) : fromTop Tryd.prog spec_RootsOf.E k spec_RootsOf.a (spec_RootsOf.G k) 1000 (bodyOf Tryd.prog 16) [.agg [.v (.int .i64 a0_0), .v (.int .i64 a0_1), .v (.int .i64 a0_2), .con .str a0_3], .v (.string a1)] [] = spec_RootsOf.f k a0_0 a0_1 a0_2 a0_3 a1 := by kernel_rfl
theorem spec_RootsOf.E_ok : EnvOk Tryd.prog spec_RootsOf.E := ⟨⟨spec_l5Image.sound, callable_of (by kernel_rfl)⟩, ⟨spec_l10Slots.sound, callable_of (by kernel_rfl)⟩, ⟨spec_l10Refs.sound, callable_of (by kernel_rfl)⟩, trivial⟩
theorem spec_RootsOf.sound : Sound Tryd.prog 16 spec_RootsOf.s := by
  refine func_sound (f := spec_RootsOf.a) (G := spec_RootsOf.G) (fn := Tryd.f16) (body := bodyOf Tryd.prog 16) 1000 (by kernel_rfl) spec_RootsOf.E_ok Tryd.func16 (by kernel_rfl) (by kernel_rfl) (by kernel_rfl) (ptsOk_of (by kernel_rfl)) ?_ ?_ ?_ ?_
  · intro r H x h
    unfold spec_RootsOf.a at h
    simp only at h
    split at h
    · cases h; rfl
    · cases h
  · intro q avs H; rfl
  · intro k q pt avs H x _ h; cases h
  · intro k avs H o h
    try dsimp only at h
    split at h
    · cases h; exact spec_RootsOf.eq _ _ _ _ _ _
    · cases h

def impl_within.a : FnA (Bool) := ⟨15, [.tmp 6], .bool, [], [], fun x H => match x, H with
  | .bs false r, [] => some r
  | _, _ => none⟩
def impl_within.s : Spec := mkS [.val, .val, .val] (fun k avs H => match avs, H with
  | [.v (.int .i64 a0), .v (.int .i64 a1), .v (.int .i64 a2)], [] => some (impl_within.f a0 a1 a2)
  | _, _ => none) (fun r => (.bs false r, []))
def impl_within.E : Env := []
def impl_within.G (k p : Nat) (avs : List AV) (H : List HE) : Option (Bool) := none
set_option maxRecDepth 100000 in
theorem impl_within.eq (k : Nat) (a0 : Int) (a1 : Int) (a2 : Int) : fromTop Tryd.prog impl_within.E k impl_within.a (impl_within.G k) 1000 (bodyOf Tryd.prog 76) [.v (.int .i64 a0), .v (.int .i64 a1), .v (.int .i64 a2)] [] = impl_within.f a0 a1 a2 := by kernel_rfl
theorem impl_within.E_ok : EnvOk Tryd.prog impl_within.E := trivial
theorem impl_within.sound : Sound Tryd.prog 76 impl_within.s := by
  refine func_sound (f := impl_within.a) (G := impl_within.G) (fn := Tryd.f76) (body := bodyOf Tryd.prog 76) 1000 (by kernel_rfl) impl_within.E_ok Tryd.func76 (by kernel_rfl) (by kernel_rfl) (by kernel_rfl) (ptsOk_of (by kernel_rfl)) ?_ ?_ ?_ ?_
  · intro r H x h
    unfold impl_within.a at h
    simp only at h
    split at h
    · cases h; rfl
    · cases h
  · intro q avs H; rfl
  · intro k q pt avs H x _ h; cases h
  · intro k avs H o h
    try dsimp only at h
    split at h
    · cases h; exact impl_within.eq _ _ _ _
    · cases h

def impl_size_string.a : FnA (Int) := ⟨5, [.tmp 2], .val, [], [], fun x H => match x, H with
  | .v (.int .i64 r), [] => some r
  | _, _ => none⟩
def impl_size_string.s : Spec := mkS [.con .str] (fun k avs H => match avs, H with
  | [.con .str a0], [] => some (impl_size_string.f a0)
  | _, _ => none) (fun r => (.v (.int .i64 r), []))
def impl_size_string.E : Env := []
def impl_size_string.G (k p : Nat) (avs : List AV) (H : List HE) : Option (Int) := none
set_option maxRecDepth 100000 in
theorem impl_size_string.eq (k : Nat) (a0 : List ByteArray) : fromTop Tryd.prog impl_size_string.E k impl_size_string.a (impl_size_string.G k) 1000 (bodyOf Tryd.prog 77) [.con .str a0] [] = impl_size_string.f a0 := by kernel_rfl
theorem impl_size_string.E_ok : EnvOk Tryd.prog impl_size_string.E := trivial
theorem impl_size_string.sound : Sound Tryd.prog 77 impl_size_string.s := by
  refine func_sound (f := impl_size_string.a) (G := impl_size_string.G) (fn := Tryd.f77) (body := bodyOf Tryd.prog 77) 1000 (by kernel_rfl) impl_size_string.E_ok Tryd.func77 (by kernel_rfl) (by kernel_rfl) (by kernel_rfl) (ptsOk_of (by kernel_rfl)) ?_ ?_ ?_ ?_
  · intro r H x h
    unfold impl_size_string.a at h
    simp only at h
    split at h
    · cases h; rfl
    · cases h
  · intro q avs H; rfl
  · intro k q pt avs H x _ h; cases h
  · intro k avs H o h
    try dsimp only at h
    split at h
    · cases h; exact impl_size_string.eq _ _
    · cases h

def strings_Trim.s : Spec := mkS [.val, .val] (fun _ avs H => match avs, H with
  | [.v (.string a0), .v (.string a1)], [] => some (strings_Trim.f a0 a1)
  | _, _ => none) (fun r => (.v (.string r), []))
theorem strings_Trim.sound : Sound Tryd.prog 101 strings_Trim.s := by
  refine sound_plain (emb := fun r => .v (.string r)) ?_
  intro k avs H o x h hx
  split at h
  case h_2 => cases h
  rename_i a0 a1
  cases h
  refine ⟨rfl, fun M w ρ hp vals hr => ?_⟩
  obtain ⟨v0, q0, rfl, rfl, v1, q1, rfl, rfl, rfl⟩ := hr
  unfold strings_Trim.f at hx
  split at hx
  case isFalse => cases hx
  rename_i h0
  split at hx
  case isFalse => cases hx
  rename_i h1
  split at hx
  case isFalse => cases hx
  rename_i h2
  cases hx
  refine (Go.Proofs.Any.strings_Trim_laid Go.Proofs.Tryd.lays160 (by kernel_rfl) a0 a1 w h0 (by omega) (Go.Proofs.ascii_of_all h2)).mono ?_
  rintro e w' ⟨rfl, hb⟩
  exact ⟨_, rfl, hb, fun _ _ _ _ => rfl⟩

def impl_isType.a : FnA (Bool) := ⟨11, [.tmp 2], .bool, [], [], fun x H => match x, H with
  | .bs false r, [] => some r
  | _, _ => none⟩
def impl_isType.s : Spec := mkS [.val] (fun k avs H => match avs, H with
  | [.v (.string a0)], [] => some (impl_isType.f a0)
  | _, _ => none) (fun r => (.bs false r, []))
def impl_isType.E : Env := [((76, []), impl_within.s), ((101, []), strings_Trim.s)]
def impl_isType.G (k p : Nat) (avs : List AV) (H : List HE) : Option (Bool) := none
set_option maxRecDepth 100000 in
theorem impl_isType.eq (k : Nat) (a0 : ByteArray) : fromTop Tryd.prog impl_isType.E k impl_isType.a (impl_isType.G k) 1000 (bodyOf Tryd.prog 80) [.v (.string a0)] [] = impl_isType.f a0 := by kernel_rfl
theorem impl_isType.E_ok : EnvOk Tryd.prog impl_isType.E := ⟨⟨impl_within.sound, callable_of (by kernel_rfl)⟩, ⟨strings_Trim.sound, callable_of (by kernel_rfl)⟩, trivial⟩
theorem impl_isType.sound : Sound Tryd.prog 80 impl_isType.s := by
  refine func_sound (f := impl_isType.a) (G := impl_isType.G) (fn := Tryd.f80) (body := bodyOf Tryd.prog 80) 1000 (by kernel_rfl) impl_isType.E_ok Tryd.func80 (by kernel_rfl) (by kernel_rfl) (by kernel_rfl) (ptsOk_of (by kernel_rfl)) ?_ ?_ ?_ ?_
  · intro r H x h
    unfold impl_isType.a at h
    simp only at h
    split at h
    · cases h; rfl
    · cases h
  · intro q avs H; rfl
  · intro k q pt avs H x _ h; cases h
  · intro k avs H o h
    try dsimp only at h
    split at h
    · cases h; exact impl_isType.eq _ _
    · cases h

def impl_TypesOk_1.a : FnA (Bool) := ⟨6, [.tmp 2], .bool, [], [], fun x H => match x, H with
  | .bs false r, [] => some r
  | _, _ => none⟩
def impl_TypesOk_1.s : Spec := mkS [.val] (fun k avs H => match avs, H with
  | [.v (.string a0)], [] => some (impl_TypesOk_1.f a0)
  | _, _ => none) (fun r => (.bs false r, []))
def impl_TypesOk_1.E : Env := [((80, []), impl_isType.s)]
def impl_TypesOk_1.G (k p : Nat) (avs : List AV) (H : List HE) : Option (Bool) := none
set_option maxRecDepth 100000 in
theorem impl_TypesOk_1.eq (k : Nat) (a0 : ByteArray) : fromTop Tryd.prog impl_TypesOk_1.E k impl_TypesOk_1.a (impl_TypesOk_1.G k) 1000 (bodyOf Tryd.prog 79) [.v (.string a0)] [] = impl_TypesOk_1.f a0 := by kernel_rfl
theorem impl_TypesOk_1.E_ok : EnvOk Tryd.prog impl_TypesOk_1.E := ⟨⟨impl_isType.sound, callable_of (by kernel_rfl)⟩, trivial⟩
theorem impl_TypesOk_1.sound : Sound Tryd.prog 79 impl_TypesOk_1.s := by
  refine func_sound (f := impl_TypesOk_1.a) (G := impl_TypesOk_1.G) (fn := Tryd.f79) (body := bodyOf Tryd.prog 79) 1000 (by kernel_rfl) impl_TypesOk_1.E_ok Tryd.func79 (by kernel_rfl) (by kernel_rfl) (by kernel_rfl) (ptsOk_of (by kernel_rfl)) ?_ ?_ ?_ ?_
  · intro r H x h
    unfold impl_TypesOk_1.a at h
    simp only at h
    split at h
    · cases h; rfl
    · cases h
  · intro q avs H; rfl
  · intro k q pt avs H x _ h; cases h
  · intro k avs H o h
    try dsimp only at h
    split at h
    · cases h; exact impl_TypesOk_1.eq _ _
    · cases h

def slices_IndexFunc_string_at_impl_TypesOk_1.a : FnA (Int) := ⟨19, [.tmp 4], .val, [], [⟨6, [0, 1, 7, 8], [.con .str, .fn 79 0 [], .val, .val], []⟩], fun x H => match x, H with
  | .v (.int .i64 r), [] => some r
  | _, _ => none⟩
def slices_IndexFunc_string_at_impl_TypesOk_1.s : Spec := mkS [.con .str, .fn 79 0 []] (fun k avs H => match avs, H with
  | [.con .str a0, .fn 79 0 []], [] => some (slices_IndexFunc_string_at_impl_TypesOk_1.f k a0)
  | _, _ => none) (fun r => (.v (.int .i64 r), []))
def slices_IndexFunc_string_at_impl_TypesOk_1.E : Env := [((79, []), impl_TypesOk_1.s)]
def slices_IndexFunc_string_at_impl_TypesOk_1.G6 (k : Nat) (avs : List AV) (H : List HE) : Option (Int) := match avs, H with
  | [.con .str x0, .fn 79 0 [], .v (.int .i64 x7), .v (.int .i64 x8)], [] => slices_IndexFunc_string_at_impl_TypesOk_1.p6 k x0 x7 x8
  | _, _ => none
def slices_IndexFunc_string_at_impl_TypesOk_1.G (k p : Nat) (avs : List AV) (H : List HE) : Option (Int) := (pick1 6 (slices_IndexFunc_string_at_impl_TypesOk_1.G6 k avs H) none p)
set_option maxRecDepth 100000 in
theorem slices_IndexFunc_string_at_impl_TypesOk_1.eq (k : Nat) (a0 : List ByteArray) : fromTop Tryd.prog slices_IndexFunc_string_at_impl_TypesOk_1.E k slices_IndexFunc_string_at_impl_TypesOk_1.a (slices_IndexFunc_string_at_impl_TypesOk_1.G k) 1000 (bodyOf Tryd.prog 100) [.con .str a0, .fn 79 0 []] [] = slices_IndexFunc_string_at_impl_TypesOk_1.f k a0 := by kernel_rfl
set_option maxRecDepth 100000 in
theorem slices_IndexFunc_string_at_impl_TypesOk_1.eq6 (k : Nat) (x0 : List ByteArray) (x7 : Int) (x8 : Int) : fromPt Tryd.prog slices_IndexFunc_string_at_impl_TypesOk_1.E k slices_IndexFunc_string_at_impl_TypesOk_1.a (slices_IndexFunc_string_at_impl_TypesOk_1.G k) 1000 (bodyOf Tryd.prog 100) 6 [.con .str x0, .fn 79 0 [], .v (.int .i64 x7), .v (.int .i64 x8)] [] = slices_IndexFunc_string_at_impl_TypesOk_1.p6 (k + 1) x0 x7 x8 := by kernel_rfl
theorem slices_IndexFunc_string_at_impl_TypesOk_1.G6_0 {avs : List AV} {H : List HE} : slices_IndexFunc_string_at_impl_TypesOk_1.G6 0 avs H = none := by unfold slices_IndexFunc_string_at_impl_TypesOk_1.G6; split <;> rfl
theorem slices_IndexFunc_string_at_impl_TypesOk_1.G6_s (k : Nat) {avs : List AV} {H : List HE} {x : Int} (h : slices_IndexFunc_string_at_impl_TypesOk_1.G6 (k + 1) avs H = some x) : fromPt Tryd.prog slices_IndexFunc_string_at_impl_TypesOk_1.E k slices_IndexFunc_string_at_impl_TypesOk_1.a (slices_IndexFunc_string_at_impl_TypesOk_1.G k) 1000 (bodyOf Tryd.prog 100) 6 avs H = some x := by
  unfold slices_IndexFunc_string_at_impl_TypesOk_1.G6 at h
  split at h
  · rw [← h]; exact slices_IndexFunc_string_at_impl_TypesOk_1.eq6 _ _ _ _
  · cases h
theorem slices_IndexFunc_string_at_impl_TypesOk_1.E_ok : EnvOk Tryd.prog slices_IndexFunc_string_at_impl_TypesOk_1.E := ⟨⟨impl_TypesOk_1.sound, callable_of (by kernel_rfl)⟩, trivial⟩
theorem slices_IndexFunc_string_at_impl_TypesOk_1.sound : Sound Tryd.prog 100 slices_IndexFunc_string_at_impl_TypesOk_1.s := by
  refine func_sound (f := slices_IndexFunc_string_at_impl_TypesOk_1.a) (G := slices_IndexFunc_string_at_impl_TypesOk_1.G) (fn := Tryd.f100) (body := bodyOf Tryd.prog 100) 1000 (by kernel_rfl) slices_IndexFunc_string_at_impl_TypesOk_1.E_ok Tryd.func100 (by kernel_rfl) (by kernel_rfl) (by kernel_rfl) (ptsOk_of (by kernel_rfl)) ?_ ?_ ?_ ?_
  · intro r H x h
    unfold slices_IndexFunc_string_at_impl_TypesOk_1.a at h
    simp only at h
    split at h
    · cases h; rfl
    · cases h
  · exact fun q avs H => pick1_none slices_IndexFunc_string_at_impl_TypesOk_1.G6_0 (rfl)
  · intro k q pt avs H x _ h
    rcases pick1_some h with ⟨rfl, h⟩ | h
    · exact slices_IndexFunc_string_at_impl_TypesOk_1.G6_s _ h
    cases h
  · intro k avs H o h
    try dsimp only at h
    split at h
    · cases h; exact slices_IndexFunc_string_at_impl_TypesOk_1.eq _ _
    · cases h

def slices_ContainsFunc_string_at_impl_TypesOk_1.a : FnA (Bool) := ⟨9, [.tmp 4], .bool, [], [], fun x H => match x, H with
  | .bs false r, [] => some r
  | _, _ => none⟩
def slices_ContainsFunc_string_at_impl_TypesOk_1.s : Spec := mkS [.con .str, .fn 79 0 []] (fun k avs H => match avs, H with
  | [.con .str a0, .fn 79 0 []], [] => some (slices_ContainsFunc_string_at_impl_TypesOk_1.f k a0)
  | _, _ => none) (fun r => (.bs false r, []))
def slices_ContainsFunc_string_at_impl_TypesOk_1.E : Env := [((100, [79]), slices_IndexFunc_string_at_impl_TypesOk_1.s)]
def slices_ContainsFunc_string_at_impl_TypesOk_1.G (k p : Nat) (avs : List AV) (H : List HE) : Option (Bool) := none
set_option maxRecDepth 100000 in
theorem slices_ContainsFunc_string_at_impl_TypesOk_1.eq (k : Nat) (a0 : List ByteArray) : fromTop Tryd.prog slices_ContainsFunc_string_at_impl_TypesOk_1.E k slices_ContainsFunc_string_at_impl_TypesOk_1.a (slices_ContainsFunc_string_at_impl_TypesOk_1.G k) 1000 (bodyOf Tryd.prog 78) [.con .str a0, .fn 79 0 []] [] = slices_ContainsFunc_string_at_impl_TypesOk_1.f k a0 := by kernel_rfl
theorem slices_ContainsFunc_string_at_impl_TypesOk_1.E_ok : EnvOk Tryd.prog slices_ContainsFunc_string_at_impl_TypesOk_1.E := ⟨⟨slices_IndexFunc_string_at_impl_TypesOk_1.sound, callable_of (by kernel_rfl)⟩, trivial⟩
theorem slices_ContainsFunc_string_at_impl_TypesOk_1.sound : Sound Tryd.prog 78 slices_ContainsFunc_string_at_impl_TypesOk_1.s := by
  refine func_sound (f := slices_ContainsFunc_string_at_impl_TypesOk_1.a) (G := slices_ContainsFunc_string_at_impl_TypesOk_1.G) (fn := Tryd.f78) (body := bodyOf Tryd.prog 78) 1000 (by kernel_rfl) slices_ContainsFunc_string_at_impl_TypesOk_1.E_ok Tryd.func78 (by kernel_rfl) (by kernel_rfl) (by kernel_rfl) (ptsOk_of (by kernel_rfl)) ?_ ?_ ?_ ?_
  · intro r H x h
    unfold slices_ContainsFunc_string_at_impl_TypesOk_1.a at h
    simp only at h
    split at h
    · cases h; rfl
    · cases h
  · intro q avs H; rfl
  · intro k q pt avs H x _ h; cases h
  · intro k avs H o h
    try dsimp only at h
    split at h
    · cases h; exact slices_ContainsFunc_string_at_impl_TypesOk_1.eq _ _
    · cases h

def impl_TypesOk.a : FnA (Bool) := ⟨11, [.tmp 2], .bool, [], [], fun x H => match x, H with
  | .bs false r, [] => some r
  | _, _ => none⟩
def impl_TypesOk.s : Spec := mkS [.con .str] (fun k avs H => match avs, H with
  | [.con .str a0], [] => some (impl_TypesOk.f k a0)
  | _, _ => none) (fun r => (.bs false r, []))
def impl_TypesOk.E : Env := [((77, []), impl_size_string.s), ((76, []), impl_within.s), ((78, [79]), slices_ContainsFunc_string_at_impl_TypesOk_1.s)]
def impl_TypesOk.G (k p : Nat) (avs : List AV) (H : List HE) : Option (Bool) := none
set_option maxRecDepth 100000 in
theorem impl_TypesOk.eq (k : Nat) (a0 : List ByteArray) : fromTop Tryd.prog impl_TypesOk.E k impl_TypesOk.a (impl_TypesOk.G k) 1000 (bodyOf Tryd.prog 40) [.con .str a0] [] = impl_TypesOk.f k a0 := by kernel_rfl
theorem impl_TypesOk.E_ok : EnvOk Tryd.prog impl_TypesOk.E := ⟨⟨impl_size_string.sound, callable_of (by kernel_rfl)⟩, ⟨impl_within.sound, callable_of (by kernel_rfl)⟩, ⟨slices_ContainsFunc_string_at_impl_TypesOk_1.sound, callable_of (by kernel_rfl)⟩, trivial⟩
theorem impl_TypesOk.sound : Sound Tryd.prog 40 impl_TypesOk.s := by
  refine func_sound (f := impl_TypesOk.a) (G := impl_TypesOk.G) (fn := Tryd.f40) (body := bodyOf Tryd.prog 40) 1000 (by kernel_rfl) impl_TypesOk.E_ok Tryd.func40 (by kernel_rfl) (by kernel_rfl) (by kernel_rfl) (ptsOk_of (by kernel_rfl)) ?_ ?_ ?_ ?_
  · intro r H x h
    unfold impl_TypesOk.a at h
    simp only at h
    split at h
    · cases h; rfl
    · cases h
  · intro q avs H; rfl
  · intro k q pt avs H x _ h; cases h
  · intro k avs H o h
    try dsimp only at h
    split at h
    · cases h; exact impl_TypesOk.eq _ _
    · cases h

def impl_ConfigOk.a : FnA (Bool) := ⟨25, [.tmp 2], .bool, [], [], fun x H => match x, H with
  | .bs false r, [] => some r
  | _, _ => none⟩
def impl_ConfigOk.s : Spec := mkS [.agg [.val, .val, .val, .con .str]] (fun k avs H => match avs, H with
  | [.agg [.v (.int .i64 a0_0), .v (.int .i64 a0_1), .v (.int .i64 a0_2), .con .str a0_3]], [] => some (impl_ConfigOk.f k a0_0 a0_1 a0_2 a0_3)
  | _, _ => none) (fun r => (.bs false r, []))
def impl_ConfigOk.E : Env := [((76, []), impl_within.s), ((40, []), impl_TypesOk.s)]
def impl_ConfigOk.G (k p : Nat) (avs : List AV) (H : List HE) : Option (Bool) := none
set_option maxRecDepth 100000 in
theorem impl_ConfigOk.eq (k : Nat) (a0_0 : Int) (a0_1 : Int) (a0_2 : Int) (a0_3 : List ByteArray) : fromTop Tryd.prog impl_ConfigOk.E k impl_ConfigOk.a (impl_ConfigOk.G k) 1000 (bodyOf Tryd.prog 88) [.agg [.v (.int .i64 a0_0), .v (.int .i64 a0_1), .v (.int .i64 a0_2), .con .str a0_3]] [] = impl_ConfigOk.f k a0_0 a0_1 a0_2 a0_3 := by kernel_rfl
theorem impl_ConfigOk.E_ok : EnvOk Tryd.prog impl_ConfigOk.E := ⟨⟨impl_within.sound, callable_of (by kernel_rfl)⟩, ⟨impl_TypesOk.sound, callable_of (by kernel_rfl)⟩, trivial⟩
theorem impl_ConfigOk.sound : Sound Tryd.prog 88 impl_ConfigOk.s := by
  refine func_sound (f := impl_ConfigOk.a) (G := impl_ConfigOk.G) (fn := Tryd.f88) (body := bodyOf Tryd.prog 88) 1000 (by kernel_rfl) impl_ConfigOk.E_ok Tryd.func88 (by kernel_rfl) (by kernel_rfl) (by kernel_rfl) (ptsOk_of (by kernel_rfl)) ?_ ?_ ?_ ?_
  · intro r H x h
    unfold impl_ConfigOk.a at h
    simp only at h
    split at h
    · cases h; rfl
    · cases h
  · intro q avs H; rfl
  · intro k q pt avs H x _ h; cases h
  · intro k avs H o h
    try dsimp only at h
    split at h
    · cases h; exact impl_ConfigOk.eq _ _ _ _ _
    · cases h

def impl_isImage.a : FnA (Bool) := ⟨15, [.tmp 4], .bool, [], [], fun x H => match x, H with
  | .bs false r, [] => some r
  | _, _ => none⟩
def impl_isImage.s : Spec := mkS [.agg [.val, .val, .val, .con .str], .val] (fun k avs H => match avs, H with
  | [.agg [.v (.int .i64 a0_0), .v (.int .i64 a0_1), .v (.int .i64 a0_2), .con .str a0_3], .v (.string a1)], [] => some (impl_isImage.f k a0_0 a0_1 a0_2 a0_3 a1)
  | _, _ => none) (fun r => (.bs false r, []))
def impl_isImage.E : Env := [((88, []), impl_ConfigOk.s)]
def impl_isImage.G (k p : Nat) (avs : List AV) (H : List HE) : Option (Bool) := none
set_option maxRecDepth 100000 in
theorem impl_isImage.eq (k : Nat) (a0_0 : Int) (a0_1 : Int) (a0_2 : Int) (a0_3 : List ByteArray) (a1 : ByteArray) : fromTop Tryd.prog impl_isImage.E k impl_isImage.a (impl_isImage.G k) 1000 (bodyOf Tryd.prog 51) [.agg [.v (.int .i64 a0_0), .v (.int .i64 a0_1), .v (.int .i64 a0_2), .con .str a0_3], .v (.string a1)] [] = impl_isImage.f k a0_0 a0_1 a0_2 a0_3 a1 := by kernel_rfl
theorem impl_isImage.E_ok : EnvOk Tryd.prog impl_isImage.E := ⟨⟨impl_ConfigOk.sound, callable_of (by kernel_rfl)⟩, trivial⟩
theorem impl_isImage.sound : Sound Tryd.prog 51 impl_isImage.s := by
  refine func_sound (f := impl_isImage.a) (G := impl_isImage.G) (fn := Tryd.f51) (body := bodyOf Tryd.prog 51) 1000 (by kernel_rfl) impl_isImage.E_ok Tryd.func51 (by kernel_rfl) (by kernel_rfl) (by kernel_rfl) (ptsOk_of (by kernel_rfl)) ?_ ?_ ?_ ?_
  · intro r H x h
    unfold impl_isImage.a at h
    simp only at h
    split at h
    · cases h; rfl
    · cases h
  · intro q avs H; rfl
  · intro k q pt avs H x _ h; cases h
  · intro k avs H o h
    try dsimp only at h
    split at h
    · cases h; exact impl_isImage.eq _ _ _ _ _ _
    · cases h

def impl_wordAt.a : FnA (Int) := ⟨21, [.tmp 4], .val, [], [⟨8, [0, 1, 5, 7], [.val, .val, .val, .val], []⟩], fun x H => match x, H with
  | .v (.int .i64 r), [] => some r
  | _, _ => none⟩
def impl_wordAt.s : Spec := mkS [.val, .val] (fun k avs H => match avs, H with
  | [.v (.string a0), .v (.int .i64 a1)], [] => some (impl_wordAt.f k a0 a1)
  | _, _ => none) (fun r => (.v (.int .i64 r), []))
def impl_wordAt.E : Env := []
def impl_wordAt.G8 (k : Nat) (avs : List AV) (H : List HE) : Option (Int) := match avs, H with
  | [.v (.string x0), .v (.int .i64 x1), .v (.int .i64 x5), .v (.int .i64 x7)], [] => impl_wordAt.p8 k x0 x1 x5 x7
  | _, _ => none
def impl_wordAt.G (k p : Nat) (avs : List AV) (H : List HE) : Option (Int) := (pick1 8 (impl_wordAt.G8 k avs H) none p)
set_option maxRecDepth 100000 in
theorem impl_wordAt.eq (k : Nat) (a0 : ByteArray) (a1 : Int) : fromTop Tryd.prog impl_wordAt.E k impl_wordAt.a (impl_wordAt.G k) 1000 (bodyOf Tryd.prog 89) [.v (.string a0), .v (.int .i64 a1)] [] = impl_wordAt.f k a0 a1 := by kernel_rfl
set_option maxRecDepth 100000 in
theorem impl_wordAt.eq8 (k : Nat) (x0 : ByteArray) (x1 : Int) (x5 : Int) (x7 : Int) : fromPt Tryd.prog impl_wordAt.E k impl_wordAt.a (impl_wordAt.G k) 1000 (bodyOf Tryd.prog 89) 8 [.v (.string x0), .v (.int .i64 x1), .v (.int .i64 x5), .v (.int .i64 x7)] [] = impl_wordAt.p8 (k + 1) x0 x1 x5 x7 := by kernel_rfl
theorem impl_wordAt.G8_0 {avs : List AV} {H : List HE} : impl_wordAt.G8 0 avs H = none := by unfold impl_wordAt.G8; split <;> rfl
theorem impl_wordAt.G8_s (k : Nat) {avs : List AV} {H : List HE} {x : Int} (h : impl_wordAt.G8 (k + 1) avs H = some x) : fromPt Tryd.prog impl_wordAt.E k impl_wordAt.a (impl_wordAt.G k) 1000 (bodyOf Tryd.prog 89) 8 avs H = some x := by
  unfold impl_wordAt.G8 at h
  split at h
  · rw [← h]; exact impl_wordAt.eq8 _ _ _ _ _
  · cases h
theorem impl_wordAt.E_ok : EnvOk Tryd.prog impl_wordAt.E := trivial
theorem impl_wordAt.sound : Sound Tryd.prog 89 impl_wordAt.s := by
  refine func_sound (f := impl_wordAt.a) (G := impl_wordAt.G) (fn := Tryd.f89) (body := bodyOf Tryd.prog 89) 1000 (by kernel_rfl) impl_wordAt.E_ok Tryd.func89 (by kernel_rfl) (by kernel_rfl) (by kernel_rfl) (ptsOk_of (by kernel_rfl)) ?_ ?_ ?_ ?_
  · intro r H x h
    unfold impl_wordAt.a at h
    simp only at h
    split at h
    · cases h; rfl
    · cases h
  · exact fun q avs H => pick1_none impl_wordAt.G8_0 (rfl)
  · intro k q pt avs H x _ h
    rcases pick1_some h with ⟨rfl, h⟩ | h
    · exact impl_wordAt.G8_s _ h
    cases h
  · intro k avs H o h
    try dsimp only at h
    split at h
    · cases h; exact impl_wordAt.eq _ _ _
    · cases h

def impl_wordsOf.a : FnA (List Int) := ⟨23, [.tmp 4], .row 2 (.int .i64), [], [⟨8, [0, 1, 5, 8], [.val, .val, .row 2 (.int .i64), .val], []⟩], fun x H => match x, H with
  | .own 0, [.row 2 (.int .i64) r] => some r
  | _, _ => none⟩
def impl_wordsOf.s : Spec := mkS [.val, .val] (fun k avs H => match avs, H with
  | [.v (.string a0), .v (.int .i64 a1)], [] => some (impl_wordsOf.f k a0 a1)
  | _, _ => none) (fun r => (.own 0, [.row 2 (.int .i64) r]))
def impl_wordsOf.E : Env := [((89, []), impl_wordAt.s)]
def impl_wordsOf.G8 (k : Nat) (avs : List AV) (H : List HE) : Option (List Int) := match avs, H with
  | [.v (.string x0), .v (.int .i64 x1), .own 0, .v (.int .i64 x8)], [.row 2 (.int .i64) x5] => impl_wordsOf.p8 k x0 x1 x5 x8
  | _, _ => none
def impl_wordsOf.G (k p : Nat) (avs : List AV) (H : List HE) : Option (List Int) := (pick1 8 (impl_wordsOf.G8 k avs H) none p)
set_option maxRecDepth 100000 in
theorem impl_wordsOf.eq (k : Nat) (a0 : ByteArray) (a1 : Int) : fromTop Tryd.prog impl_wordsOf.E k impl_wordsOf.a (impl_wordsOf.G k) 1000 (bodyOf Tryd.prog 52) [.v (.string a0), .v (.int .i64 a1)] [] = impl_wordsOf.f k a0 a1 := by kernel_rfl
set_option maxRecDepth 100000 in
theorem impl_wordsOf.eq8 (k : Nat) (x0 : ByteArray) (x1 : Int) (x5 : List Int) (x8 : Int) : fromPt Tryd.prog impl_wordsOf.E k impl_wordsOf.a (impl_wordsOf.G k) 1000 (bodyOf Tryd.prog 52) 8 [.v (.string x0), .v (.int .i64 x1), .own 0, .v (.int .i64 x8)] [.row 2 (.int .i64) x5] = impl_wordsOf.p8 (k + 1) x0 x1 x5 x8 := by kernel_rfl
theorem impl_wordsOf.G8_0 {avs : List AV} {H : List HE} : impl_wordsOf.G8 0 avs H = none := by unfold impl_wordsOf.G8; split <;> rfl
theorem impl_wordsOf.G8_s (k : Nat) {avs : List AV} {H : List HE} {x : List Int} (h : impl_wordsOf.G8 (k + 1) avs H = some x) : fromPt Tryd.prog impl_wordsOf.E k impl_wordsOf.a (impl_wordsOf.G k) 1000 (bodyOf Tryd.prog 52) 8 avs H = some x := by
  unfold impl_wordsOf.G8 at h
  split at h
  · rw [← h]; exact impl_wordsOf.eq8 _ _ _ _ _
  · cases h
theorem impl_wordsOf.E_ok : EnvOk Tryd.prog impl_wordsOf.E := ⟨⟨impl_wordAt.sound, callable_of (by kernel_rfl)⟩, trivial⟩
theorem impl_wordsOf.sound : Sound Tryd.prog 52 impl_wordsOf.s := by
  refine func_sound (f := impl_wordsOf.a) (G := impl_wordsOf.G) (fn := Tryd.f52) (body := bodyOf Tryd.prog 52) 1000 (by kernel_rfl) impl_wordsOf.E_ok Tryd.func52 (by kernel_rfl) (by kernel_rfl) (by kernel_rfl) (ptsOk_of (by kernel_rfl)) ?_ ?_ ?_ ?_
  · intro r H x h
    unfold impl_wordsOf.a at h
    simp only at h
    split at h
    · cases h; rfl
    · cases h
  · exact fun q avs H => pick1_none impl_wordsOf.G8_0 (rfl)
  · intro k q pt avs H x _ h
    rcases pick1_some h with ⟨rfl, h⟩ | h
    · exact impl_wordsOf.G8_s _ h
    cases h
  · intro k avs H o h
    try dsimp only at h
    split at h
    · cases h; exact impl_wordsOf.eq _ _ _
    · cases h

def impl_RefKind.a : FnA (Int) := ⟨22, [.tmp 2], .val, [], [], fun x H => match x, H with
  | .v (.int .i64 r), [] => some r
  | _, _ => none⟩
def impl_RefKind.s : Spec := mkS [.val] (fun k avs H => match avs, H with
  | [.v (.int .i64 a0)], [] => some (impl_RefKind.f a0)
  | _, _ => none) (fun r => (.v (.int .i64 r), []))
def impl_RefKind.E : Env := [((76, []), impl_within.s)]
def impl_RefKind.G (k p : Nat) (avs : List AV) (H : List HE) : Option (Int) := none
set_option maxRecDepth 100000 in
theorem impl_RefKind.eq (k : Nat) (a0 : Int) : fromTop Tryd.prog impl_RefKind.E k impl_RefKind.a (impl_RefKind.G k) 1000 (bodyOf Tryd.prog 66) [.v (.int .i64 a0)] [] = impl_RefKind.f a0 := by kernel_rfl
theorem impl_RefKind.E_ok : EnvOk Tryd.prog impl_RefKind.E := ⟨⟨impl_within.sound, callable_of (by kernel_rfl)⟩, trivial⟩
theorem impl_RefKind.sound : Sound Tryd.prog 66 impl_RefKind.s := by
  refine func_sound (f := impl_RefKind.a) (G := impl_RefKind.G) (fn := Tryd.f66) (body := bodyOf Tryd.prog 66) 1000 (by kernel_rfl) impl_RefKind.E_ok Tryd.func66 (by kernel_rfl) (by kernel_rfl) (by kernel_rfl) (ptsOk_of (by kernel_rfl)) ?_ ?_ ?_ ?_
  · intro r H x h
    unfold impl_RefKind.a at h
    simp only at h
    split at h
    · cases h; rfl
    · cases h
  · intro q avs H; rfl
  · intro k q pt avs H x _ h; cases h
  · intro k avs H o h
    try dsimp only at h
    split at h
    · cases h; exact impl_RefKind.eq _ _
    · cases h

def impl_isOld.a : FnA (Bool) := ⟨6, [.tmp 2], .bool, [], [], fun x H => match x, H with
  | .bs false r, [] => some r
  | _, _ => none⟩
def impl_isOld.s : Spec := mkS [.val] (fun k avs H => match avs, H with
  | [.v (.int .i64 a0)], [] => some (impl_isOld.f a0)
  | _, _ => none) (fun r => (.bs false r, []))
def impl_isOld.E : Env := [((66, []), impl_RefKind.s)]
def impl_isOld.G (k p : Nat) (avs : List AV) (H : List HE) : Option (Bool) := none
set_option maxRecDepth 100000 in
theorem impl_isOld.eq (k : Nat) (a0 : Int) : fromTop Tryd.prog impl_isOld.E k impl_isOld.a (impl_isOld.G k) 1000 (bodyOf Tryd.prog 90) [.v (.int .i64 a0)] [] = impl_isOld.f a0 := by kernel_rfl
theorem impl_isOld.E_ok : EnvOk Tryd.prog impl_isOld.E := ⟨⟨impl_RefKind.sound, callable_of (by kernel_rfl)⟩, trivial⟩
theorem impl_isOld.sound : Sound Tryd.prog 90 impl_isOld.s := by
  refine func_sound (f := impl_isOld.a) (G := impl_isOld.G) (fn := Tryd.f90) (body := bodyOf Tryd.prog 90) 1000 (by kernel_rfl) impl_isOld.E_ok Tryd.func90 (by kernel_rfl) (by kernel_rfl) (by kernel_rfl) (ptsOk_of (by kernel_rfl)) ?_ ?_ ?_ ?_
  · intro r H x h
    unfold impl_isOld.a at h
    simp only at h
    split at h
    · cases h; rfl
    · cases h
  · intro q avs H; rfl
  · intro k q pt avs H x _ h; cases h
  · intro k avs H o h
    try dsimp only at h
    split at h
    · cases h; exact impl_isOld.eq _ _
    · cases h

def impl_isData.a : FnA (Bool) := ⟨13, [.tmp 4], .bool, [], [], fun x H => match x, H with
  | .bs false r, [] => some r
  | _, _ => none⟩
def impl_isData.s : Spec := mkS [.agg [.val, .val, .val, .con .str], .val] (fun k avs H => match avs, H with
  | [.agg [.v (.int .i64 a0_0), .v (.int .i64 a0_1), .v (.int .i64 a0_2), .con .str a0_3], .v (.int .i64 a1)], [] => some (impl_isData.f a0_0 a0_1 a0_2 a0_3 a1)
  | _, _ => none) (fun r => (.bs false r, []))
def impl_isData.E : Env := [((76, []), impl_within.s)]
def impl_isData.G (k p : Nat) (avs : List AV) (H : List HE) : Option (Bool) := none
set_option maxRecDepth 100000 in
theorem impl_isData.eq (k : Nat) (a0_0 : Int) (a0_1 : Int) (a0_2 : Int) (a0_3 : List ByteArray) (a1 : Int) : fromTop Tryd.prog impl_isData.E k impl_isData.a (impl_isData.G k) 1000 (bodyOf Tryd.prog 91) [.agg [.v (.int .i64 a0_0), .v (.int .i64 a0_1), .v (.int .i64 a0_2), .con .str a0_3], .v (.int .i64 a1)] [] = impl_isData.f a0_0 a0_1 a0_2 a0_3 a1 := by kernel_rfl
theorem impl_isData.E_ok : EnvOk Tryd.prog impl_isData.E := ⟨⟨impl_within.sound, callable_of (by kernel_rfl)⟩, trivial⟩
theorem impl_isData.sound : Sound Tryd.prog 91 impl_isData.s := by
  refine func_sound (f := impl_isData.a) (G := impl_isData.G) (fn := Tryd.f91) (body := bodyOf Tryd.prog 91) 1000 (by kernel_rfl) impl_isData.E_ok Tryd.func91 (by kernel_rfl) (by kernel_rfl) (by kernel_rfl) (ptsOk_of (by kernel_rfl)) ?_ ?_ ?_ ?_
  · intro r H x h
    unfold impl_isData.a at h
    simp only at h
    split at h
    · cases h; rfl
    · cases h
  · intro q avs H; rfl
  · intro k q pt avs H x _ h; cases h
  · intro k avs H o h
    try dsimp only at h
    split at h
    · cases h; exact impl_isData.eq _ _ _ _ _ _
    · cases h

def impl_isDataRef.a : FnA (Bool) := ⟨17, [.tmp 4], .bool, [], [], fun x H => match x, H with
  | .bs false r, [] => some r
  | _, _ => none⟩
def impl_isDataRef.s : Spec := mkS [.agg [.val, .val, .val, .con .str], .val] (fun k avs H => match avs, H with
  | [.agg [.v (.int .i64 a0_0), .v (.int .i64 a0_1), .v (.int .i64 a0_2), .con .str a0_3], .v (.int .i64 a1)], [] => some (impl_isDataRef.f a0_0 a0_1 a0_2 a0_3 a1)
  | _, _ => none) (fun r => (.bs false r, []))
def impl_isDataRef.E : Env := [((90, []), impl_isOld.s), ((91, []), impl_isData.s)]
def impl_isDataRef.G (k p : Nat) (avs : List AV) (H : List HE) : Option (Bool) := none
set_option maxRecDepth 100000 in
theorem impl_isDataRef.eq (k : Nat) (a0_0 : Int) (a0_1 : Int) (a0_2 : Int) (a0_3 : List ByteArray) (a1 : Int) : fromTop Tryd.prog impl_isDataRef.E k impl_isDataRef.a (impl_isDataRef.G k) 1000 (bodyOf Tryd.prog 54) [.agg [.v (.int .i64 a0_0), .v (.int .i64 a0_1), .v (.int .i64 a0_2), .con .str a0_3], .v (.int .i64 a1)] [] = impl_isDataRef.f a0_0 a0_1 a0_2 a0_3 a1 := by kernel_rfl
theorem impl_isDataRef.E_ok : EnvOk Tryd.prog impl_isDataRef.E := ⟨⟨impl_isOld.sound, callable_of (by kernel_rfl)⟩, ⟨impl_isData.sound, callable_of (by kernel_rfl)⟩, trivial⟩
theorem impl_isDataRef.sound : Sound Tryd.prog 54 impl_isDataRef.s := by
  refine func_sound (f := impl_isDataRef.a) (G := impl_isDataRef.G) (fn := Tryd.f54) (body := bodyOf Tryd.prog 54) 1000 (by kernel_rfl) impl_isDataRef.E_ok Tryd.func54 (by kernel_rfl) (by kernel_rfl) (by kernel_rfl) (ptsOk_of (by kernel_rfl)) ?_ ?_ ?_ ?_
  · intro r H x h
    unfold impl_isDataRef.a at h
    simp only at h
    split at h
    · cases h; rfl
    · cases h
  · intro q avs H; rfl
  · intro k q pt avs H x _ h; cases h
  · intro k avs H o h
    try dsimp only at h
    split at h
    · cases h; exact impl_isDataRef.eq _ _ _ _ _ _
    · cases h

def impl_RootsOf_1.a : FnA (Bool) := ⟨8, [.tmp 3], .bool, [], [], fun x H => match x, H with
  | .bs false r, [] => some r
  | _, _ => none⟩
def impl_RootsOf_1.s : Spec := mkS [.val, .elt (.pair (.int .i64) (.pair (.int .i64) (.pair (.int .i64) (.sl .str))))] (fun k avs H => match avs, H with
  | [.v (.int .i64 a0), .elt (.pair (.int .i64) (.pair (.int .i64) (.pair (.int .i64) (.sl .str)))) a1 0], [] => some (impl_RootsOf_1.f a0 a1)
  | _, _ => none) (fun r => (.bs false r, []))
def impl_RootsOf_1.E : Env := [((54, []), impl_isDataRef.s)]
def impl_RootsOf_1.G (k p : Nat) (avs : List AV) (H : List HE) : Option (Bool) := none
set_option maxRecDepth 100000 in
theorem impl_RootsOf_1.eq (k : Nat) (a0 : Int) (a1 : Int × Int × Int × List ByteArray) : fromTop Tryd.prog impl_RootsOf_1.E k impl_RootsOf_1.a (impl_RootsOf_1.G k) 1000 (bodyOf Tryd.prog 53) [.v (.int .i64 a0), .elt (.pair (.int .i64) (.pair (.int .i64) (.pair (.int .i64) (.sl .str)))) a1 0] [] = impl_RootsOf_1.f a0 a1 := by kernel_rfl
theorem impl_RootsOf_1.E_ok : EnvOk Tryd.prog impl_RootsOf_1.E := ⟨⟨impl_isDataRef.sound, callable_of (by kernel_rfl)⟩, trivial⟩
theorem impl_RootsOf_1.sound : Sound Tryd.prog 53 impl_RootsOf_1.s := by
  refine func_sound (f := impl_RootsOf_1.a) (G := impl_RootsOf_1.G) (fn := Tryd.f53) (body := bodyOf Tryd.prog 53) 1000 (by kernel_rfl) impl_RootsOf_1.E_ok Tryd.func53 (by kernel_rfl) (by kernel_rfl) (by kernel_rfl) (ptsOk_of (by kernel_rfl)) ?_ ?_ ?_ ?_
  · intro r H x h
    unfold impl_RootsOf_1.a at h
    simp only at h
    split at h
    · cases h; rfl
    · cases h
  · intro q avs H; rfl
  · intro k q pt avs H x _ h; cases h
  · intro k avs H o h
    try dsimp only at h
    split at h
    · cases h; exact impl_RootsOf_1.eq _ _ _
    · cases h

def slices_IndexFunc_int64_at_impl_RootsOf_1.a : FnA (Int) := ⟨19, [.tmp 4], .val, [], [⟨6, [0, 1, 7, 8], [.con (.int .i64), .fn 53 0 [.elt (.pair (.int .i64) (.pair (.int .i64) (.pair (.int .i64) (.sl .str))))], .val, .val], []⟩], fun x H => match x, H with
  | .v (.int .i64 r), [] => some r
  | _, _ => none⟩
def slices_IndexFunc_int64_at_impl_RootsOf_1.s : Spec := mkS [.con (.int .i64), .fn 53 0 [.elt (.pair (.int .i64) (.pair (.int .i64) (.pair (.int .i64) (.sl .str))))]] (fun k avs H => match avs, H with
  | [.con (.int .i64) a0, .fn 53 0 [.elt (.pair (.int .i64) (.pair (.int .i64) (.pair (.int .i64) (.sl .str)))) a1_0 0]], [] => some (slices_IndexFunc_int64_at_impl_RootsOf_1.f k a0 a1_0)
  | _, _ => none) (fun r => (.v (.int .i64 r), []))
def slices_IndexFunc_int64_at_impl_RootsOf_1.E : Env := [((53, []), impl_RootsOf_1.s)]
def slices_IndexFunc_int64_at_impl_RootsOf_1.G6 (k : Nat) (avs : List AV) (H : List HE) : Option (Int) := match avs, H with
  | [.con (.int .i64) x0, .fn 53 0 [.elt (.pair (.int .i64) (.pair (.int .i64) (.pair (.int .i64) (.sl .str)))) x1_0 0], .v (.int .i64 x7), .v (.int .i64 x8)], [] => slices_IndexFunc_int64_at_impl_RootsOf_1.p6 k x0 x1_0 x7 x8
  | _, _ => none
def slices_IndexFunc_int64_at_impl_RootsOf_1.G (k p : Nat) (avs : List AV) (H : List HE) : Option (Int) := (pick1 6 (slices_IndexFunc_int64_at_impl_RootsOf_1.G6 k avs H) none p)
set_option maxRecDepth 100000 in
theorem slices_IndexFunc_int64_at_impl_RootsOf_1.eq (k : Nat) (a0 : List Int) (a1_0 : Int × Int × Int × List ByteArray) : fromTop Tryd.prog slices_IndexFunc_int64_at_impl_RootsOf_1.E k slices_IndexFunc_int64_at_impl_RootsOf_1.a (slices_IndexFunc_int64_at_impl_RootsOf_1.G k) 1000 (bodyOf Tryd.prog 82) [.con (.int .i64) a0, .fn 53 0 [.elt (.pair (.int .i64) (.pair (.int .i64) (.pair (.int .i64) (.sl .str)))) a1_0 0]] [] = slices_IndexFunc_int64_at_impl_RootsOf_1.f k a0 a1_0 := by kernel_rfl
set_option maxRecDepth 100000 in
theorem slices_IndexFunc_int64_at_impl_RootsOf_1.eq6 (k : Nat) (x0 : List Int) (x1_0 : Int × Int × Int × List ByteArray) (x7 : Int) (x8 : Int) : fromPt Tryd.prog slices_IndexFunc_int64_at_impl_RootsOf_1.E k slices_IndexFunc_int64_at_impl_RootsOf_1.a (slices_IndexFunc_int64_at_impl_RootsOf_1.G k) 1000 (bodyOf Tryd.prog 82) 6 [.con (.int .i64) x0, .fn 53 0 [.elt (.pair (.int .i64) (.pair (.int .i64) (.pair (.int .i64) (.sl .str)))) x1_0 0], .v (.int .i64 x7), .v (.int .i64 x8)] [] = slices_IndexFunc_int64_at_impl_RootsOf_1.p6 (k + 1) x0 x1_0 x7 x8 := by kernel_rfl
theorem slices_IndexFunc_int64_at_impl_RootsOf_1.G6_0 {avs : List AV} {H : List HE} : slices_IndexFunc_int64_at_impl_RootsOf_1.G6 0 avs H = none := by unfold slices_IndexFunc_int64_at_impl_RootsOf_1.G6; split <;> rfl
theorem slices_IndexFunc_int64_at_impl_RootsOf_1.G6_s (k : Nat) {avs : List AV} {H : List HE} {x : Int} (h : slices_IndexFunc_int64_at_impl_RootsOf_1.G6 (k + 1) avs H = some x) : fromPt Tryd.prog slices_IndexFunc_int64_at_impl_RootsOf_1.E k slices_IndexFunc_int64_at_impl_RootsOf_1.a (slices_IndexFunc_int64_at_impl_RootsOf_1.G k) 1000 (bodyOf Tryd.prog 82) 6 avs H = some x := by
  unfold slices_IndexFunc_int64_at_impl_RootsOf_1.G6 at h
  split at h
  · rw [← h]; exact slices_IndexFunc_int64_at_impl_RootsOf_1.eq6 _ _ _ _ _
  · cases h
theorem slices_IndexFunc_int64_at_impl_RootsOf_1.E_ok : EnvOk Tryd.prog slices_IndexFunc_int64_at_impl_RootsOf_1.E := ⟨⟨impl_RootsOf_1.sound, callable_of (by kernel_rfl)⟩, trivial⟩
theorem slices_IndexFunc_int64_at_impl_RootsOf_1.sound : Sound Tryd.prog 82 slices_IndexFunc_int64_at_impl_RootsOf_1.s := by
  refine func_sound (f := slices_IndexFunc_int64_at_impl_RootsOf_1.a) (G := slices_IndexFunc_int64_at_impl_RootsOf_1.G) (fn := Tryd.f82) (body := bodyOf Tryd.prog 82) 1000 (by kernel_rfl) slices_IndexFunc_int64_at_impl_RootsOf_1.E_ok Tryd.func82 (by kernel_rfl) (by kernel_rfl) (by kernel_rfl) (ptsOk_of (by kernel_rfl)) ?_ ?_ ?_ ?_
  · intro r H x h
    unfold slices_IndexFunc_int64_at_impl_RootsOf_1.a at h
    simp only at h
    split at h
    · cases h; rfl
    · cases h
  · exact fun q avs H => pick1_none slices_IndexFunc_int64_at_impl_RootsOf_1.G6_0 (rfl)
  · intro k q pt avs H x _ h
    rcases pick1_some h with ⟨rfl, h⟩ | h
    · exact slices_IndexFunc_int64_at_impl_RootsOf_1.G6_s _ h
    cases h
  · intro k avs H o h
    try dsimp only at h
    split at h
    · cases h; exact slices_IndexFunc_int64_at_impl_RootsOf_1.eq _ _ _
    · cases h

def slices_ContainsFunc_int64_at_impl_RootsOf_1.a : FnA (Bool) := ⟨9, [.tmp 4], .bool, [], [], fun x H => match x, H with
  | .bs false r, [] => some r
  | _, _ => none⟩
def slices_ContainsFunc_int64_at_impl_RootsOf_1.s : Spec := mkS [.con (.int .i64), .fn 53 0 [.elt (.pair (.int .i64) (.pair (.int .i64) (.pair (.int .i64) (.sl .str))))]] (fun k avs H => match avs, H with
  | [.con (.int .i64) a0, .fn 53 0 [.elt (.pair (.int .i64) (.pair (.int .i64) (.pair (.int .i64) (.sl .str)))) a1_0 0]], [] => some (slices_ContainsFunc_int64_at_impl_RootsOf_1.f k a0 a1_0)
  | _, _ => none) (fun r => (.bs false r, []))
def slices_ContainsFunc_int64_at_impl_RootsOf_1.E : Env := [((82, [53]), slices_IndexFunc_int64_at_impl_RootsOf_1.s)]
def slices_ContainsFunc_int64_at_impl_RootsOf_1.G (k p : Nat) (avs : List AV) (H : List HE) : Option (Bool) := none
set_option maxRecDepth 100000 in
theorem slices_ContainsFunc_int64_at_impl_RootsOf_1.eq (k : Nat) (a0 : List Int) (a1_0 : Int × Int × Int × List ByteArray) : fromTop Tryd.prog slices_ContainsFunc_int64_at_impl_RootsOf_1.E k slices_ContainsFunc_int64_at_impl_RootsOf_1.a (slices_ContainsFunc_int64_at_impl_RootsOf_1.G k) 1000 (bodyOf Tryd.prog 43) [.con (.int .i64) a0, .fn 53 0 [.elt (.pair (.int .i64) (.pair (.int .i64) (.pair (.int .i64) (.sl .str)))) a1_0 0]] [] = slices_ContainsFunc_int64_at_impl_RootsOf_1.f k a0 a1_0 := by kernel_rfl
theorem slices_ContainsFunc_int64_at_impl_RootsOf_1.E_ok : EnvOk Tryd.prog slices_ContainsFunc_int64_at_impl_RootsOf_1.E := ⟨⟨slices_IndexFunc_int64_at_impl_RootsOf_1.sound, callable_of (by kernel_rfl)⟩, trivial⟩
theorem slices_ContainsFunc_int64_at_impl_RootsOf_1.sound : Sound Tryd.prog 43 slices_ContainsFunc_int64_at_impl_RootsOf_1.s := by
  refine func_sound (f := slices_ContainsFunc_int64_at_impl_RootsOf_1.a) (G := slices_ContainsFunc_int64_at_impl_RootsOf_1.G) (fn := Tryd.f43) (body := bodyOf Tryd.prog 43) 1000 (by kernel_rfl) slices_ContainsFunc_int64_at_impl_RootsOf_1.E_ok Tryd.func43 (by kernel_rfl) (by kernel_rfl) (by kernel_rfl) (ptsOk_of (by kernel_rfl)) ?_ ?_ ?_ ?_
  · intro r H x h
    unfold slices_ContainsFunc_int64_at_impl_RootsOf_1.a at h
    simp only at h
    split at h
    · cases h; rfl
    · cases h
  · intro q avs H; rfl
  · intro k q pt avs H x _ h; cases h
  · intro k avs H o h
    try dsimp only at h
    split at h
    · cases h; exact slices_ContainsFunc_int64_at_impl_RootsOf_1.eq _ _ _
    · cases h

def impl_RootsOf.a : FnA (List Int × Bool) := ⟨17, [.tmp 4, .tmp 5], .tup [.row 2 (.int .i64), .bool], [], [], fun x H => match x, H with
  | .tup [.own 0, .bs false r_1], [.row 2 (.int .i64) r_0] => some (r_0, r_1)
  | _, _ => none⟩
def impl_RootsOf.s : Spec := mkS [.agg [.val, .val, .val, .con .str], .val] (fun k avs H => match avs, H with
  | [.agg [.v (.int .i64 a0_0), .v (.int .i64 a0_1), .v (.int .i64 a0_2), .con .str a0_3], .v (.string a1)], [] => some (impl_RootsOf.f k a0_0 a0_1 a0_2 a0_3 a1)
  | _, _ => none) (fun r => (.tup [.own 0, .bs false r.2], [.row 2 (.int .i64) r.1]))
def impl_RootsOf.E : Env := [((51, []), impl_isImage.s), ((52, []), impl_wordsOf.s), ((43, [53]), slices_ContainsFunc_int64_at_impl_RootsOf_1.s)]
def impl_RootsOf.G (k p : Nat) (avs : List AV) (H : List HE) : Option (List Int × Bool) := none
set_option maxRecDepth 100000 in
theorem impl_RootsOf.eq (k : Nat) (a0_0 : Int) (a0_1 : Int) (a0_2 : Int) (a0_3 : List ByteArray) (a1 : ByteArray) : fromTop Tryd.prog impl_RootsOf.E k impl_RootsOf.a (impl_RootsOf.G k) 1000 (bodyOf Tryd.prog 18) [.agg [.v (.int .i64 a0_0), .v (.int .i64 a0_1), .v (.int .i64 a0_2), .con .str a0_3], .v (.string a1)] [] = impl_RootsOf.f k a0_0 a0_1 a0_2 a0_3 a1 := by kernel_rfl
theorem impl_RootsOf.E_ok : EnvOk Tryd.prog impl_RootsOf.E := ⟨⟨impl_isImage.sound, callable_of (by kernel_rfl)⟩, ⟨impl_wordsOf.sound, callable_of (by kernel_rfl)⟩, ⟨slices_ContainsFunc_int64_at_impl_RootsOf_1.sound, callable_of (by kernel_rfl)⟩, trivial⟩
theorem impl_RootsOf.sound : Sound Tryd.prog 18 impl_RootsOf.s := by
  refine func_sound (f := impl_RootsOf.a) (G := impl_RootsOf.G) (fn := Tryd.f18) (body := bodyOf Tryd.prog 18) 1000 (by kernel_rfl) impl_RootsOf.E_ok Tryd.func18 (by kernel_rfl) (by kernel_rfl) (by kernel_rfl) (ptsOk_of (by kernel_rfl)) ?_ ?_ ?_ ?_
  · intro r H x h
    unfold impl_RootsOf.a at h
    simp only at h
    split at h
    · cases h; rfl
    · cases h
  · intro q avs H; rfl
  · intro k q pt avs H x _ h; cases h
  · intro k avs H o h
    try dsimp only at h
    split at h
    · cases h; exact impl_RootsOf.eq _ _ _ _ _ _
    · cases h

def laws_eqInt64S.a : FnA (Bool) := ⟨26, [.tmp 4], .bool, [], [⟨14, [0, 1, 5], [.con (.int .i64), .con (.int .i64), .val], []⟩], fun x H => match x, H with
  | .bs false r, [] => some r
  | _, _ => none⟩
def laws_eqInt64S.s : Spec := mkS [.con (.int .i64), .con (.int .i64)] (fun k avs H => match avs, H with
  | [.con (.int .i64) a0, .con (.int .i64) a1], [] => some (laws_eqInt64S.f k a0 a1)
  | _, _ => none) (fun r => (.bs false r, []))
def laws_eqInt64S.E : Env := []
def laws_eqInt64S.G14 (k : Nat) (avs : List AV) (H : List HE) : Option (Bool) := match avs, H with
  | [.con (.int .i64) x0, .con (.int .i64) x1, .v (.int .i64 x5)], [] => laws_eqInt64S.p14 k x0 x1 x5
  | _, _ => none
def laws_eqInt64S.G (k p : Nat) (avs : List AV) (H : List HE) : Option (Bool) := (pick1 14 (laws_eqInt64S.G14 k avs H) none p)
set_option maxRecDepth 100000 in
theorem laws_eqInt64S.eq (k : Nat) (a0 : List Int) (a1 : List Int) : fromTop Tryd.prog laws_eqInt64S.E k laws_eqInt64S.a (laws_eqInt64S.G k) 1000 (bodyOf Tryd.prog 19) [.con (.int .i64) a0, .con (.int .i64) a1] [] = laws_eqInt64S.f k a0 a1 := by kernel_rfl
set_option maxRecDepth 100000 in
theorem laws_eqInt64S.eq14 (k : Nat) (x0 : List Int) (x1 : List Int) (x5 : Int) : fromPt Tryd.prog laws_eqInt64S.E k laws_eqInt64S.a (laws_eqInt64S.G k) 1000 (bodyOf Tryd.prog 19) 14 [.con (.int .i64) x0, .con (.int .i64) x1, .v (.int .i64 x5)] [] = laws_eqInt64S.p14 (k + 1) x0 x1 x5 := by kernel_rfl
theorem laws_eqInt64S.G14_0 {avs : List AV} {H : List HE} : laws_eqInt64S.G14 0 avs H = none := by unfold laws_eqInt64S.G14; split <;> rfl
theorem laws_eqInt64S.G14_s (k : Nat) {avs : List AV} {H : List HE} {x : Bool} (h : laws_eqInt64S.G14 (k + 1) avs H = some x) : fromPt Tryd.prog laws_eqInt64S.E k laws_eqInt64S.a (laws_eqInt64S.G k) 1000 (bodyOf Tryd.prog 19) 14 avs H = some x := by
  unfold laws_eqInt64S.G14 at h
  split at h
  · rw [← h]; exact laws_eqInt64S.eq14 _ _ _ _
  · cases h
theorem laws_eqInt64S.E_ok : EnvOk Tryd.prog laws_eqInt64S.E := trivial
theorem laws_eqInt64S.sound : Sound Tryd.prog 19 laws_eqInt64S.s := by
  refine func_sound (f := laws_eqInt64S.a) (G := laws_eqInt64S.G) (fn := Tryd.f19) (body := bodyOf Tryd.prog 19) 1000 (by kernel_rfl) laws_eqInt64S.E_ok Tryd.func19 (by kernel_rfl) (by kernel_rfl) (by kernel_rfl) (ptsOk_of (by kernel_rfl)) ?_ ?_ ?_ ?_
  · intro r H x h
    unfold laws_eqInt64S.a at h
    simp only at h
    split at h
    · cases h; rfl
    · cases h
  · exact fun q avs H => pick1_none laws_eqInt64S.G14_0 (rfl)
  · intro k q pt avs H x _ h
    rcases pick1_some h with ⟨rfl, h⟩ | h
    · exact laws_eqInt64S.G14_s _ h
    cases h
  · intro k avs H o h
    try dsimp only at h
    split at h
    · cases h; exact laws_eqInt64S.eq _ _ _
    · cases h

def laws_eqStringS.a : FnA (Bool) := ⟨26, [.tmp 4], .bool, [], [⟨14, [0, 1, 5], [.con .str, .con .str, .val], []⟩], fun x H => match x, H with
  | .bs false r, [] => some r
  | _, _ => none⟩
def laws_eqStringS.s : Spec := mkS [.con .str, .con .str] (fun k avs H => match avs, H with
  | [.con .str a0, .con .str a1], [] => some (laws_eqStringS.f k a0 a1)
  | _, _ => none) (fun r => (.bs false r, []))
def laws_eqStringS.E : Env := []
def laws_eqStringS.G14 (k : Nat) (avs : List AV) (H : List HE) : Option (Bool) := match avs, H with
  | [.con .str x0, .con .str x1, .v (.int .i64 x5)], [] => laws_eqStringS.p14 k x0 x1 x5
  | _, _ => none
def laws_eqStringS.G (k p : Nat) (avs : List AV) (H : List HE) : Option (Bool) := (pick1 14 (laws_eqStringS.G14 k avs H) none p)
set_option maxRecDepth 100000 in
theorem laws_eqStringS.eq (k : Nat) (a0 : List ByteArray) (a1 : List ByteArray) : fromTop Tryd.prog laws_eqStringS.E k laws_eqStringS.a (laws_eqStringS.G k) 1000 (bodyOf Tryd.prog 13) [.con .str a0, .con .str a1] [] = laws_eqStringS.f k a0 a1 := by kernel_rfl
set_option maxRecDepth 100000 in
theorem laws_eqStringS.eq14 (k : Nat) (x0 : List ByteArray) (x1 : List ByteArray) (x5 : Int) : fromPt Tryd.prog laws_eqStringS.E k laws_eqStringS.a (laws_eqStringS.G k) 1000 (bodyOf Tryd.prog 13) 14 [.con .str x0, .con .str x1, .v (.int .i64 x5)] [] = laws_eqStringS.p14 (k + 1) x0 x1 x5 := by kernel_rfl
theorem laws_eqStringS.G14_0 {avs : List AV} {H : List HE} : laws_eqStringS.G14 0 avs H = none := by unfold laws_eqStringS.G14; split <;> rfl
theorem laws_eqStringS.G14_s (k : Nat) {avs : List AV} {H : List HE} {x : Bool} (h : laws_eqStringS.G14 (k + 1) avs H = some x) : fromPt Tryd.prog laws_eqStringS.E k laws_eqStringS.a (laws_eqStringS.G k) 1000 (bodyOf Tryd.prog 13) 14 avs H = some x := by
  unfold laws_eqStringS.G14 at h
  split at h
  · rw [← h]; exact laws_eqStringS.eq14 _ _ _ _
  · cases h
theorem laws_eqStringS.E_ok : EnvOk Tryd.prog laws_eqStringS.E := trivial
theorem laws_eqStringS.sound : Sound Tryd.prog 13 laws_eqStringS.s := by
  refine func_sound (f := laws_eqStringS.a) (G := laws_eqStringS.G) (fn := Tryd.f13) (body := bodyOf Tryd.prog 13) 1000 (by kernel_rfl) laws_eqStringS.E_ok Tryd.func13 (by kernel_rfl) (by kernel_rfl) (by kernel_rfl) (ptsOk_of (by kernel_rfl)) ?_ ?_ ?_ ?_
  · intro r H x h
    unfold laws_eqStringS.a at h
    simp only at h
    split at h
    · cases h; rfl
    · cases h
  · exact fun q avs H => pick1_none laws_eqStringS.G14_0 (rfl)
  · intro k q pt avs H x _ h
    rcases pick1_some h with ⟨rfl, h⟩ | h
    · exact laws_eqStringS.G14_s _ h
    cases h
  · intro k avs H o h
    try dsimp only at h
    split at h
    · cases h; exact laws_eqStringS.eq _ _ _
    · cases h

def laws_eqConfig.a : FnA (Bool) := ⟨26, [.tmp 4], .bool, [], [], fun x H => match x, H with
  | .bs false r, [] => some r
  | _, _ => none⟩
def laws_eqConfig.s : Spec := mkS [.agg [.val, .val, .val, .con .str], .agg [.val, .val, .val, .con .str]] (fun k avs H => match avs, H with
  | [.agg [.v (.int .i64 a0_0), .v (.int .i64 a0_1), .v (.int .i64 a0_2), .con .str a0_3], .agg [.v (.int .i64 a1_0), .v (.int .i64 a1_1), .v (.int .i64 a1_2), .con .str a1_3]], [] => some (laws_eqConfig.f k a0_0 a0_1 a0_2 a0_3 a1_0 a1_1 a1_2 a1_3)
  | _, _ => none) (fun r => (.bs false r, []))
def laws_eqConfig.E : Env := [((13, []), laws_eqStringS.s)]
def laws_eqConfig.G (k p : Nat) (avs : List AV) (H : List HE) : Option (Bool) := none
set_option maxRecDepth 100000 in
theorem laws_eqConfig.eq (k : Nat) (a0_0 : Int) (a0_1 : Int) (a0_2 : Int) (a0_3 : List ByteArray) (a1_0 : Int) (a1_1 : Int) (a1_2 : Int) (a1_3 : List ByteArray) : fromTop Tryd.prog laws_eqConfig.E k laws_eqConfig.a (laws_eqConfig.G k) 1000 (bodyOf Tryd.prog 20) [.agg [.v (.int .i64 a0_0), .v (.int .i64 a0_1), .v (.int .i64 a0_2), .con .str a0_3], .agg [.v (.int .i64 a1_0), .v (.int .i64 a1_1), .v (.int .i64 a1_2), .con .str a1_3]] [] = laws_eqConfig.f k a0_0 a0_1 a0_2 a0_3 a1_0 a1_1 a1_2 a1_3 := by kernel_rfl
theorem laws_eqConfig.E_ok : EnvOk Tryd.prog laws_eqConfig.E := ⟨⟨laws_eqStringS.sound, callable_of (by kernel_rfl)⟩, trivial⟩
theorem laws_eqConfig.sound : Sound Tryd.prog 20 laws_eqConfig.s := by
  refine func_sound (f := laws_eqConfig.a) (G := laws_eqConfig.G) (fn := Tryd.f20) (body := bodyOf Tryd.prog 20) 1000 (by kernel_rfl) laws_eqConfig.E_ok Tryd.func20 (by kernel_rfl) (by kernel_rfl) (by kernel_rfl) (ptsOk_of (by kernel_rfl)) ?_ ?_ ?_ ?_
  · intro r H x h
    unfold laws_eqConfig.a at h
    simp only at h
    split at h
    · cases h; rfl
    · cases h
  · intro q avs H; rfl
  · intro k q pt avs H x _ h; cases h
  · intro k avs H o h
    try dsimp only at h
    split at h
    · cases h; exact laws_eqConfig.eq _ _ _ _ _ _ _ _ _
    · cases h

def laws_markText.a : FnA (ByteArray) := ⟨20, [.tmp 2], .val, [], [⟨14, [0, 3], [.val, .val], []⟩], fun x H => match x, H with
  | .v (.string r), [] => some r
  | _, _ => none⟩
def laws_markText.s : Spec := mkS [.val] (fun k avs H => match avs, H with
  | [.v (.int .i64 a0)], [] => some (laws_markText.f k a0)
  | _, _ => none) (fun r => (.v (.string r), []))
def laws_markText.E : Env := []
def laws_markText.G14 (k : Nat) (avs : List AV) (H : List HE) : Option (ByteArray) := match avs, H with
  | [.v (.int .i64 x0), .v (.string x3)], [] => laws_markText.p14 k x0 x3
  | _, _ => none
def laws_markText.G (k p : Nat) (avs : List AV) (H : List HE) : Option (ByteArray) := (pick1 14 (laws_markText.G14 k avs H) none p)
set_option maxRecDepth 100000 in
theorem laws_markText.eq (k : Nat) (a0 : Int) : fromTop Tryd.prog laws_markText.E k laws_markText.a (laws_markText.G k) 1000 (bodyOf Tryd.prog 92) [.v (.int .i64 a0)] [] = laws_markText.f k a0 := by kernel_rfl
set_option maxRecDepth 100000 in
theorem laws_markText.eq14 (k : Nat) (x0 : Int) (x3 : ByteArray) : fromPt Tryd.prog laws_markText.E k laws_markText.a (laws_markText.G k) 1000 (bodyOf Tryd.prog 92) 14 [.v (.int .i64 x0), .v (.string x3)] [] = laws_markText.p14 (k + 1) x0 x3 := by kernel_rfl
theorem laws_markText.G14_0 {avs : List AV} {H : List HE} : laws_markText.G14 0 avs H = none := by unfold laws_markText.G14; split <;> rfl
theorem laws_markText.G14_s (k : Nat) {avs : List AV} {H : List HE} {x : ByteArray} (h : laws_markText.G14 (k + 1) avs H = some x) : fromPt Tryd.prog laws_markText.E k laws_markText.a (laws_markText.G k) 1000 (bodyOf Tryd.prog 92) 14 avs H = some x := by
  unfold laws_markText.G14 at h
  split at h
  · rw [← h]; exact laws_markText.eq14 _ _ _
  · cases h
theorem laws_markText.E_ok : EnvOk Tryd.prog laws_markText.E := trivial
theorem laws_markText.sound : Sound Tryd.prog 92 laws_markText.s := by
  refine func_sound (f := laws_markText.a) (G := laws_markText.G) (fn := Tryd.f92) (body := bodyOf Tryd.prog 92) 1000 (by kernel_rfl) laws_markText.E_ok Tryd.func92 (by kernel_rfl) (by kernel_rfl) (by kernel_rfl) (ptsOk_of (by kernel_rfl)) ?_ ?_ ?_ ?_
  · intro r H x h
    unfold laws_markText.a at h
    simp only at h
    split at h
    · cases h; rfl
    · cases h
  · exact fun q avs H => pick1_none laws_markText.G14_0 (rfl)
  · intro k q pt avs H x _ h
    rcases pick1_some h with ⟨rfl, h⟩ | h
    · exact laws_markText.G14_s _ h
    cases h
  · intro k avs H o h
    try dsimp only at h
    split at h
    · cases h; exact laws_markText.eq _ _
    · cases h

def laws_markStringS.a : FnA (List ByteArray × Int) := ⟨20, [.tmp 4], .val, [.keep], [⟨6, [0, 1, 5], [.row 9 .str, .val, .val], [.keep]⟩], fun x H => match x, H with
  | .v (.int .i64 r), [.row 9 .str h0] => some (h0, r)
  | _, _ => none⟩
def laws_markStringS.s : Spec := mkS [.row 9 .str, .val] (fun k avs H => match avs, H with
  | [.own 0, .v (.int .i64 a1)], [.row 9 .str a0] => some (laws_markStringS.f k a0 a1)
  | _, _ => none) (fun r => (.v (.int .i64 r.2), [.row 9 .str r.1]))
def laws_markStringS.E : Env := [((92, []), laws_markText.s)]
def laws_markStringS.G6 (k : Nat) (avs : List AV) (H : List HE) : Option (List ByteArray × Int) := match avs, H with
  | [.own 0, .v (.int .i64 x1), .v (.int .i64 x5)], [.row 9 .str h0] => laws_markStringS.p6 k h0 x1 x5
  | _, _ => none
def laws_markStringS.G (k p : Nat) (avs : List AV) (H : List HE) : Option (List ByteArray × Int) := (pick1 6 (laws_markStringS.G6 k avs H) none p)
set_option maxRecDepth 100000 in
theorem laws_markStringS.eq (k : Nat) (a0 : List ByteArray) (a1 : Int) : fromTop Tryd.prog laws_markStringS.E k laws_markStringS.a (laws_markStringS.G k) 1000 (bodyOf Tryd.prog 55) [.own 0, .v (.int .i64 a1)] [.row 9 .str a0] = laws_markStringS.f k a0 a1 := by kernel_rfl
set_option maxRecDepth 100000 in
theorem laws_markStringS.eq6 (k : Nat) (h0 : List ByteArray) (x1 : Int) (x5 : Int) : fromPt Tryd.prog laws_markStringS.E k laws_markStringS.a (laws_markStringS.G k) 1000 (bodyOf Tryd.prog 55) 6 [.own 0, .v (.int .i64 x1), .v (.int .i64 x5)] [.row 9 .str h0] = laws_markStringS.p6 (k + 1) h0 x1 x5 := by kernel_rfl
theorem laws_markStringS.G6_0 {avs : List AV} {H : List HE} : laws_markStringS.G6 0 avs H = none := by unfold laws_markStringS.G6; split <;> rfl
theorem laws_markStringS.G6_s (k : Nat) {avs : List AV} {H : List HE} {x : List ByteArray × Int} (h : laws_markStringS.G6 (k + 1) avs H = some x) : fromPt Tryd.prog laws_markStringS.E k laws_markStringS.a (laws_markStringS.G k) 1000 (bodyOf Tryd.prog 55) 6 avs H = some x := by
  unfold laws_markStringS.G6 at h
  split at h
  · rw [← h]; exact laws_markStringS.eq6 _ _ _ _
  · cases h
theorem laws_markStringS.E_ok : EnvOk Tryd.prog laws_markStringS.E := ⟨⟨laws_markText.sound, callable_of (by kernel_rfl)⟩, trivial⟩
theorem laws_markStringS.sound : Sound Tryd.prog 55 laws_markStringS.s := by
  refine func_sound (f := laws_markStringS.a) (G := laws_markStringS.G) (fn := Tryd.f55) (body := bodyOf Tryd.prog 55) 1000 (by kernel_rfl) laws_markStringS.E_ok Tryd.func55 (by kernel_rfl) (by kernel_rfl) (by kernel_rfl) (ptsOk_of (by kernel_rfl)) ?_ ?_ ?_ ?_
  · intro r H x h
    unfold laws_markStringS.a at h
    simp only at h
    split at h
    · cases h; rfl
    · cases h
  · exact fun q avs H => pick1_none laws_markStringS.G6_0 (rfl)
  · intro k q pt avs H x _ h
    rcases pick1_some h with ⟨rfl, h⟩ | h
    · exact laws_markStringS.G6_s _ h
    cases h
  · intro k avs H o h
    try dsimp only at h
    split at h
    · cases h; exact laws_markStringS.eq _ _ _
    · cases h

def laws_markConfig.a : FnA (List ByteArray × Int) := ⟨10, [.tmp 4], .val, [.keep], [], fun x H => match x, H with
  | .v (.int .i64 r), [.row 9 .str h0] => some (h0, r)
  | _, _ => none⟩
def laws_markConfig.s : Spec := mkS [.agg [.val, .val, .val, .row 9 .str], .val] (fun k avs H => match avs, H with
  | [.agg [.v (.int .i64 a0_0), .v (.int .i64 a0_1), .v (.int .i64 a0_2), .own 0], .v (.int .i64 a1)], [.row 9 .str a0_3] => some (laws_markConfig.f k a0_0 a0_1 a0_2 a0_3 a1)
  | _, _ => none) (fun r => (.v (.int .i64 r.2), [.row 9 .str r.1]))
def laws_markConfig.E : Env := [((55, []), laws_markStringS.s)]
def laws_markConfig.G (k p : Nat) (avs : List AV) (H : List HE) : Option (List ByteArray × Int) := none
set_option maxRecDepth 100000 in
theorem laws_markConfig.eq (k : Nat) (a0_0 : Int) (a0_1 : Int) (a0_2 : Int) (a0_3 : List ByteArray) (a1 : Int) : fromTop Tryd.prog laws_markConfig.E k laws_markConfig.a (laws_markConfig.G k) 1000 (bodyOf Tryd.prog 21) [.agg [.v (.int .i64 a0_0), .v (.int .i64 a0_1), .v (.int .i64 a0_2), .own 0], .v (.int .i64 a1)] [.row 9 .str a0_3] = laws_markConfig.f k a0_0 a0_1 a0_2 a0_3 a1 := by kernel_rfl
theorem laws_markConfig.E_ok : EnvOk Tryd.prog laws_markConfig.E := ⟨⟨laws_markStringS.sound, callable_of (by kernel_rfl)⟩, trivial⟩
theorem laws_markConfig.sound : Sound Tryd.prog 21 laws_markConfig.s := by
  refine func_sound (f := laws_markConfig.a) (G := laws_markConfig.G) (fn := Tryd.f21) (body := bodyOf Tryd.prog 21) 1000 (by kernel_rfl) laws_markConfig.E_ok Tryd.func21 (by kernel_rfl) (by kernel_rfl) (by kernel_rfl) (ptsOk_of (by kernel_rfl)) ?_ ?_ ?_ ?_
  · intro r H x h
    unfold laws_markConfig.a at h
    simp only at h
    split at h
    · cases h; rfl
    · cases h
  · intro q avs H; rfl
  · intro k q pt avs H x _ h; cases h
  · intro k avs H o h
    try dsimp only at h
    split at h
    · cases h; exact laws_markConfig.eq _ _ _ _ _ _
    · cases h

def laws_markInt64S.a : FnA (List Int × Int) := ⟨19, [.tmp 4], .val, [.keep], [⟨6, [0, 1, 5], [.row 2 (.int .i64), .val, .val], [.keep]⟩], fun x H => match x, H with
  | .v (.int .i64 r), [.row 2 (.int .i64) h0] => some (h0, r)
  | _, _ => none⟩
def laws_markInt64S.s : Spec := mkS [.row 2 (.int .i64), .val] (fun k avs H => match avs, H with
  | [.own 0, .v (.int .i64 a1)], [.row 2 (.int .i64) a0] => some (laws_markInt64S.f k a0 a1)
  | _, _ => none) (fun r => (.v (.int .i64 r.2), [.row 2 (.int .i64) r.1]))
def laws_markInt64S.E : Env := []
def laws_markInt64S.G6 (k : Nat) (avs : List AV) (H : List HE) : Option (List Int × Int) := match avs, H with
  | [.own 0, .v (.int .i64 x1), .v (.int .i64 x5)], [.row 2 (.int .i64) h0] => laws_markInt64S.p6 k h0 x1 x5
  | _, _ => none
def laws_markInt64S.G (k p : Nat) (avs : List AV) (H : List HE) : Option (List Int × Int) := (pick1 6 (laws_markInt64S.G6 k avs H) none p)
set_option maxRecDepth 100000 in
theorem laws_markInt64S.eq (k : Nat) (a0 : List Int) (a1 : Int) : fromTop Tryd.prog laws_markInt64S.E k laws_markInt64S.a (laws_markInt64S.G k) 1000 (bodyOf Tryd.prog 22) [.own 0, .v (.int .i64 a1)] [.row 2 (.int .i64) a0] = laws_markInt64S.f k a0 a1 := by kernel_rfl
set_option maxRecDepth 100000 in
theorem laws_markInt64S.eq6 (k : Nat) (h0 : List Int) (x1 : Int) (x5 : Int) : fromPt Tryd.prog laws_markInt64S.E k laws_markInt64S.a (laws_markInt64S.G k) 1000 (bodyOf Tryd.prog 22) 6 [.own 0, .v (.int .i64 x1), .v (.int .i64 x5)] [.row 2 (.int .i64) h0] = laws_markInt64S.p6 (k + 1) h0 x1 x5 := by kernel_rfl
theorem laws_markInt64S.G6_0 {avs : List AV} {H : List HE} : laws_markInt64S.G6 0 avs H = none := by unfold laws_markInt64S.G6; split <;> rfl
theorem laws_markInt64S.G6_s (k : Nat) {avs : List AV} {H : List HE} {x : List Int × Int} (h : laws_markInt64S.G6 (k + 1) avs H = some x) : fromPt Tryd.prog laws_markInt64S.E k laws_markInt64S.a (laws_markInt64S.G k) 1000 (bodyOf Tryd.prog 22) 6 avs H = some x := by
  unfold laws_markInt64S.G6 at h
  split at h
  · rw [← h]; exact laws_markInt64S.eq6 _ _ _ _
  · cases h
theorem laws_markInt64S.E_ok : EnvOk Tryd.prog laws_markInt64S.E := trivial
theorem laws_markInt64S.sound : Sound Tryd.prog 22 laws_markInt64S.s := by
  refine func_sound (f := laws_markInt64S.a) (G := laws_markInt64S.G) (fn := Tryd.f22) (body := bodyOf Tryd.prog 22) 1000 (by kernel_rfl) laws_markInt64S.E_ok Tryd.func22 (by kernel_rfl) (by kernel_rfl) (by kernel_rfl) (ptsOk_of (by kernel_rfl)) ?_ ?_ ?_ ?_
  · intro r H x h
    unfold laws_markInt64S.a at h
    simp only at h
    split at h
    · cases h; rfl
    · cases h
  · exact fun q avs H => pick1_none laws_markInt64S.G6_0 (rfl)
  · intro k q pt avs H x _ h
    rcases pick1_some h with ⟨rfl, h⟩ | h
    · exact laws_markInt64S.G6_s _ h
    cases h
  · intro k avs H o h
    try dsimp only at h
    split at h
    · cases h; exact laws_markInt64S.eq _ _ _
    · cases h

def laws_heldInt64S.a : FnA (Int) := ⟨21, [.tmp 4], .val, [], [⟨6, [0, 1, 5], [.con (.int .i64), .val, .val], []⟩], fun x H => match x, H with
  | .v (.int .i64 r), [] => some r
  | _, _ => none⟩
def laws_heldInt64S.s : Spec := mkS [.con (.int .i64), .val] (fun k avs H => match avs, H with
  | [.con (.int .i64) a0, .v (.int .i64 a1)], [] => some (laws_heldInt64S.f k a0 a1)
  | _, _ => none) (fun r => (.v (.int .i64 r), []))
def laws_heldInt64S.E : Env := []
def laws_heldInt64S.G6 (k : Nat) (avs : List AV) (H : List HE) : Option (Int) := match avs, H with
  | [.con (.int .i64) x0, .v (.int .i64 x1), .v (.int .i64 x5)], [] => laws_heldInt64S.p6 k x0 x1 x5
  | _, _ => none
def laws_heldInt64S.G (k p : Nat) (avs : List AV) (H : List HE) : Option (Int) := (pick1 6 (laws_heldInt64S.G6 k avs H) none p)
set_option maxRecDepth 100000 in
theorem laws_heldInt64S.eq (k : Nat) (a0 : List Int) (a1 : Int) : fromTop Tryd.prog laws_heldInt64S.E k laws_heldInt64S.a (laws_heldInt64S.G k) 1000 (bodyOf Tryd.prog 23) [.con (.int .i64) a0, .v (.int .i64 a1)] [] = laws_heldInt64S.f k a0 a1 := by kernel_rfl
set_option maxRecDepth 100000 in
theorem laws_heldInt64S.eq6 (k : Nat) (x0 : List Int) (x1 : Int) (x5 : Int) : fromPt Tryd.prog laws_heldInt64S.E k laws_heldInt64S.a (laws_heldInt64S.G k) 1000 (bodyOf Tryd.prog 23) 6 [.con (.int .i64) x0, .v (.int .i64 x1), .v (.int .i64 x5)] [] = laws_heldInt64S.p6 (k + 1) x0 x1 x5 := by kernel_rfl
theorem laws_heldInt64S.G6_0 {avs : List AV} {H : List HE} : laws_heldInt64S.G6 0 avs H = none := by unfold laws_heldInt64S.G6; split <;> rfl
theorem laws_heldInt64S.G6_s (k : Nat) {avs : List AV} {H : List HE} {x : Int} (h : laws_heldInt64S.G6 (k + 1) avs H = some x) : fromPt Tryd.prog laws_heldInt64S.E k laws_heldInt64S.a (laws_heldInt64S.G k) 1000 (bodyOf Tryd.prog 23) 6 avs H = some x := by
  unfold laws_heldInt64S.G6 at h
  split at h
  · rw [← h]; exact laws_heldInt64S.eq6 _ _ _ _
  · cases h
theorem laws_heldInt64S.E_ok : EnvOk Tryd.prog laws_heldInt64S.E := trivial
theorem laws_heldInt64S.sound : Sound Tryd.prog 23 laws_heldInt64S.s := by
  refine func_sound (f := laws_heldInt64S.a) (G := laws_heldInt64S.G) (fn := Tryd.f23) (body := bodyOf Tryd.prog 23) 1000 (by kernel_rfl) laws_heldInt64S.E_ok Tryd.func23 (by kernel_rfl) (by kernel_rfl) (by kernel_rfl) (ptsOk_of (by kernel_rfl)) ?_ ?_ ?_ ?_
  · intro r H x h
    unfold laws_heldInt64S.a at h
    simp only at h
    split at h
    · cases h; rfl
    · cases h
  · exact fun q avs H => pick1_none laws_heldInt64S.G6_0 (rfl)
  · intro k q pt avs H x _ h
    rcases pick1_some h with ⟨rfl, h⟩ | h
    · exact laws_heldInt64S.G6_s _ h
    cases h
  · intro k avs H o h
    try dsimp only at h
    split at h
    · cases h; exact laws_heldInt64S.eq _ _ _
    · cases h

def laws_FnExactRootsOf.a : FnA (Bool) := ⟨104, [.tmp 4], .bool, [], [⟨31, [1, 2, 6, 7, 8, 9, 10, 47], [.val, .box [.val, .val, .val, .con .str], .row 2 (.int .i64), .bool, .box [.val, .val, .val, .row 9 .str], .row 2 (.int .i64), .bool, .bool], []⟩, ⟨51, [1, 2, 6, 7, 9, 68], [.val, .box [.val, .val, .val, .con .str], .row 2 (.int .i64), .bool, .row 2 (.int .i64), .bool], []⟩], fun x H => match x, H with
  | .bs false r, [] => some r
  | _, _ => none⟩
def laws_FnExactRootsOf.s : Spec := mkS [.agg [.val, .val, .val, .con .str], .val] (fun k avs H => match avs, H with
  | [.agg [.v (.int .i64 a0_0), .v (.int .i64 a0_1), .v (.int .i64 a0_2), .con .str a0_3], .v (.string a1)], [] => some (laws_FnExactRootsOf.f k a0_0 a0_1 a0_2 a0_3 a1)
  | _, _ => none) (fun r => (.bs false r, []))
def laws_FnExactRootsOf.E : Env := [((15, []), laws_szConfig.s), ((17, []), laws_toConfig.s), ((16, []), spec_RootsOf.s), ((18, []), impl_RootsOf.s), ((19, []), laws_eqInt64S.s), ((22, []), laws_markInt64S.s), ((23, []), laws_heldInt64S.s), ((20, []), laws_eqConfig.s), ((21, []), laws_markConfig.s)]
def laws_FnExactRootsOf.G31 (k : Nat) (avs : List AV) (H : List HE) : Option (Bool) := match avs, H with
  | [.v (.string x1), .box 0 0, .own 1, .bs false x7, .box 2 0, .own 4, .bs false x10, .bs false x47], [.box [.v (.int .i64 x2_0), .v (.int .i64 x2_1), .v (.int .i64 x2_2), .con .str x2_3], .row 2 (.int .i64) x6, .box [.v (.int .i64 x8_0), .v (.int .i64 x8_1), .v (.int .i64 x8_2), .own 3], .row 9 .str x8_3, .row 2 (.int .i64) x9] => laws_FnExactRootsOf.p31 k x1 x2_0 x2_1 x2_2 x2_3 x6 x7 x8_0 x8_1 x8_2 x8_3 x9 x10 x47
  | _, _ => none
def laws_FnExactRootsOf.G51 (k : Nat) (avs : List AV) (H : List HE) : Option (Bool) := match avs, H with
  | [.v (.string x1), .box 0 0, .own 1, .bs false x7, .own 2, .bs false x68], [.box [.v (.int .i64 x2_0), .v (.int .i64 x2_1), .v (.int .i64 x2_2), .con .str x2_3], .row 2 (.int .i64) x6, .row 2 (.int .i64) x9] => laws_FnExactRootsOf.p51 k x1 x2_0 x2_1 x2_2 x2_3 x6 x7 x9 x68
  | _, _ => none
def laws_FnExactRootsOf.G (k p : Nat) (avs : List AV) (H : List HE) : Option (Bool) := (pick1 31 (laws_FnExactRootsOf.G31 k avs H) (pick1 51 (laws_FnExactRootsOf.G51 k avs H) none p) p)
set_option maxRecDepth 100000 in
theorem laws_FnExactRootsOf.eq (k : Nat) (a0_0 : Int) (a0_1 : Int) (a0_2 : Int) (a0_3 : List ByteArray) (a1 : ByteArray) : fromTop Tryd.prog laws_FnExactRootsOf.E k laws_FnExactRootsOf.a (laws_FnExactRootsOf.G k) 1000 (bodyOf Tryd.prog 4) [.agg [.v (.int .i64 a0_0), .v (.int .i64 a0_1), .v (.int .i64 a0_2), .con .str a0_3], .v (.string a1)] [] = laws_FnExactRootsOf.f k a0_0 a0_1 a0_2 a0_3 a1 := by kernel_rfl
set_option maxRecDepth 100000 in
theorem laws_FnExactRootsOf.eq31 (k : Nat) (x1 : ByteArray) (x2_0 : Int) (x2_1 : Int) (x2_2 : Int) (x2_3 : List ByteArray) (x6 : List Int) (x7 : Bool) (x8_0 : Int) (x8_1 : Int) (x8_2 : Int) (x8_3 : List ByteArray) (x9 : List Int) (x10 : Bool) (x47 : Bool) : fromPt Tryd.prog laws_FnExactRootsOf.E k laws_FnExactRootsOf.a (laws_FnExactRootsOf.G k) 1000 (bodyOf Tryd.prog 4) 31 [.v (.string x1), .box 0 0, .own 1, .bs false x7, .box 2 0, .own 4, .bs false x10, .bs false x47] [.box [.v (.int .i64 x2_0), .v (.int .i64 x2_1), .v (.int .i64 x2_2), .con .str x2_3], .row 2 (.int .i64) x6, .box [.v (.int .i64 x8_0), .v (.int .i64 x8_1), .v (.int .i64 x8_2), .own 3], .row 9 .str x8_3, .row 2 (.int .i64) x9] = laws_FnExactRootsOf.p31 (k + 1) x1 x2_0 x2_1 x2_2 x2_3 x6 x7 x8_0 x8_1 x8_2 x8_3 x9 x10 x47 := by kernel_rfl
theorem laws_FnExactRootsOf.G31_0 {avs : List AV} {H : List HE} : laws_FnExactRootsOf.G31 0 avs H = none := by unfold laws_FnExactRootsOf.G31; split <;> rfl
theorem laws_FnExactRootsOf.G31_s (k : Nat) {avs : List AV} {H : List HE} {x : Bool} (h : laws_FnExactRootsOf.G31 (k + 1) avs H = some x) : fromPt Tryd.prog laws_FnExactRootsOf.E k laws_FnExactRootsOf.a (laws_FnExactRootsOf.G k) 1000 (bodyOf Tryd.prog 4) 31 avs H = some x := by
  unfold laws_FnExactRootsOf.G31 at h
  split at h
  · rw [← h]; exact laws_FnExactRootsOf.eq31 _ _ _ _ _ _ _ _ _ _ _ _ _ _ _
  · cases h
set_option maxRecDepth 100000 in
theorem laws_FnExactRootsOf.eq51 (k : Nat) (x1 : ByteArray) (x2_0 : Int) (x2_1 : Int) (x2_2 : Int) (x2_3 : List ByteArray) (x6 : List Int) (x7 : Bool) (x9 : List Int) (x68 : Bool) : fromPt Tryd.prog laws_FnExactRootsOf.E k laws_FnExactRootsOf.a (laws_FnExactRootsOf.G k) 1000 (bodyOf Tryd.prog 4) 51 [.v (.string x1), .box 0 0, .own 1, .bs false x7, .own 2, .bs false x68] [.box [.v (.int .i64 x2_0), .v (.int .i64 x2_1), .v (.int .i64 x2_2), .con .str x2_3], .row 2 (.int .i64) x6, .row 2 (.int .i64) x9] = laws_FnExactRootsOf.p51 (k + 1) x1 x2_0 x2_1 x2_2 x2_3 x6 x7 x9 x68 := by kernel_rfl
theorem laws_FnExactRootsOf.G51_0 {avs : List AV} {H : List HE} : laws_FnExactRootsOf.G51 0 avs H = none := by unfold laws_FnExactRootsOf.G51; split <;> rfl
theorem laws_FnExactRootsOf.G51_s (k : Nat) {avs : List AV} {H : List HE} {x : Bool} (h : laws_FnExactRootsOf.G51 (k + 1) avs H = some x) : fromPt Tryd.prog laws_FnExactRootsOf.E k laws_FnExactRootsOf.a (laws_FnExactRootsOf.G k) 1000 (bodyOf Tryd.prog 4) 51 avs H = some x := by
  unfold laws_FnExactRootsOf.G51 at h
  split at h
  · rw [← h]; exact laws_FnExactRootsOf.eq51 _ _ _ _ _ _ _ _ _ _
  · cases h
theorem laws_FnExactRootsOf.E_ok : EnvOk Tryd.prog laws_FnExactRootsOf.E := ⟨⟨laws_szConfig.sound, callable_of (by kernel_rfl)⟩, ⟨laws_toConfig.sound, callable_of (by kernel_rfl)⟩, ⟨spec_RootsOf.sound, callable_of (by kernel_rfl)⟩, ⟨impl_RootsOf.sound, callable_of (by kernel_rfl)⟩, ⟨laws_eqInt64S.sound, callable_of (by kernel_rfl)⟩, ⟨laws_markInt64S.sound, callable_of (by kernel_rfl)⟩, ⟨laws_heldInt64S.sound, callable_of (by kernel_rfl)⟩, ⟨laws_eqConfig.sound, callable_of (by kernel_rfl)⟩, ⟨laws_markConfig.sound, callable_of (by kernel_rfl)⟩, trivial⟩
theorem laws_FnExactRootsOf.sound : Sound Tryd.prog 4 laws_FnExactRootsOf.s := by
  refine func_sound (f := laws_FnExactRootsOf.a) (G := laws_FnExactRootsOf.G) (fn := Tryd.f4) (body := bodyOf Tryd.prog 4) 1000 (by kernel_rfl) laws_FnExactRootsOf.E_ok Tryd.func4 (by kernel_rfl) (by kernel_rfl) (by kernel_rfl) (ptsOk_of (by kernel_rfl)) ?_ ?_ ?_ ?_
  · intro r H x h
    unfold laws_FnExactRootsOf.a at h
    simp only at h
    split at h
    · cases h; rfl
    · cases h
  · exact fun q avs H => pick1_none laws_FnExactRootsOf.G31_0 (pick1_none laws_FnExactRootsOf.G51_0 (rfl))
  · intro k q pt avs H x _ h
    rcases pick1_some h with ⟨rfl, h⟩ | h
    · exact laws_FnExactRootsOf.G31_s _ h
    rcases pick1_some h with ⟨rfl, h⟩ | h
    · exact laws_FnExactRootsOf.G51_s _ h
    cases h
  · intro k avs H o h
    try dsimp only at h
    split at h
    · cases h; exact laws_FnExactRootsOf.eq _ _ _ _ _ _
    · cases h
end
end Go.Proofs.YtnhladaobcnmhaaDoor.Abs
