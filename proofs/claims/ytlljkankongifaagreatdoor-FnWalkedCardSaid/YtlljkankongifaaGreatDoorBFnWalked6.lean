/- They are sound. (Merged out of this claim's own texts.) -/
import Derived.Test.YtlljkankongifaaGreatDoorBFnWalked5
import Derived.Shelf.Strings.SlTrimAscii
import Derived.Lib.Repeat
import Derived.Test.YtlljkankongifaaGreatDoorProg
import Derived.Test.YtlljkankongifaaGreatDoorRows
import Derived.Test.YtlljkankongifaaGreatDoorTie
import Derived.Test.YtlljkankongifaaGreatDoorCards
import Derived.WalkKit
import Derived.LaidMore
import Derived.Lay
import Derived.SevenTiedAt
import Derived.Stop.Joined
import Derived.ProofKit
import Derived.OpenShut
import Derived.ShutString
import Derived.ChangeOld
import Derived.Below
import Derived.SizedLaws
import Derived.Carry
namespace Go.Proofs.YtlljkankongifaaGreatDoor.Abs
open Go Go.RowKit
set_option linter.unusedVariables false
set_option linter.unusedSectionVars false
set_option linter.unusedSimpArgs false
noncomputable section
def strings_Trim.s : Spec := mkS [.val, .val] (fun _ avs H => match avs, H with
  | [.v (.string a0), .v (.string a1)], [] => some (strings_Trim.f a0 a1)
  | _, _ => none) (fun r => (.v (.string r), []))
theorem strings_Trim.sound : Sound Tryz.prog 101 strings_Trim.s := by
  refine sound_plain (emb := fun r => .v (.string r)) ?_
  intro k avs H o x h hx
  split at h
  case h_2 => cases h
  rename_i a0 a1
  cases h
  refine ⟨rfl, fun M w ρ hp vals hr => ?_⟩
  obtain ⟨v0, q0, rfl, rfl, v1, q1, rfl, rfl, rfl⟩ := hr
  unfold strings_Trim.f at hx
  split at hx
  case isFalse => cases hx
  rename_i h0
  split at hx
  case isFalse => cases hx
  rename_i h1
  split at hx
  case isFalse => cases hx
  rename_i h2
  cases hx
  refine (Go.Proofs.Any.strings_Trim_laid Go.Proofs.Tryz.lays160 (by kernel_rfl) a0 a1 w h0 (by omega) (Go.Proofs.ascii_of_all h2)).mono ?_
  rintro e w' ⟨rfl, hb⟩
  exact ⟨_, rfl, hb, fun _ _ _ _ => rfl⟩

def impl_isType.a : FnA (Bool) := ⟨11, [.tmp 2], .bool, [], [], fun x H => match x, H with
  | .bs false r, [] => some r
  | _, _ => none⟩
def impl_isType.s : Spec := mkS [.val] (fun k avs H => match avs, H with
  | [.v (.string a0)], [] => some (impl_isType.f a0)
  | _, _ => none) (fun r => (.bs false r, []))
def impl_isType.E : Env := [((79, []), impl_within.s), ((101, []), strings_Trim.s)]
def impl_isType.G (k p : Nat) (avs : List AV) (H : List HE) : Option (Bool) := none
set_option maxRecDepth 100000 in
theorem impl_isType.eq (k : Nat) (a0 : ByteArray) : fromTop Tryz.prog impl_isType.E k impl_isType.a (impl_isType.G k) 1000 (bodyOf Tryz.prog 59) [.v (.string a0)] [] = impl_isType.f a0 := by kernel_rfl
theorem impl_isType.E_ok : EnvOk Tryz.prog impl_isType.E := ⟨⟨impl_within.sound, callable_of (by kernel_rfl)⟩, ⟨strings_Trim.sound, callable_of (by kernel_rfl)⟩, trivial⟩
theorem impl_isType.sound : Sound Tryz.prog 59 impl_isType.s := by
  refine func_sound (f := impl_isType.a) (G := impl_isType.G) (fn := Tryz.f59) (body := bodyOf Tryz.prog 59) 1000 (by kernel_rfl) impl_isType.E_ok Tryz.func59 (by kernel_rfl) (by kernel_rfl) (by kernel_rfl) (ptsOk_of (by kernel_rfl)) ?_ ?_ ?_ ?_
  · intro r H x h
    unfold impl_isType.a at h
    simp only at h
    split at h
    · cases h; rfl
    · cases h
  · intro q avs H; rfl
  · intro k q pt avs H x _ h; cases h
  · intro k avs H o h
    try dsimp only at h
    split at h
    · cases h; exact impl_isType.eq _ _
    · cases h

def impl_TypesOk_1.a : FnA (Bool) := ⟨6, [.tmp 2], .bool, [], [], fun x H => match x, H with
  | .bs false r, [] => some r
  | _, _ => none⟩
def impl_TypesOk_1.s : Spec := mkS [.val] (fun k avs H => match avs, H with
  | [.v (.string a0)], [] => some (impl_TypesOk_1.f a0)
  | _, _ => none) (fun r => (.bs false r, []))
def impl_TypesOk_1.E : Env := [((59, []), impl_isType.s)]
def impl_TypesOk_1.G (k p : Nat) (avs : List AV) (H : List HE) : Option (Bool) := none
set_option maxRecDepth 100000 in
theorem impl_TypesOk_1.eq (k : Nat) (a0 : ByteArray) : fromTop Tryz.prog impl_TypesOk_1.E k impl_TypesOk_1.a (impl_TypesOk_1.G k) 1000 (bodyOf Tryz.prog 144) [.v (.string a0)] [] = impl_TypesOk_1.f a0 := by kernel_rfl
theorem impl_TypesOk_1.E_ok : EnvOk Tryz.prog impl_TypesOk_1.E := ⟨⟨impl_isType.sound, callable_of (by kernel_rfl)⟩, trivial⟩
theorem impl_TypesOk_1.sound : Sound Tryz.prog 144 impl_TypesOk_1.s := by
  refine func_sound (f := impl_TypesOk_1.a) (G := impl_TypesOk_1.G) (fn := Tryz.f144) (body := bodyOf Tryz.prog 144) 1000 (by kernel_rfl) impl_TypesOk_1.E_ok Tryz.func144 (by kernel_rfl) (by kernel_rfl) (by kernel_rfl) (ptsOk_of (by kernel_rfl)) ?_ ?_ ?_ ?_
  · intro r H x h
    unfold impl_TypesOk_1.a at h
    simp only at h
    split at h
    · cases h; rfl
    · cases h
  · intro q avs H; rfl
  · intro k q pt avs H x _ h; cases h
  · intro k avs H o h
    try dsimp only at h
    split at h
    · cases h; exact impl_TypesOk_1.eq _ _
    · cases h

def slices_IndexFunc_string_at_impl_TypesOk_1.a : FnA (Int) := ⟨19, [.tmp 4], .val, [], [⟨6, [0, 1, 7, 8], [.con .str, .fn 144 0 [], .val, .val], []⟩], fun x H => match x, H with
  | .v (.int .i64 r), [] => some r
  | _, _ => none⟩
def slices_IndexFunc_string_at_impl_TypesOk_1.s : Spec := mkS [.con .str, .fn 144 0 []] (fun k avs H => match avs, H with
  | [.con .str a0, .fn 144 0 []], [] => some (slices_IndexFunc_string_at_impl_TypesOk_1.f k a0)
  | _, _ => none) (fun r => (.v (.int .i64 r), []))
def slices_IndexFunc_string_at_impl_TypesOk_1.E : Env := [((144, []), impl_TypesOk_1.s)]
def slices_IndexFunc_string_at_impl_TypesOk_1.G6 (k : Nat) (avs : List AV) (H : List HE) : Option (Int) := match avs, H with
  | [.con .str x0, .fn 144 0 [], .v (.int .i64 x7), .v (.int .i64 x8)], [] => slices_IndexFunc_string_at_impl_TypesOk_1.p6 k x0 x7 x8
  | _, _ => none
def slices_IndexFunc_string_at_impl_TypesOk_1.G (k p : Nat) (avs : List AV) (H : List HE) : Option (Int) := (pick1 6 (slices_IndexFunc_string_at_impl_TypesOk_1.G6 k avs H) none p)
set_option maxRecDepth 100000 in
theorem slices_IndexFunc_string_at_impl_TypesOk_1.eq (k : Nat) (a0 : List ByteArray) : fromTop Tryz.prog slices_IndexFunc_string_at_impl_TypesOk_1.E k slices_IndexFunc_string_at_impl_TypesOk_1.a (slices_IndexFunc_string_at_impl_TypesOk_1.G k) 1000 (bodyOf Tryz.prog 159) [.con .str a0, .fn 144 0 []] [] = slices_IndexFunc_string_at_impl_TypesOk_1.f k a0 := by kernel_rfl
set_option maxRecDepth 100000 in
theorem slices_IndexFunc_string_at_impl_TypesOk_1.eq6 (k : Nat) (x0 : List ByteArray) (x7 : Int) (x8 : Int) : fromPt Tryz.prog slices_IndexFunc_string_at_impl_TypesOk_1.E k slices_IndexFunc_string_at_impl_TypesOk_1.a (slices_IndexFunc_string_at_impl_TypesOk_1.G k) 1000 (bodyOf Tryz.prog 159) 6 [.con .str x0, .fn 144 0 [], .v (.int .i64 x7), .v (.int .i64 x8)] [] = slices_IndexFunc_string_at_impl_TypesOk_1.p6 (k + 1) x0 x7 x8 := by kernel_rfl
theorem slices_IndexFunc_string_at_impl_TypesOk_1.G6_0 {avs : List AV} {H : List HE} : slices_IndexFunc_string_at_impl_TypesOk_1.G6 0 avs H = none := by unfold slices_IndexFunc_string_at_impl_TypesOk_1.G6; split <;> rfl
theorem slices_IndexFunc_string_at_impl_TypesOk_1.G6_s (k : Nat) {avs : List AV} {H : List HE} {x : Int} (h : slices_IndexFunc_string_at_impl_TypesOk_1.G6 (k + 1) avs H = some x) : fromPt Tryz.prog slices_IndexFunc_string_at_impl_TypesOk_1.E k slices_IndexFunc_string_at_impl_TypesOk_1.a (slices_IndexFunc_string_at_impl_TypesOk_1.G k) 1000 (bodyOf Tryz.prog 159) 6 avs H = some x := by
  unfold slices_IndexFunc_string_at_impl_TypesOk_1.G6 at h
  split at h
  · rw [← h]; exact slices_IndexFunc_string_at_impl_TypesOk_1.eq6 _ _ _ _
  · cases h
theorem slices_IndexFunc_string_at_impl_TypesOk_1.E_ok : EnvOk Tryz.prog slices_IndexFunc_string_at_impl_TypesOk_1.E := ⟨⟨impl_TypesOk_1.sound, callable_of (by kernel_rfl)⟩, trivial⟩
theorem slices_IndexFunc_string_at_impl_TypesOk_1.sound : Sound Tryz.prog 159 slices_IndexFunc_string_at_impl_TypesOk_1.s := by
  refine func_sound (f := slices_IndexFunc_string_at_impl_TypesOk_1.a) (G := slices_IndexFunc_string_at_impl_TypesOk_1.G) (fn := Tryz.f159) (body := bodyOf Tryz.prog 159) 1000 (by kernel_rfl) slices_IndexFunc_string_at_impl_TypesOk_1.E_ok Tryz.func159 (by kernel_rfl) (by kernel_rfl) (by kernel_rfl) (ptsOk_of (by kernel_rfl)) ?_ ?_ ?_ ?_
  · intro r H x h
    unfold slices_IndexFunc_string_at_impl_TypesOk_1.a at h
    simp only at h
    split at h
    · cases h; rfl
    · cases h
  · exact fun q avs H => pick1_none slices_IndexFunc_string_at_impl_TypesOk_1.G6_0 (rfl)
  · intro k q pt avs H x _ h
    rcases pick1_some h with ⟨rfl, h⟩ | h
    · exact slices_IndexFunc_string_at_impl_TypesOk_1.G6_s _ h
    cases h
  · intro k avs H o h
    try dsimp only at h
    split at h
    · cases h; exact slices_IndexFunc_string_at_impl_TypesOk_1.eq _ _
    · cases h

def slices_ContainsFunc_string_at_impl_TypesOk_1.a : FnA (Bool) := ⟨9, [.tmp 4], .bool, [], [], fun x H => match x, H with
  | .bs false r, [] => some r
  | _, _ => none⟩
def slices_ContainsFunc_string_at_impl_TypesOk_1.s : Spec := mkS [.con .str, .fn 144 0 []] (fun k avs H => match avs, H with
  | [.con .str a0, .fn 144 0 []], [] => some (slices_ContainsFunc_string_at_impl_TypesOk_1.f k a0)
  | _, _ => none) (fun r => (.bs false r, []))
def slices_ContainsFunc_string_at_impl_TypesOk_1.E : Env := [((159, [144]), slices_IndexFunc_string_at_impl_TypesOk_1.s)]
def slices_ContainsFunc_string_at_impl_TypesOk_1.G (k p : Nat) (avs : List AV) (H : List HE) : Option (Bool) := none
set_option maxRecDepth 100000 in
theorem slices_ContainsFunc_string_at_impl_TypesOk_1.eq (k : Nat) (a0 : List ByteArray) : fromTop Tryz.prog slices_ContainsFunc_string_at_impl_TypesOk_1.E k slices_ContainsFunc_string_at_impl_TypesOk_1.a (slices_ContainsFunc_string_at_impl_TypesOk_1.G k) 1000 (bodyOf Tryz.prog 143) [.con .str a0, .fn 144 0 []] [] = slices_ContainsFunc_string_at_impl_TypesOk_1.f k a0 := by kernel_rfl
theorem slices_ContainsFunc_string_at_impl_TypesOk_1.E_ok : EnvOk Tryz.prog slices_ContainsFunc_string_at_impl_TypesOk_1.E := ⟨⟨slices_IndexFunc_string_at_impl_TypesOk_1.sound, callable_of (by kernel_rfl)⟩, trivial⟩
theorem slices_ContainsFunc_string_at_impl_TypesOk_1.sound : Sound Tryz.prog 143 slices_ContainsFunc_string_at_impl_TypesOk_1.s := by
  refine func_sound (f := slices_ContainsFunc_string_at_impl_TypesOk_1.a) (G := slices_ContainsFunc_string_at_impl_TypesOk_1.G) (fn := Tryz.f143) (body := bodyOf Tryz.prog 143) 1000 (by kernel_rfl) slices_ContainsFunc_string_at_impl_TypesOk_1.E_ok Tryz.func143 (by kernel_rfl) (by kernel_rfl) (by kernel_rfl) (ptsOk_of (by kernel_rfl)) ?_ ?_ ?_ ?_
  · intro r H x h
    unfold slices_ContainsFunc_string_at_impl_TypesOk_1.a at h
    simp only at h
    split at h
    · cases h; rfl
    · cases h
  · intro q avs H; rfl
  · intro k q pt avs H x _ h; cases h
  · intro k avs H o h
    try dsimp only at h
    split at h
    · cases h; exact slices_ContainsFunc_string_at_impl_TypesOk_1.eq _ _
    · cases h

def impl_TypesOk.a : FnA (Bool) := ⟨11, [.tmp 2], .bool, [], [], fun x H => match x, H with
  | .bs false r, [] => some r
  | _, _ => none⟩
def impl_TypesOk.s : Spec := mkS [.con .str] (fun k avs H => match avs, H with
  | [.con .str a0], [] => some (impl_TypesOk.f k a0)
  | _, _ => none) (fun r => (.bs false r, []))
def impl_TypesOk.E : Env := [((97, []), impl_size_string.s), ((79, []), impl_within.s), ((143, [144]), slices_ContainsFunc_string_at_impl_TypesOk_1.s)]
def impl_TypesOk.G (k p : Nat) (avs : List AV) (H : List HE) : Option (Bool) := none
set_option maxRecDepth 100000 in
theorem impl_TypesOk.eq (k : Nat) (a0 : List ByteArray) : fromTop Tryz.prog impl_TypesOk.E k impl_TypesOk.a (impl_TypesOk.G k) 1000 (bodyOf Tryz.prog 121) [.con .str a0] [] = impl_TypesOk.f k a0 := by kernel_rfl
theorem impl_TypesOk.E_ok : EnvOk Tryz.prog impl_TypesOk.E := ⟨⟨impl_size_string.sound, callable_of (by kernel_rfl)⟩, ⟨impl_within.sound, callable_of (by kernel_rfl)⟩, ⟨slices_ContainsFunc_string_at_impl_TypesOk_1.sound, callable_of (by kernel_rfl)⟩, trivial⟩
theorem impl_TypesOk.sound : Sound Tryz.prog 121 impl_TypesOk.s := by
  refine func_sound (f := impl_TypesOk.a) (G := impl_TypesOk.G) (fn := Tryz.f121) (body := bodyOf Tryz.prog 121) 1000 (by kernel_rfl) impl_TypesOk.E_ok Tryz.func121 (by kernel_rfl) (by kernel_rfl) (by kernel_rfl) (ptsOk_of (by kernel_rfl)) ?_ ?_ ?_ ?_
  · intro r H x h
    unfold impl_TypesOk.a at h
    simp only at h
    split at h
    · cases h; rfl
    · cases h
  · intro q avs H; rfl
  · intro k q pt avs H x _ h; cases h
  · intro k avs H o h
    try dsimp only at h
    split at h
    · cases h; exact impl_TypesOk.eq _ _
    · cases h

def impl_ConfigOk.a : FnA (Bool) := ⟨25, [.tmp 2], .bool, [], [], fun x H => match x, H with
  | .bs false r, [] => some r
  | _, _ => none⟩
def impl_ConfigOk.s : Spec := mkS [.agg [.val, .val, .val, .con .str]] (fun k avs H => match avs, H with
  | [.agg [.v (.int .i64 a0_0), .v (.int .i64 a0_1), .v (.int .i64 a0_2), .con .str a0_3]], [] => some (impl_ConfigOk.f k a0_0 a0_1 a0_2 a0_3)
  | _, _ => none) (fun r => (.bs false r, []))
def impl_ConfigOk.E : Env := [((79, []), impl_within.s), ((121, []), impl_TypesOk.s)]
def impl_ConfigOk.G (k p : Nat) (avs : List AV) (H : List HE) : Option (Bool) := none
set_option maxRecDepth 100000 in
theorem impl_ConfigOk.eq (k : Nat) (a0_0 : Int) (a0_1 : Int) (a0_2 : Int) (a0_3 : List ByteArray) : fromTop Tryz.prog impl_ConfigOk.E k impl_ConfigOk.a (impl_ConfigOk.G k) 1000 (bodyOf Tryz.prog 94) [.agg [.v (.int .i64 a0_0), .v (.int .i64 a0_1), .v (.int .i64 a0_2), .con .str a0_3]] [] = impl_ConfigOk.f k a0_0 a0_1 a0_2 a0_3 := by kernel_rfl
theorem impl_ConfigOk.E_ok : EnvOk Tryz.prog impl_ConfigOk.E := ⟨⟨impl_within.sound, callable_of (by kernel_rfl)⟩, ⟨impl_TypesOk.sound, callable_of (by kernel_rfl)⟩, trivial⟩
theorem impl_ConfigOk.sound : Sound Tryz.prog 94 impl_ConfigOk.s := by
  refine func_sound (f := impl_ConfigOk.a) (G := impl_ConfigOk.G) (fn := Tryz.f94) (body := bodyOf Tryz.prog 94) 1000 (by kernel_rfl) impl_ConfigOk.E_ok Tryz.func94 (by kernel_rfl) (by kernel_rfl) (by kernel_rfl) (ptsOk_of (by kernel_rfl)) ?_ ?_ ?_ ?_
  · intro r H x h
    unfold impl_ConfigOk.a at h
    simp only at h
    split at h
    · cases h; rfl
    · cases h
  · intro q avs H; rfl
  · intro k q pt avs H x _ h; cases h
  · intro k avs H o h
    try dsimp only at h
    split at h
    · cases h; exact impl_ConfigOk.eq _ _ _ _ _
    · cases h

def impl_isImage.a : FnA (Bool) := ⟨15, [.tmp 4], .bool, [], [], fun x H => match x, H with
  | .bs false r, [] => some r
  | _, _ => none⟩
def impl_isImage.s : Spec := mkS [.agg [.val, .val, .val, .con .str], .val] (fun k avs H => match avs, H with
  | [.agg [.v (.int .i64 a0_0), .v (.int .i64 a0_1), .v (.int .i64 a0_2), .con .str a0_3], .v (.string a1)], [] => some (impl_isImage.f k a0_0 a0_1 a0_2 a0_3 a1)
  | _, _ => none) (fun r => (.bs false r, []))
def impl_isImage.E : Env := [((94, []), impl_ConfigOk.s)]
def impl_isImage.G (k p : Nat) (avs : List AV) (H : List HE) : Option (Bool) := none
set_option maxRecDepth 100000 in
theorem impl_isImage.eq (k : Nat) (a0_0 : Int) (a0_1 : Int) (a0_2 : Int) (a0_3 : List ByteArray) (a1 : ByteArray) : fromTop Tryz.prog impl_isImage.E k impl_isImage.a (impl_isImage.G k) 1000 (bodyOf Tryz.prog 57) [.agg [.v (.int .i64 a0_0), .v (.int .i64 a0_1), .v (.int .i64 a0_2), .con .str a0_3], .v (.string a1)] [] = impl_isImage.f k a0_0 a0_1 a0_2 a0_3 a1 := by kernel_rfl
theorem impl_isImage.E_ok : EnvOk Tryz.prog impl_isImage.E := ⟨⟨impl_ConfigOk.sound, callable_of (by kernel_rfl)⟩, trivial⟩
theorem impl_isImage.sound : Sound Tryz.prog 57 impl_isImage.s := by
  refine func_sound (f := impl_isImage.a) (G := impl_isImage.G) (fn := Tryz.f57) (body := bodyOf Tryz.prog 57) 1000 (by kernel_rfl) impl_isImage.E_ok Tryz.func57 (by kernel_rfl) (by kernel_rfl) (by kernel_rfl) (ptsOk_of (by kernel_rfl)) ?_ ?_ ?_ ?_
  · intro r H x h
    unfold impl_isImage.a at h
    simp only at h
    split at h
    · cases h; rfl
    · cases h
  · intro q avs H; rfl
  · intro k q pt avs H x _ h; cases h
  · intro k avs H o h
    try dsimp only at h
    split at h
    · cases h; exact impl_isImage.eq _ _ _ _ _ _
    · cases h

def impl_RefKind.a : FnA (Int) := ⟨22, [.tmp 2], .val, [], [], fun x H => match x, H with
  | .v (.int .i64 r), [] => some r
  | _, _ => none⟩
def impl_RefKind.s : Spec := mkS [.val] (fun k avs H => match avs, H with
  | [.v (.int .i64 a0)], [] => some (impl_RefKind.f a0)
  | _, _ => none) (fun r => (.v (.int .i64 r), []))
def impl_RefKind.E : Env := [((79, []), impl_within.s)]
def impl_RefKind.G (k p : Nat) (avs : List AV) (H : List HE) : Option (Int) := none
set_option maxRecDepth 100000 in
theorem impl_RefKind.eq (k : Nat) (a0 : Int) : fromTop Tryz.prog impl_RefKind.E k impl_RefKind.a (impl_RefKind.G k) 1000 (bodyOf Tryz.prog 102) [.v (.int .i64 a0)] [] = impl_RefKind.f a0 := by kernel_rfl
theorem impl_RefKind.E_ok : EnvOk Tryz.prog impl_RefKind.E := ⟨⟨impl_within.sound, callable_of (by kernel_rfl)⟩, trivial⟩
theorem impl_RefKind.sound : Sound Tryz.prog 102 impl_RefKind.s := by
  refine func_sound (f := impl_RefKind.a) (G := impl_RefKind.G) (fn := Tryz.f102) (body := bodyOf Tryz.prog 102) 1000 (by kernel_rfl) impl_RefKind.E_ok Tryz.func102 (by kernel_rfl) (by kernel_rfl) (by kernel_rfl) (ptsOk_of (by kernel_rfl)) ?_ ?_ ?_ ?_
  · intro r H x h
    unfold impl_RefKind.a at h
    simp only at h
    split at h
    · cases h; rfl
    · cases h
  · intro q avs H; rfl
  · intro k q pt avs H x _ h; cases h
  · intro k avs H o h
    try dsimp only at h
    split at h
    · cases h; exact impl_RefKind.eq _ _
    · cases h

def impl_isOld.a : FnA (Bool) := ⟨6, [.tmp 2], .bool, [], [], fun x H => match x, H with
  | .bs false r, [] => some r
  | _, _ => none⟩
def impl_isOld.s : Spec := mkS [.val] (fun k avs H => match avs, H with
  | [.v (.int .i64 a0)], [] => some (impl_isOld.f a0)
  | _, _ => none) (fun r => (.bs false r, []))
def impl_isOld.E : Env := [((102, []), impl_RefKind.s)]
def impl_isOld.G (k p : Nat) (avs : List AV) (H : List HE) : Option (Bool) := none
set_option maxRecDepth 100000 in
theorem impl_isOld.eq (k : Nat) (a0 : Int) : fromTop Tryz.prog impl_isOld.E k impl_isOld.a (impl_isOld.G k) 1000 (bodyOf Tryz.prog 61) [.v (.int .i64 a0)] [] = impl_isOld.f a0 := by kernel_rfl
theorem impl_isOld.E_ok : EnvOk Tryz.prog impl_isOld.E := ⟨⟨impl_RefKind.sound, callable_of (by kernel_rfl)⟩, trivial⟩
theorem impl_isOld.sound : Sound Tryz.prog 61 impl_isOld.s := by
  refine func_sound (f := impl_isOld.a) (G := impl_isOld.G) (fn := Tryz.f61) (body := bodyOf Tryz.prog 61) 1000 (by kernel_rfl) impl_isOld.E_ok Tryz.func61 (by kernel_rfl) (by kernel_rfl) (by kernel_rfl) (ptsOk_of (by kernel_rfl)) ?_ ?_ ?_ ?_
  · intro r H x h
    unfold impl_isOld.a at h
    simp only at h
    split at h
    · cases h; rfl
    · cases h
  · intro q avs H; rfl
  · intro k q pt avs H x _ h; cases h
  · intro k avs H o h
    try dsimp only at h
    split at h
    · cases h; exact impl_isOld.eq _ _
    · cases h

def impl_isData.a : FnA (Bool) := ⟨13, [.tmp 4], .bool, [], [], fun x H => match x, H with
  | .bs false r, [] => some r
  | _, _ => none⟩
def impl_isData.s : Spec := mkS [.agg [.val, .val, .val, .con .str], .val] (fun k avs H => match avs, H with
  | [.agg [.v (.int .i64 a0_0), .v (.int .i64 a0_1), .v (.int .i64 a0_2), .con .str a0_3], .v (.int .i64 a1)], [] => some (impl_isData.f a0_0 a0_1 a0_2 a0_3 a1)
  | _, _ => none) (fun r => (.bs false r, []))
def impl_isData.E : Env := [((79, []), impl_within.s)]
def impl_isData.G (k p : Nat) (avs : List AV) (H : List HE) : Option (Bool) := none
set_option maxRecDepth 100000 in
theorem impl_isData.eq (k : Nat) (a0_0 : Int) (a0_1 : Int) (a0_2 : Int) (a0_3 : List ByteArray) (a1 : Int) : fromTop Tryz.prog impl_isData.E k impl_isData.a (impl_isData.G k) 1000 (bodyOf Tryz.prog 95) [.agg [.v (.int .i64 a0_0), .v (.int .i64 a0_1), .v (.int .i64 a0_2), .con .str a0_3], .v (.int .i64 a1)] [] = impl_isData.f a0_0 a0_1 a0_2 a0_3 a1 := by kernel_rfl
theorem impl_isData.E_ok : EnvOk Tryz.prog impl_isData.E := ⟨⟨impl_within.sound, callable_of (by kernel_rfl)⟩, trivial⟩
theorem impl_isData.sound : Sound Tryz.prog 95 impl_isData.s := by
  refine func_sound (f := impl_isData.a) (G := impl_isData.G) (fn := Tryz.f95) (body := bodyOf Tryz.prog 95) 1000 (by kernel_rfl) impl_isData.E_ok Tryz.func95 (by kernel_rfl) (by kernel_rfl) (by kernel_rfl) (ptsOk_of (by kernel_rfl)) ?_ ?_ ?_ ?_
  · intro r H x h
    unfold impl_isData.a at h
    simp only at h
    split at h
    · cases h; rfl
    · cases h
  · intro q avs H; rfl
  · intro k q pt avs H x _ h; cases h
  · intro k avs H o h
    try dsimp only at h
    split at h
    · cases h; exact impl_isData.eq _ _ _ _ _ _
    · cases h

def impl_isDataRef.a : FnA (Bool) := ⟨17, [.tmp 4], .bool, [], [], fun x H => match x, H with
  | .bs false r, [] => some r
  | _, _ => none⟩
def impl_isDataRef.s : Spec := mkS [.agg [.val, .val, .val, .con .str], .val] (fun k avs H => match avs, H with
  | [.agg [.v (.int .i64 a0_0), .v (.int .i64 a0_1), .v (.int .i64 a0_2), .con .str a0_3], .v (.int .i64 a1)], [] => some (impl_isDataRef.f a0_0 a0_1 a0_2 a0_3 a1)
  | _, _ => none) (fun r => (.bs false r, []))
def impl_isDataRef.E : Env := [((61, []), impl_isOld.s), ((95, []), impl_isData.s)]
def impl_isDataRef.G (k p : Nat) (avs : List AV) (H : List HE) : Option (Bool) := none
set_option maxRecDepth 100000 in
theorem impl_isDataRef.eq (k : Nat) (a0_0 : Int) (a0_1 : Int) (a0_2 : Int) (a0_3 : List ByteArray) (a1 : Int) : fromTop Tryz.prog impl_isDataRef.E k impl_isDataRef.a (impl_isDataRef.G k) 1000 (bodyOf Tryz.prog 68) [.agg [.v (.int .i64 a0_0), .v (.int .i64 a0_1), .v (.int .i64 a0_2), .con .str a0_3], .v (.int .i64 a1)] [] = impl_isDataRef.f a0_0 a0_1 a0_2 a0_3 a1 := by kernel_rfl
theorem impl_isDataRef.E_ok : EnvOk Tryz.prog impl_isDataRef.E := ⟨⟨impl_isOld.sound, callable_of (by kernel_rfl)⟩, ⟨impl_isData.sound, callable_of (by kernel_rfl)⟩, trivial⟩
theorem impl_isDataRef.sound : Sound Tryz.prog 68 impl_isDataRef.s := by
  refine func_sound (f := impl_isDataRef.a) (G := impl_isDataRef.G) (fn := Tryz.f68) (body := bodyOf Tryz.prog 68) 1000 (by kernel_rfl) impl_isDataRef.E_ok Tryz.func68 (by kernel_rfl) (by kernel_rfl) (by kernel_rfl) (ptsOk_of (by kernel_rfl)) ?_ ?_ ?_ ?_
  · intro r H x h
    unfold impl_isDataRef.a at h
    simp only at h
    split at h
    · cases h; rfl
    · cases h
  · intro q avs H; rfl
  · intro k q pt avs H x _ h; cases h
  · intro k avs H o h
    try dsimp only at h
    split at h
    · cases h; exact impl_isDataRef.eq _ _ _ _ _ _
    · cases h

def impl_walked_1.a : FnA (Bool) := ⟨8, [.tmp 3], .bool, [], [], fun x H => match x, H with
  | .bs false r, [] => some r
  | _, _ => none⟩
def impl_walked_1.s : Spec := mkS [.val, .elt (.pair (.int .i64) (.pair (.int .i64) (.pair (.int .i64) (.sl .str))))] (fun k avs H => match avs, H with
  | [.v (.int .i64 a0), .elt (.pair (.int .i64) (.pair (.int .i64) (.pair (.int .i64) (.sl .str)))) a1 0], [] => some (impl_walked_1.f a0 a1)
  | _, _ => none) (fun r => (.bs false r, []))
def impl_walked_1.E : Env := [((68, []), impl_isDataRef.s)]
def impl_walked_1.G (k p : Nat) (avs : List AV) (H : List HE) : Option (Bool) := none
set_option maxRecDepth 100000 in
theorem impl_walked_1.eq (k : Nat) (a0 : Int) (a1 : Int × Int × Int × List ByteArray) : fromTop Tryz.prog impl_walked_1.E k impl_walked_1.a (impl_walked_1.G k) 1000 (bodyOf Tryz.prog 67) [.v (.int .i64 a0), .elt (.pair (.int .i64) (.pair (.int .i64) (.pair (.int .i64) (.sl .str)))) a1 0] [] = impl_walked_1.f a0 a1 := by kernel_rfl
theorem impl_walked_1.E_ok : EnvOk Tryz.prog impl_walked_1.E := ⟨⟨impl_isDataRef.sound, callable_of (by kernel_rfl)⟩, trivial⟩
theorem impl_walked_1.sound : Sound Tryz.prog 67 impl_walked_1.s := by
  refine func_sound (f := impl_walked_1.a) (G := impl_walked_1.G) (fn := Tryz.f67) (body := bodyOf Tryz.prog 67) 1000 (by kernel_rfl) impl_walked_1.E_ok Tryz.func67 (by kernel_rfl) (by kernel_rfl) (by kernel_rfl) (ptsOk_of (by kernel_rfl)) ?_ ?_ ?_ ?_
  · intro r H x h
    unfold impl_walked_1.a at h
    simp only at h
    split at h
    · cases h; rfl
    · cases h
  · intro q avs H; rfl
  · intro k q pt avs H x _ h; cases h
  · intro k avs H o h
    try dsimp only at h
    split at h
    · cases h; exact impl_walked_1.eq _ _ _
    · cases h

def slices_IndexFunc_int64_at_impl_walked_1.a : FnA (Int) := ⟨19, [.tmp 4], .val, [], [⟨6, [0, 1, 7, 8], [.con (.int .i64), .fn 67 0 [.elt (.pair (.int .i64) (.pair (.int .i64) (.pair (.int .i64) (.sl .str))))], .val, .val], []⟩], fun x H => match x, H with
  | .v (.int .i64 r), [] => some r
  | _, _ => none⟩
def slices_IndexFunc_int64_at_impl_walked_1.s : Spec := mkS [.con (.int .i64), .fn 67 0 [.elt (.pair (.int .i64) (.pair (.int .i64) (.pair (.int .i64) (.sl .str))))]] (fun k avs H => match avs, H with
  | [.con (.int .i64) a0, .fn 67 0 [.elt (.pair (.int .i64) (.pair (.int .i64) (.pair (.int .i64) (.sl .str)))) a1_0 0]], [] => some (slices_IndexFunc_int64_at_impl_walked_1.f k a0 a1_0)
  | _, _ => none) (fun r => (.v (.int .i64 r), []))
def slices_IndexFunc_int64_at_impl_walked_1.E : Env := [((67, []), impl_walked_1.s)]
def slices_IndexFunc_int64_at_impl_walked_1.G6 (k : Nat) (avs : List AV) (H : List HE) : Option (Int) := match avs, H with
  | [.con (.int .i64) x0, .fn 67 0 [.elt (.pair (.int .i64) (.pair (.int .i64) (.pair (.int .i64) (.sl .str)))) x1_0 0], .v (.int .i64 x7), .v (.int .i64 x8)], [] => slices_IndexFunc_int64_at_impl_walked_1.p6 k x0 x1_0 x7 x8
  | _, _ => none
def slices_IndexFunc_int64_at_impl_walked_1.G (k p : Nat) (avs : List AV) (H : List HE) : Option (Int) := (pick1 6 (slices_IndexFunc_int64_at_impl_walked_1.G6 k avs H) none p)
set_option maxRecDepth 100000 in
theorem slices_IndexFunc_int64_at_impl_walked_1.eq (k : Nat) (a0 : List Int) (a1_0 : Int × Int × Int × List ByteArray) : fromTop Tryz.prog slices_IndexFunc_int64_at_impl_walked_1.E k slices_IndexFunc_int64_at_impl_walked_1.a (slices_IndexFunc_int64_at_impl_walked_1.G k) 1000 (bodyOf Tryz.prog 104) [.con (.int .i64) a0, .fn 67 0 [.elt (.pair (.int .i64) (.pair (.int .i64) (.pair (.int .i64) (.sl .str)))) a1_0 0]] [] = slices_IndexFunc_int64_at_impl_walked_1.f k a0 a1_0 := by kernel_rfl
set_option maxRecDepth 100000 in
theorem slices_IndexFunc_int64_at_impl_walked_1.eq6 (k : Nat) (x0 : List Int) (x1_0 : Int × Int × Int × List ByteArray) (x7 : Int) (x8 : Int) : fromPt Tryz.prog slices_IndexFunc_int64_at_impl_walked_1.E k slices_IndexFunc_int64_at_impl_walked_1.a (slices_IndexFunc_int64_at_impl_walked_1.G k) 1000 (bodyOf Tryz.prog 104) 6 [.con (.int .i64) x0, .fn 67 0 [.elt (.pair (.int .i64) (.pair (.int .i64) (.pair (.int .i64) (.sl .str)))) x1_0 0], .v (.int .i64 x7), .v (.int .i64 x8)] [] = slices_IndexFunc_int64_at_impl_walked_1.p6 (k + 1) x0 x1_0 x7 x8 := by kernel_rfl
theorem slices_IndexFunc_int64_at_impl_walked_1.G6_0 {avs : List AV} {H : List HE} : slices_IndexFunc_int64_at_impl_walked_1.G6 0 avs H = none := by unfold slices_IndexFunc_int64_at_impl_walked_1.G6; split <;> rfl
theorem slices_IndexFunc_int64_at_impl_walked_1.G6_s (k : Nat) {avs : List AV} {H : List HE} {x : Int} (h : slices_IndexFunc_int64_at_impl_walked_1.G6 (k + 1) avs H = some x) : fromPt Tryz.prog slices_IndexFunc_int64_at_impl_walked_1.E k slices_IndexFunc_int64_at_impl_walked_1.a (slices_IndexFunc_int64_at_impl_walked_1.G k) 1000 (bodyOf Tryz.prog 104) 6 avs H = some x := by
  unfold slices_IndexFunc_int64_at_impl_walked_1.G6 at h
  split at h
  · rw [← h]; exact slices_IndexFunc_int64_at_impl_walked_1.eq6 _ _ _ _ _
  · cases h
theorem slices_IndexFunc_int64_at_impl_walked_1.E_ok : EnvOk Tryz.prog slices_IndexFunc_int64_at_impl_walked_1.E := ⟨⟨impl_walked_1.sound, callable_of (by kernel_rfl)⟩, trivial⟩
theorem slices_IndexFunc_int64_at_impl_walked_1.sound : Sound Tryz.prog 104 slices_IndexFunc_int64_at_impl_walked_1.s := by
  refine func_sound (f := slices_IndexFunc_int64_at_impl_walked_1.a) (G := slices_IndexFunc_int64_at_impl_walked_1.G) (fn := Tryz.f104) (body := bodyOf Tryz.prog 104) 1000 (by kernel_rfl) slices_IndexFunc_int64_at_impl_walked_1.E_ok Tryz.func104 (by kernel_rfl) (by kernel_rfl) (by kernel_rfl) (ptsOk_of (by kernel_rfl)) ?_ ?_ ?_ ?_
  · intro r H x h
    unfold slices_IndexFunc_int64_at_impl_walked_1.a at h
    simp only at h
    split at h
    · cases h; rfl
    · cases h
  · exact fun q avs H => pick1_none slices_IndexFunc_int64_at_impl_walked_1.G6_0 (rfl)
  · intro k q pt avs H x _ h
    rcases pick1_some h with ⟨rfl, h⟩ | h
    · exact slices_IndexFunc_int64_at_impl_walked_1.G6_s _ h
    cases h
  · intro k avs H o h
    try dsimp only at h
    split at h
    · cases h; exact slices_IndexFunc_int64_at_impl_walked_1.eq _ _ _
    · cases h

def slices_ContainsFunc_int64_at_impl_walked_1.a : FnA (Bool) := ⟨9, [.tmp 4], .bool, [], [], fun x H => match x, H with
  | .bs false r, [] => some r
  | _, _ => none⟩
def slices_ContainsFunc_int64_at_impl_walked_1.s : Spec := mkS [.con (.int .i64), .fn 67 0 [.elt (.pair (.int .i64) (.pair (.int .i64) (.pair (.int .i64) (.sl .str))))]] (fun k avs H => match avs, H with
  | [.con (.int .i64) a0, .fn 67 0 [.elt (.pair (.int .i64) (.pair (.int .i64) (.pair (.int .i64) (.sl .str)))) a1_0 0]], [] => some (slices_ContainsFunc_int64_at_impl_walked_1.f k a0 a1_0)
  | _, _ => none) (fun r => (.bs false r, []))
def slices_ContainsFunc_int64_at_impl_walked_1.E : Env := [((104, [67]), slices_IndexFunc_int64_at_impl_walked_1.s)]
def slices_ContainsFunc_int64_at_impl_walked_1.G (k p : Nat) (avs : List AV) (H : List HE) : Option (Bool) := none
set_option maxRecDepth 100000 in
theorem slices_ContainsFunc_int64_at_impl_walked_1.eq (k : Nat) (a0 : List Int) (a1_0 : Int × Int × Int × List ByteArray) : fromTop Tryz.prog slices_ContainsFunc_int64_at_impl_walked_1.E k slices_ContainsFunc_int64_at_impl_walked_1.a (slices_ContainsFunc_int64_at_impl_walked_1.G k) 1000 (bodyOf Tryz.prog 66) [.con (.int .i64) a0, .fn 67 0 [.elt (.pair (.int .i64) (.pair (.int .i64) (.pair (.int .i64) (.sl .str)))) a1_0 0]] [] = slices_ContainsFunc_int64_at_impl_walked_1.f k a0 a1_0 := by kernel_rfl
theorem slices_ContainsFunc_int64_at_impl_walked_1.E_ok : EnvOk Tryz.prog slices_ContainsFunc_int64_at_impl_walked_1.E := ⟨⟨slices_IndexFunc_int64_at_impl_walked_1.sound, callable_of (by kernel_rfl)⟩, trivial⟩
theorem slices_ContainsFunc_int64_at_impl_walked_1.sound : Sound Tryz.prog 66 slices_ContainsFunc_int64_at_impl_walked_1.s := by
  refine func_sound (f := slices_ContainsFunc_int64_at_impl_walked_1.a) (G := slices_ContainsFunc_int64_at_impl_walked_1.G) (fn := Tryz.f66) (body := bodyOf Tryz.prog 66) 1000 (by kernel_rfl) slices_ContainsFunc_int64_at_impl_walked_1.E_ok Tryz.func66 (by kernel_rfl) (by kernel_rfl) (by kernel_rfl) (ptsOk_of (by kernel_rfl)) ?_ ?_ ?_ ?_
  · intro r H x h
    unfold slices_ContainsFunc_int64_at_impl_walked_1.a at h
    simp only at h
    split at h
    · cases h; rfl
    · cases h
  · intro q avs H; rfl
  · intro k q pt avs H x _ h; cases h
  · intro k avs H o h
    try dsimp only at h
    split at h
    · cases h; exact slices_ContainsFunc_int64_at_impl_walked_1.eq _ _ _
    · cases h

def impl_walked_2.a : FnA ((Int → Option Bool) × List (Int × Int × List Int)) := ⟨16, [], .tup [], [.box [.mp .bool], .keep, .box [.row 71 (.pair (.int .i64) (.pair (.int .i64) (.sl (.int .i64))))], .drop], [], fun x H => match x, H with
  | .tup [], [.box [.mp 1], .mp .bool h1, .box [.own 4], .gone, .row 71 (.pair (.int .i64) (.pair (.int .i64) (.sl (.int .i64)))) h2_0] => some (h1, h2_0)
  | _, _ => none⟩
def impl_walked_2.s : Spec := mkS [.val, .box [.mp .bool], .box [.row 71 (.pair (.int .i64) (.pair (.int .i64) (.sl (.int .i64))))]] (fun k avs H => match avs, H with
  | [.v (.int .i64 a0), .box 0 0, .box 2 0], [.box [.mp 1], .mp .bool a1_0, .box [.own 3], .row 71 (.pair (.int .i64) (.pair (.int .i64) (.sl (.int .i64)))) a2_0] => some (impl_walked_2.f a0 a1_0 a2_0)
  | _, _ => none) (fun r => (.tup [], [.box [.mp 1], .mp .bool r.1, .box [.own 4], .gone, .row 71 (.pair (.int .i64) (.pair (.int .i64) (.sl (.int .i64)))) r.2]))
def impl_walked_2.E : Env := []
def impl_walked_2.G (k p : Nat) (avs : List AV) (H : List HE) : Option ((Int → Option Bool) × List (Int × Int × List Int)) := none
set_option maxRecDepth 100000 in
theorem impl_walked_2.eq (k : Nat) (a0 : Int) (a1_0 : (Int → Option Bool)) (a2_0 : List (Int × Int × List Int)) : fromTop Tryz.prog impl_walked_2.E k impl_walked_2.a (impl_walked_2.G k) 1000 (bodyOf Tryz.prog 69) [.v (.int .i64 a0), .box 0 0, .box 2 0] [.box [.mp 1], .mp .bool a1_0, .box [.own 3], .row 71 (.pair (.int .i64) (.pair (.int .i64) (.sl (.int .i64)))) a2_0] = impl_walked_2.f a0 a1_0 a2_0 := by kernel_rfl
theorem impl_walked_2.E_ok : EnvOk Tryz.prog impl_walked_2.E := trivial
theorem impl_walked_2.sound : Sound Tryz.prog 69 impl_walked_2.s := by
  refine func_sound (f := impl_walked_2.a) (G := impl_walked_2.G) (fn := Tryz.f69) (body := bodyOf Tryz.prog 69) 1000 (by kernel_rfl) impl_walked_2.E_ok Tryz.func69 (by kernel_rfl) (by kernel_rfl) (by kernel_rfl) (ptsOk_of (by kernel_rfl)) ?_ ?_ ?_ ?_
  · intro r H x h
    unfold impl_walked_2.a at h
    simp only at h
    split at h
    · cases h; rfl
    · cases h
  · intro q avs H; rfl
  · intro k q pt avs H x _ h; cases h
  · intro k avs H o h
    try dsimp only at h
    split at h
    · cases h; exact impl_walked_2.eq _ _ _ _
    · cases h

def strings_Repeat.s : Spec := mkS [.val, .val] (fun _ avs H => match avs, H with
  | [.v (.string a0), .v (.int .i64 a1)], [] => some (strings_Repeat.f a0 a1)
  | _, _ => none) (fun r => (.v (.string r), []))
theorem strings_Repeat.sound : Sound Tryz.prog 105 strings_Repeat.s := by
  refine sound_plain (emb := fun r => .v (.string r)) ?_
  intro k avs H o x h hx
  split at h
  case h_2 => cases h
  rename_i a0 a1
  cases h
  refine ⟨rfl, fun M w ρ hp vals hr => ?_⟩
  obtain ⟨v0, q0, rfl, rfl, v1, q1, rfl, rfl, rfl⟩ := hr
  unfold strings_Repeat.f at hx
  split at hx
  case isFalse => cases hx
  rename_i h0
  split at hx
  case isFalse => cases hx
  rename_i h1
  split at hx
  case isFalse => cases hx
  rename_i h2
  cases hx
  obtain ⟨c, rfl⟩ := Int.eq_ofNat_of_zero_le h0
  rw [Int.toNat_natCast]
  have hb : a0.size * c ≤ 1048576 * 1048576 := Nat.mul_le_mul h2 (by omega)
  refine (Go.Proofs.Tryz.strings_Repeat a0 c w (by omega) (by omega)).mono ?_
  rintro e w' ⟨rfl, hb⟩
  exact ⟨_, rfl, hb, fun _ _ _ _ => rfl⟩

def impl_zeros.a : FnA (ByteArray) := ⟨5, [.tmp 2], .val, [], [], fun x H => match x, H with
  | .v (.string r), [] => some r
  | _, _ => none⟩
def impl_zeros.s : Spec := mkS [.val] (fun k avs H => match avs, H with
  | [.v (.int .i64 a0)], [] => some (impl_zeros.f a0)
  | _, _ => none) (fun r => (.v (.string r), []))
def impl_zeros.E : Env := [((105, []), strings_Repeat.s)]
def impl_zeros.G (k p : Nat) (avs : List AV) (H : List HE) : Option (ByteArray) := none
set_option maxRecDepth 100000 in
theorem impl_zeros.eq (k : Nat) (a0 : Int) : fromTop Tryz.prog impl_zeros.E k impl_zeros.a (impl_zeros.G k) 1000 (bodyOf Tryz.prog 70) [.v (.int .i64 a0)] [] = impl_zeros.f a0 := by kernel_rfl
theorem impl_zeros.E_ok : EnvOk Tryz.prog impl_zeros.E := ⟨⟨strings_Repeat.sound, callable_of (by kernel_rfl)⟩, trivial⟩
theorem impl_zeros.sound : Sound Tryz.prog 70 impl_zeros.s := by
  refine func_sound (f := impl_zeros.a) (G := impl_zeros.G) (fn := Tryz.f70) (body := bodyOf Tryz.prog 70) 1000 (by kernel_rfl) impl_zeros.E_ok Tryz.func70 (by kernel_rfl) (by kernel_rfl) (by kernel_rfl) (ptsOk_of (by kernel_rfl)) ?_ ?_ ?_ ?_
  · intro r H x h
    unfold impl_zeros.a at h
    simp only at h
    split at h
    · cases h; rfl
    · cases h
  · intro q avs H; rfl
  · intro k q pt avs H x _ h; cases h
  · intro k avs H o h
    try dsimp only at h
    split at h
    · cases h; exact impl_zeros.eq _ _
    · cases h

def impl_wordAt.a : FnA (Int) := ⟨21, [.tmp 4], .val, [], [⟨8, [0, 1, 5, 7], [.val, .val, .val, .val], []⟩], fun x H => match x, H with
  | .v (.int .i64 r), [] => some r
  | _, _ => none⟩
def impl_wordAt.s : Spec := mkS [.val, .val] (fun k avs H => match avs, H with
  | [.v (.string a0), .v (.int .i64 a1)], [] => some (impl_wordAt.f k a0 a1)
  | _, _ => none) (fun r => (.v (.int .i64 r), []))
def impl_wordAt.E : Env := []
def impl_wordAt.G8 (k : Nat) (avs : List AV) (H : List HE) : Option (Int) := match avs, H with
  | [.v (.string x0), .v (.int .i64 x1), .v (.int .i64 x5), .v (.int .i64 x7)], [] => impl_wordAt.p8 k x0 x1 x5 x7
  | _, _ => none
def impl_wordAt.G (k p : Nat) (avs : List AV) (H : List HE) : Option (Int) := (pick1 8 (impl_wordAt.G8 k avs H) none p)
set_option maxRecDepth 100000 in
theorem impl_wordAt.eq (k : Nat) (a0 : ByteArray) (a1 : Int) : fromTop Tryz.prog impl_wordAt.E k impl_wordAt.a (impl_wordAt.G k) 1000 (bodyOf Tryz.prog 96) [.v (.string a0), .v (.int .i64 a1)] [] = impl_wordAt.f k a0 a1 := by kernel_rfl
set_option maxRecDepth 100000 in
theorem impl_wordAt.eq8 (k : Nat) (x0 : ByteArray) (x1 : Int) (x5 : Int) (x7 : Int) : fromPt Tryz.prog impl_wordAt.E k impl_wordAt.a (impl_wordAt.G k) 1000 (bodyOf Tryz.prog 96) 8 [.v (.string x0), .v (.int .i64 x1), .v (.int .i64 x5), .v (.int .i64 x7)] [] = impl_wordAt.p8 (k + 1) x0 x1 x5 x7 := by kernel_rfl
theorem impl_wordAt.G8_0 {avs : List AV} {H : List HE} : impl_wordAt.G8 0 avs H = none := by unfold impl_wordAt.G8; split <;> rfl
theorem impl_wordAt.G8_s (k : Nat) {avs : List AV} {H : List HE} {x : Int} (h : impl_wordAt.G8 (k + 1) avs H = some x) : fromPt Tryz.prog impl_wordAt.E k impl_wordAt.a (impl_wordAt.G k) 1000 (bodyOf Tryz.prog 96) 8 avs H = some x := by
  unfold impl_wordAt.G8 at h
  split at h
  · rw [← h]; exact impl_wordAt.eq8 _ _ _ _ _
  · cases h
theorem impl_wordAt.E_ok : EnvOk Tryz.prog impl_wordAt.E := trivial
theorem impl_wordAt.sound : Sound Tryz.prog 96 impl_wordAt.s := by
  refine func_sound (f := impl_wordAt.a) (G := impl_wordAt.G) (fn := Tryz.f96) (body := bodyOf Tryz.prog 96) 1000 (by kernel_rfl) impl_wordAt.E_ok Tryz.func96 (by kernel_rfl) (by kernel_rfl) (by kernel_rfl) (ptsOk_of (by kernel_rfl)) ?_ ?_ ?_ ?_
  · intro r H x h
    unfold impl_wordAt.a at h
    simp only at h
    split at h
    · cases h; rfl
    · cases h
  · exact fun q avs H => pick1_none impl_wordAt.G8_0 (rfl)
  · intro k q pt avs H x _ h
    rcases pick1_some h with ⟨rfl, h⟩ | h
    · exact impl_wordAt.G8_s _ h
    cases h
  · intro k avs H o h
    try dsimp only at h
    split at h
    · cases h; exact impl_wordAt.eq _ _ _
    · cases h

def impl_runOf.a : FnA (Int) := ⟨7, [.tmp 2], .val, [], [], fun x H => match x, H with
  | .v (.int .i64 r), [] => some r
  | _, _ => none⟩
def impl_runOf.s : Spec := mkS [.val] (fun k avs H => match avs, H with
  | [.v (.string a0)], [] => some (impl_runOf.f a0)
  | _, _ => none) (fun r => (.v (.int .i64 r), []))
def impl_runOf.E : Env := []
def impl_runOf.G (k p : Nat) (avs : List AV) (H : List HE) : Option (Int) := none
set_option maxRecDepth 100000 in
theorem impl_runOf.eq (k : Nat) (a0 : ByteArray) : fromTop Tryz.prog impl_runOf.E k impl_runOf.a (impl_runOf.G k) 1000 (bodyOf Tryz.prog 60) [.v (.string a0)] [] = impl_runOf.f a0 := by kernel_rfl
theorem impl_runOf.E_ok : EnvOk Tryz.prog impl_runOf.E := trivial
theorem impl_runOf.sound : Sound Tryz.prog 60 impl_runOf.s := by
  refine func_sound (f := impl_runOf.a) (G := impl_runOf.G) (fn := Tryz.f60) (body := bodyOf Tryz.prog 60) 1000 (by kernel_rfl) impl_runOf.E_ok Tryz.func60 (by kernel_rfl) (by kernel_rfl) (by kernel_rfl) (ptsOk_of (by kernel_rfl)) ?_ ?_ ?_ ?_
  · intro r H x h
    unfold impl_runOf.a at h
    simp only at h
    split at h
    · cases h; rfl
    · cases h
  · intro q avs H; rfl
  · intro k q pt avs H x _ h; cases h
  · intro k avs H o h
    try dsimp only at h
    split at h
    · cases h; exact impl_runOf.eq _ _
    · cases h

def impl_objectOf.a : FnA (Int × List Int) := ⟨31, [.cell 6 53], .agg [.val, .row 2 (.int .i64)], [], [⟨8, [2, 6, 7, 15, 16], [.val, .box [.val, .val], .box [.val, .row 2 (.int .i64)], .val, .val], []⟩], fun x H => match x, H with
  | .agg [.v (.int .i64 r_0), .own 0], [.row 2 (.int .i64) r_1] => some (r_0, r_1)
  | _, _ => none⟩
def impl_objectOf.s : Spec := mkS [.con .str, .val, .val] (fun k avs H => match avs, H with
  | [.con .str a0, .v (.int .i64 a1), .v (.string a2)], [] => some (impl_objectOf.f k a0 a1 a2)
  | _, _ => none) (fun r => (.agg [.v (.int .i64 r.1), .own 0], [.row 2 (.int .i64) r.2]))
def impl_objectOf.E : Env := [((96, []), impl_wordAt.s)]
def impl_objectOf.G8 (k : Nat) (avs : List AV) (H : List HE) : Option (Int × List Int) := match avs, H with
  | [.v (.string x2), .box 0 0, .box 1 0, .v (.int .i64 x15), .v (.int .i64 x16)], [.box [.v (.int .i64 x6_0), .v (.slice none 0 0)], .box [.v (.int .i64 x7_0), .own 2], .row 2 (.int .i64) x7_1] => impl_objectOf.p8 k x2 x6_0 x7_0 x7_1 x15 x16
  | _, _ => none
def impl_objectOf.G (k p : Nat) (avs : List AV) (H : List HE) : Option (Int × List Int) := (pick1 8 (impl_objectOf.G8 k avs H) none p)
set_option maxRecDepth 100000 in
theorem impl_objectOf.eq (k : Nat) (a0 : List ByteArray) (a1 : Int) (a2 : ByteArray) : fromTop Tryz.prog impl_objectOf.E k impl_objectOf.a (impl_objectOf.G k) 1000 (bodyOf Tryz.prog 122) [.con .str a0, .v (.int .i64 a1), .v (.string a2)] [] = impl_objectOf.f k a0 a1 a2 := by kernel_rfl
set_option maxRecDepth 100000 in
theorem impl_objectOf.eq8 (k : Nat) (x2 : ByteArray) (x6_0 : Int) (x7_0 : Int) (x7_1 : List Int) (x15 : Int) (x16 : Int) : fromPt Tryz.prog impl_objectOf.E k impl_objectOf.a (impl_objectOf.G k) 1000 (bodyOf Tryz.prog 122) 8 [.v (.string x2), .box 0 0, .box 1 0, .v (.int .i64 x15), .v (.int .i64 x16)] [.box [.v (.int .i64 x6_0), .v (.slice none 0 0)], .box [.v (.int .i64 x7_0), .own 2], .row 2 (.int .i64) x7_1] = impl_objectOf.p8 (k + 1) x2 x6_0 x7_0 x7_1 x15 x16 := by kernel_rfl
theorem impl_objectOf.G8_0 {avs : List AV} {H : List HE} : impl_objectOf.G8 0 avs H = none := by unfold impl_objectOf.G8; split <;> rfl
theorem impl_objectOf.G8_s (k : Nat) {avs : List AV} {H : List HE} {x : Int × List Int} (h : impl_objectOf.G8 (k + 1) avs H = some x) : fromPt Tryz.prog impl_objectOf.E k impl_objectOf.a (impl_objectOf.G k) 1000 (bodyOf Tryz.prog 122) 8 avs H = some x := by
  unfold impl_objectOf.G8 at h
  split at h
  · rw [← h]; exact impl_objectOf.eq8 _ _ _ _ _ _ _
  · cases h
theorem impl_objectOf.E_ok : EnvOk Tryz.prog impl_objectOf.E := ⟨⟨impl_wordAt.sound, callable_of (by kernel_rfl)⟩, trivial⟩
theorem impl_objectOf.sound : Sound Tryz.prog 122 impl_objectOf.s := by
  refine func_sound (f := impl_objectOf.a) (G := impl_objectOf.G) (fn := Tryz.f122) (body := bodyOf Tryz.prog 122) 1000 (by kernel_rfl) impl_objectOf.E_ok Tryz.func122 (by kernel_rfl) (by kernel_rfl) (by kernel_rfl) (ptsOk_of (by kernel_rfl)) ?_ ?_ ?_ ?_
  · intro r H x h
    unfold impl_objectOf.a at h
    simp only at h
    split at h
    · cases h; rfl
    · cases h
  · exact fun q avs H => pick1_none impl_objectOf.G8_0 (rfl)
  · intro k q pt avs H x _ h
    rcases pick1_some h with ⟨rfl, h⟩ | h
    · exact impl_objectOf.G8_s _ h
    cases h
  · intro k avs H o h
    try dsimp only at h
    split at h
    · cases h; exact impl_objectOf.eq _ _ _ _
    · cases h

def impl_ObjOk_1.a : FnA (Bool) := ⟨6, [.tmp 2], .bool, [], [], fun x H => match x, H with
  | .bs false r, [] => some r
  | _, _ => none⟩
def impl_ObjOk_1.s : Spec := mkS [.val] (fun k avs H => match avs, H with
  | [.v (.int .i64 a0)], [] => some (impl_ObjOk_1.f a0)
  | _, _ => none) (fun r => (.bs false r, []))
def impl_ObjOk_1.E : Env := [((102, []), impl_RefKind.s)]
def impl_ObjOk_1.G (k p : Nat) (avs : List AV) (H : List HE) : Option (Bool) := none
set_option maxRecDepth 100000 in
theorem impl_ObjOk_1.eq (k : Nat) (a0 : Int) : fromTop Tryz.prog impl_ObjOk_1.E k impl_ObjOk_1.a (impl_ObjOk_1.G k) 1000 (bodyOf Tryz.prog 160) [.v (.int .i64 a0)] [] = impl_ObjOk_1.f a0 := by kernel_rfl
theorem impl_ObjOk_1.E_ok : EnvOk Tryz.prog impl_ObjOk_1.E := ⟨⟨impl_RefKind.sound, callable_of (by kernel_rfl)⟩, trivial⟩
theorem impl_ObjOk_1.sound : Sound Tryz.prog 160 impl_ObjOk_1.s := by
  refine func_sound (f := impl_ObjOk_1.a) (G := impl_ObjOk_1.G) (fn := Tryz.f160) (body := bodyOf Tryz.prog 160) 1000 (by kernel_rfl) impl_ObjOk_1.E_ok Tryz.func160 (by kernel_rfl) (by kernel_rfl) (by kernel_rfl) (ptsOk_of (by kernel_rfl)) ?_ ?_ ?_ ?_
  · intro r H x h
    unfold impl_ObjOk_1.a at h
    simp only at h
    split at h
    · cases h; rfl
    · cases h
  · intro q avs H; rfl
  · intro k q pt avs H x _ h; cases h
  · intro k avs H o h
    try dsimp only at h
    split at h
    · cases h; exact impl_ObjOk_1.eq _ _
    · cases h

def impl_isObject_at_impl_ObjOk_1.a : FnA (Bool) := ⟨51, [.tmp 6], .bool, [], [⟨14, [0, 2, 4, 29, 30, 31], [.con .str, .fn 160 0 [], .box [.val, .con (.int .i64)], .con (.int .i64), .val, .val], []⟩], fun x H => match x, H with
  | .bs false r, [] => some r
  | _, _ => none⟩
def impl_isObject_at_impl_ObjOk_1.s : Spec := mkS [.con .str, .agg [.val, .con (.int .i64)], .fn 160 0 []] (fun k avs H => match avs, H with
  | [.con .str a0, .agg [.v (.int .i64 a1_0), .con (.int .i64) a1_1], .fn 160 0 []], [] => some (impl_isObject_at_impl_ObjOk_1.f k a0 a1_0 a1_1)
  | _, _ => none) (fun r => (.bs false r, []))
def impl_isObject_at_impl_ObjOk_1.E : Env := [((97, []), impl_size_string.s), ((79, []), impl_within.s), ((160, []), impl_ObjOk_1.s)]
def impl_isObject_at_impl_ObjOk_1.G14 (k : Nat) (avs : List AV) (H : List HE) : Option (Bool) := match avs, H with
  | [.con .str x0, .fn 160 0 [], .box 0 0, .con (.int .i64) x29, .v (.int .i64 x30), .v (.int .i64 x31)], [.box [.v (.int .i64 x4_0), .con (.int .i64) x4_1]] => impl_isObject_at_impl_ObjOk_1.p14 k x0 x4_0 x4_1 x29 x30 x31
  | _, _ => none
def impl_isObject_at_impl_ObjOk_1.G (k p : Nat) (avs : List AV) (H : List HE) : Option (Bool) := (pick1 14 (impl_isObject_at_impl_ObjOk_1.G14 k avs H) none p)
set_option maxRecDepth 100000 in
theorem impl_isObject_at_impl_ObjOk_1.eq (k : Nat) (a0 : List ByteArray) (a1_0 : Int) (a1_1 : List Int) : fromTop Tryz.prog impl_isObject_at_impl_ObjOk_1.E k impl_isObject_at_impl_ObjOk_1.a (impl_isObject_at_impl_ObjOk_1.G k) 1000 (bodyOf Tryz.prog 99) [.con .str a0, .agg [.v (.int .i64 a1_0), .con (.int .i64) a1_1], .fn 160 0 []] [] = impl_isObject_at_impl_ObjOk_1.f k a0 a1_0 a1_1 := by kernel_rfl
set_option maxRecDepth 100000 in
theorem impl_isObject_at_impl_ObjOk_1.eq14 (k : Nat) (x0 : List ByteArray) (x4_0 : Int) (x4_1 : List Int) (x29 : List Int) (x30 : Int) (x31 : Int) : fromPt Tryz.prog impl_isObject_at_impl_ObjOk_1.E k impl_isObject_at_impl_ObjOk_1.a (impl_isObject_at_impl_ObjOk_1.G k) 1000 (bodyOf Tryz.prog 99) 14 [.con .str x0, .fn 160 0 [], .box 0 0, .con (.int .i64) x29, .v (.int .i64 x30), .v (.int .i64 x31)] [.box [.v (.int .i64 x4_0), .con (.int .i64) x4_1]] = impl_isObject_at_impl_ObjOk_1.p14 (k + 1) x0 x4_0 x4_1 x29 x30 x31 := by kernel_rfl
theorem impl_isObject_at_impl_ObjOk_1.G14_0 {avs : List AV} {H : List HE} : impl_isObject_at_impl_ObjOk_1.G14 0 avs H = none := by unfold impl_isObject_at_impl_ObjOk_1.G14; split <;> rfl
theorem impl_isObject_at_impl_ObjOk_1.G14_s (k : Nat) {avs : List AV} {H : List HE} {x : Bool} (h : impl_isObject_at_impl_ObjOk_1.G14 (k + 1) avs H = some x) : fromPt Tryz.prog impl_isObject_at_impl_ObjOk_1.E k impl_isObject_at_impl_ObjOk_1.a (impl_isObject_at_impl_ObjOk_1.G k) 1000 (bodyOf Tryz.prog 99) 14 avs H = some x := by
  unfold impl_isObject_at_impl_ObjOk_1.G14 at h
  split at h
  · rw [← h]; exact impl_isObject_at_impl_ObjOk_1.eq14 _ _ _ _ _ _ _
  · cases h
theorem impl_isObject_at_impl_ObjOk_1.E_ok : EnvOk Tryz.prog impl_isObject_at_impl_ObjOk_1.E := ⟨⟨impl_size_string.sound, callable_of (by kernel_rfl)⟩, ⟨impl_within.sound, callable_of (by kernel_rfl)⟩, ⟨impl_ObjOk_1.sound, callable_of (by kernel_rfl)⟩, trivial⟩
theorem impl_isObject_at_impl_ObjOk_1.sound : Sound Tryz.prog 99 impl_isObject_at_impl_ObjOk_1.s := by
  refine func_sound (f := impl_isObject_at_impl_ObjOk_1.a) (G := impl_isObject_at_impl_ObjOk_1.G) (fn := Tryz.f99) (body := bodyOf Tryz.prog 99) 1000 (by kernel_rfl) impl_isObject_at_impl_ObjOk_1.E_ok Tryz.func99 (by kernel_rfl) (by kernel_rfl) (by kernel_rfl) (ptsOk_of (by kernel_rfl)) ?_ ?_ ?_ ?_
  · intro r H x h
    unfold impl_isObject_at_impl_ObjOk_1.a at h
    simp only at h
    split at h
    · cases h; rfl
    · cases h
  · exact fun q avs H => pick1_none impl_isObject_at_impl_ObjOk_1.G14_0 (rfl)
  · intro k q pt avs H x _ h
    rcases pick1_some h with ⟨rfl, h⟩ | h
    · exact impl_isObject_at_impl_ObjOk_1.G14_s _ h
    cases h
  · intro k avs H o h
    try dsimp only at h
    split at h
    · cases h; exact impl_isObject_at_impl_ObjOk_1.eq _ _ _ _
    · cases h

def impl_ObjOk.a : FnA (Bool) := ⟨12, [.tmp 4], .bool, [], [], fun x H => match x, H with
  | .bs false r, [] => some r
  | _, _ => none⟩
def impl_ObjOk.s : Spec := mkS [.con .str, .agg [.val, .con (.int .i64)]] (fun k avs H => match avs, H with
  | [.con .str a0, .agg [.v (.int .i64 a1_0), .con (.int .i64) a1_1]], [] => some (impl_ObjOk.f k a0 a1_0 a1_1)
  | _, _ => none) (fun r => (.bs false r, []))
def impl_ObjOk.E : Env := [((121, []), impl_TypesOk.s), ((99, [160]), impl_isObject_at_impl_ObjOk_1.s)]
def impl_ObjOk.G (k p : Nat) (avs : List AV) (H : List HE) : Option (Bool) := none
set_option maxRecDepth 100000 in
theorem impl_ObjOk.eq (k : Nat) (a0 : List ByteArray) (a1_0 : Int) (a1_1 : List Int) : fromTop Tryz.prog impl_ObjOk.E k impl_ObjOk.a (impl_ObjOk.G k) 1000 (bodyOf Tryz.prog 145) [.con .str a0, .agg [.v (.int .i64 a1_0), .con (.int .i64) a1_1]] [] = impl_ObjOk.f k a0 a1_0 a1_1 := by kernel_rfl
theorem impl_ObjOk.E_ok : EnvOk Tryz.prog impl_ObjOk.E := ⟨⟨impl_TypesOk.sound, callable_of (by kernel_rfl)⟩, ⟨impl_isObject_at_impl_ObjOk_1.sound, callable_of (by kernel_rfl)⟩, trivial⟩
theorem impl_ObjOk.sound : Sound Tryz.prog 145 impl_ObjOk.s := by
  refine func_sound (f := impl_ObjOk.a) (G := impl_ObjOk.G) (fn := Tryz.f145) (body := bodyOf Tryz.prog 145) 1000 (by kernel_rfl) impl_ObjOk.E_ok Tryz.func145 (by kernel_rfl) (by kernel_rfl) (by kernel_rfl) (ptsOk_of (by kernel_rfl)) ?_ ?_ ?_ ?_
  · intro r H x h
    unfold impl_ObjOk.a at h
    simp only at h
    split at h
    · cases h; rfl
    · cases h
  · intro q avs H; rfl
  · intro k q pt avs H x _ h; cases h
  · intro k avs H o h
    try dsimp only at h
    split at h
    · cases h; exact impl_ObjOk.eq _ _ _ _
    · cases h

def impl_bigBytes.a : FnA (ByteArray) := ⟨27, [.tmp 4], .val, [], [⟨8, [0, 1, 5, 10, 11], [.val, .val, .row 5 (.int .u8), .val, .val], []⟩], fun x H => match x, H with
  | .v (.string r), [] => some r
  | _, _ => none⟩
def impl_bigBytes.s : Spec := mkS [.val, .val] (fun k avs H => match avs, H with
  | [.v (.int .u64 a0), .v (.int .i64 a1)], [] => some (impl_bigBytes.f k a0 a1)
  | _, _ => none) (fun r => (.v (.string r), []))
def impl_bigBytes.E : Env := []
def impl_bigBytes.G8 (k : Nat) (avs : List AV) (H : List HE) : Option (ByteArray) := match avs, H with
  | [.v (.int .u64 x0), .v (.int .i64 x1), .own 0, .v (.int .i64 x10), .v (.int .i64 x11)], [.row 5 (.int .u8) x5] => impl_bigBytes.p8 k x0 x1 x5 x10 x11
  | _, _ => none
def impl_bigBytes.G (k p : Nat) (avs : List AV) (H : List HE) : Option (ByteArray) := (pick1 8 (impl_bigBytes.G8 k avs H) none p)
set_option maxRecDepth 100000 in
theorem impl_bigBytes.eq (k : Nat) (a0 : Int) (a1 : Int) : fromTop Tryz.prog impl_bigBytes.E k impl_bigBytes.a (impl_bigBytes.G k) 1000 (bodyOf Tryz.prog 167) [.v (.int .u64 a0), .v (.int .i64 a1)] [] = impl_bigBytes.f k a0 a1 := by kernel_rfl
set_option maxRecDepth 100000 in
theorem impl_bigBytes.eq8 (k : Nat) (x0 : Int) (x1 : Int) (x5 : List Int) (x10 : Int) (x11 : Int) : fromPt Tryz.prog impl_bigBytes.E k impl_bigBytes.a (impl_bigBytes.G k) 1000 (bodyOf Tryz.prog 167) 8 [.v (.int .u64 x0), .v (.int .i64 x1), .own 0, .v (.int .i64 x10), .v (.int .i64 x11)] [.row 5 (.int .u8) x5] = impl_bigBytes.p8 (k + 1) x0 x1 x5 x10 x11 := by kernel_rfl
theorem impl_bigBytes.G8_0 {avs : List AV} {H : List HE} : impl_bigBytes.G8 0 avs H = none := by unfold impl_bigBytes.G8; split <;> rfl
theorem impl_bigBytes.G8_s (k : Nat) {avs : List AV} {H : List HE} {x : ByteArray} (h : impl_bigBytes.G8 (k + 1) avs H = some x) : fromPt Tryz.prog impl_bigBytes.E k impl_bigBytes.a (impl_bigBytes.G k) 1000 (bodyOf Tryz.prog 167) 8 avs H = some x := by
  unfold impl_bigBytes.G8 at h
  split at h
  · rw [← h]; exact impl_bigBytes.eq8 _ _ _ _ _ _
  · cases h
theorem impl_bigBytes.E_ok : EnvOk Tryz.prog impl_bigBytes.E := trivial
theorem impl_bigBytes.sound : Sound Tryz.prog 167 impl_bigBytes.s := by
  refine func_sound (f := impl_bigBytes.a) (G := impl_bigBytes.G) (fn := Tryz.f167) (body := bodyOf Tryz.prog 167) 1000 (by kernel_rfl) impl_bigBytes.E_ok Tryz.func167 (by kernel_rfl) (by kernel_rfl) (by kernel_rfl) (ptsOk_of (by kernel_rfl)) ?_ ?_ ?_ ?_
  · intro r H x h
    unfold impl_bigBytes.a at h
    simp only at h
    split at h
    · cases h; rfl
    · cases h
  · exact fun q avs H => pick1_none impl_bigBytes.G8_0 (rfl)
  · intro k q pt avs H x _ h
    rcases pick1_some h with ⟨rfl, h⟩ | h
    · exact impl_bigBytes.G8_s _ h
    cases h
  · intro k avs H o h
    try dsimp only at h
    split at h
    · cases h; exact impl_bigBytes.eq _ _ _
    · cases h

def impl_WordBytes.a : FnA (ByteArray) := ⟨6, [.tmp 2], .val, [], [], fun x H => match x, H with
  | .v (.string r), [] => some r
  | _, _ => none⟩
def impl_WordBytes.s : Spec := mkS [.val] (fun k avs H => match avs, H with
  | [.v (.int .i64 a0)], [] => some (impl_WordBytes.f k a0)
  | _, _ => none) (fun r => (.v (.string r), []))
def impl_WordBytes.E : Env := [((167, []), impl_bigBytes.s)]
def impl_WordBytes.G (k p : Nat) (avs : List AV) (H : List HE) : Option (ByteArray) := none
set_option maxRecDepth 100000 in
theorem impl_WordBytes.eq (k : Nat) (a0 : Int) : fromTop Tryz.prog impl_WordBytes.E k impl_WordBytes.a (impl_WordBytes.G k) 1000 (bodyOf Tryz.prog 161) [.v (.int .i64 a0)] [] = impl_WordBytes.f k a0 := by kernel_rfl
theorem impl_WordBytes.E_ok : EnvOk Tryz.prog impl_WordBytes.E := ⟨⟨impl_bigBytes.sound, callable_of (by kernel_rfl)⟩, trivial⟩
theorem impl_WordBytes.sound : Sound Tryz.prog 161 impl_WordBytes.s := by
  refine func_sound (f := impl_WordBytes.a) (G := impl_WordBytes.G) (fn := Tryz.f161) (body := bodyOf Tryz.prog 161) 1000 (by kernel_rfl) impl_WordBytes.E_ok Tryz.func161 (by kernel_rfl) (by kernel_rfl) (by kernel_rfl) (ptsOk_of (by kernel_rfl)) ?_ ?_ ?_ ?_
  · intro r H x h
    unfold impl_WordBytes.a at h
    simp only at h
    split at h
    · cases h; rfl
    · cases h
  · intro q avs H; rfl
  · intro k q pt avs H x _ h; cases h
  · intro k avs H o h
    try dsimp only at h
    split at h
    · cases h; exact impl_WordBytes.eq _ _
    · cases h

def impl_objectBytes.a : FnA (ByteArray) := ⟨37, [.tmp 4], .val, [], [⟨8, [0, 3, 5, 13, 14, 15], [.con .str, .box [.val, .con (.int .i64)], .val, .con (.int .i64), .val, .val], []⟩], fun x H => match x, H with
  | .v (.string r), [] => some r
  | _, _ => none⟩
def impl_objectBytes.s : Spec := mkS [.con .str, .agg [.val, .con (.int .i64)]] (fun k avs H => match avs, H with
  | [.con .str a0, .agg [.v (.int .i64 a1_0), .con (.int .i64) a1_1]], [] => some (impl_objectBytes.f k a0 a1_0 a1_1)
  | _, _ => none) (fun r => (.v (.string r), []))
def impl_objectBytes.E : Env := [((161, []), impl_WordBytes.s), ((60, []), impl_runOf.s), ((70, []), impl_zeros.s)]
def impl_objectBytes.G8 (k : Nat) (avs : List AV) (H : List HE) : Option (ByteArray) := match avs, H with
  | [.con .str x0, .box 0 0, .v (.string x5), .con (.int .i64) x13, .v (.int .i64 x14), .v (.int .i64 x15)], [.box [.v (.int .i64 x3_0), .con (.int .i64) x3_1]] => impl_objectBytes.p8 k x0 x3_0 x3_1 x5 x13 x14 x15
  | _, _ => none
def impl_objectBytes.G (k p : Nat) (avs : List AV) (H : List HE) : Option (ByteArray) := (pick1 8 (impl_objectBytes.G8 k avs H) none p)
set_option maxRecDepth 100000 in
theorem impl_objectBytes.eq (k : Nat) (a0 : List ByteArray) (a1_0 : Int) (a1_1 : List Int) : fromTop Tryz.prog impl_objectBytes.E k impl_objectBytes.a (impl_objectBytes.G k) 1000 (bodyOf Tryz.prog 146) [.con .str a0, .agg [.v (.int .i64 a1_0), .con (.int .i64) a1_1]] [] = impl_objectBytes.f k a0 a1_0 a1_1 := by kernel_rfl
set_option maxRecDepth 100000 in
theorem impl_objectBytes.eq8 (k : Nat) (x0 : List ByteArray) (x3_0 : Int) (x3_1 : List Int) (x5 : ByteArray) (x13 : List Int) (x14 : Int) (x15 : Int) : fromPt Tryz.prog impl_objectBytes.E k impl_objectBytes.a (impl_objectBytes.G k) 1000 (bodyOf Tryz.prog 146) 8 [.con .str x0, .box 0 0, .v (.string x5), .con (.int .i64) x13, .v (.int .i64 x14), .v (.int .i64 x15)] [.box [.v (.int .i64 x3_0), .con (.int .i64) x3_1]] = impl_objectBytes.p8 (k + 1) x0 x3_0 x3_1 x5 x13 x14 x15 := by kernel_rfl
theorem impl_objectBytes.G8_0 {avs : List AV} {H : List HE} : impl_objectBytes.G8 0 avs H = none := by unfold impl_objectBytes.G8; split <;> rfl
theorem impl_objectBytes.G8_s (k : Nat) {avs : List AV} {H : List HE} {x : ByteArray} (h : impl_objectBytes.G8 (k + 1) avs H = some x) : fromPt Tryz.prog impl_objectBytes.E k impl_objectBytes.a (impl_objectBytes.G k) 1000 (bodyOf Tryz.prog 146) 8 avs H = some x := by
  unfold impl_objectBytes.G8 at h
  split at h
  · rw [← h]; exact impl_objectBytes.eq8 _ _ _ _ _ _ _ _
  · cases h
theorem impl_objectBytes.E_ok : EnvOk Tryz.prog impl_objectBytes.E := ⟨⟨impl_WordBytes.sound, callable_of (by kernel_rfl)⟩, ⟨impl_runOf.sound, callable_of (by kernel_rfl)⟩, ⟨impl_zeros.sound, callable_of (by kernel_rfl)⟩, trivial⟩
theorem impl_objectBytes.sound : Sound Tryz.prog 146 impl_objectBytes.s := by
  refine func_sound (f := impl_objectBytes.a) (G := impl_objectBytes.G) (fn := Tryz.f146) (body := bodyOf Tryz.prog 146) 1000 (by kernel_rfl) impl_objectBytes.E_ok Tryz.func146 (by kernel_rfl) (by kernel_rfl) (by kernel_rfl) (ptsOk_of (by kernel_rfl)) ?_ ?_ ?_ ?_
  · intro r H x h
    unfold impl_objectBytes.a at h
    simp only at h
    split at h
    · cases h; rfl
    · cases h
  · exact fun q avs H => pick1_none impl_objectBytes.G8_0 (rfl)
  · intro k q pt avs H x _ h
    rcases pick1_some h with ⟨rfl, h⟩ | h
    · exact impl_objectBytes.G8_s _ h
    cases h
  · intro k avs H o h
    try dsimp only at h
    split at h
    · cases h; exact impl_objectBytes.eq _ _ _ _
    · cases h

def impl_ObjectBytes.a : FnA (ByteArray) := ⟨12, [.tmp 4], .val, [], [], fun x H => match x, H with
  | .v (.string r), [] => some r
  | _, _ => none⟩
def impl_ObjectBytes.s : Spec := mkS [.con .str, .agg [.val, .con (.int .i64)]] (fun k avs H => match avs, H with
  | [.con .str a0, .agg [.v (.int .i64 a1_0), .con (.int .i64) a1_1]], [] => some (impl_ObjectBytes.f k a0 a1_0 a1_1)
  | _, _ => none) (fun r => (.v (.string r), []))
def impl_ObjectBytes.E : Env := [((145, []), impl_ObjOk.s), ((146, []), impl_objectBytes.s)]
def impl_ObjectBytes.G (k p : Nat) (avs : List AV) (H : List HE) : Option (ByteArray) := none
set_option maxRecDepth 100000 in
theorem impl_ObjectBytes.eq (k : Nat) (a0 : List ByteArray) (a1_0 : Int) (a1_1 : List Int) : fromTop Tryz.prog impl_ObjectBytes.E k impl_ObjectBytes.a (impl_ObjectBytes.G k) 1000 (bodyOf Tryz.prog 123) [.con .str a0, .agg [.v (.int .i64 a1_0), .con (.int .i64) a1_1]] [] = impl_ObjectBytes.f k a0 a1_0 a1_1 := by kernel_rfl
theorem impl_ObjectBytes.E_ok : EnvOk Tryz.prog impl_ObjectBytes.E := ⟨⟨impl_ObjOk.sound, callable_of (by kernel_rfl)⟩, ⟨impl_objectBytes.sound, callable_of (by kernel_rfl)⟩, trivial⟩
theorem impl_ObjectBytes.sound : Sound Tryz.prog 123 impl_ObjectBytes.s := by
  refine func_sound (f := impl_ObjectBytes.a) (G := impl_ObjectBytes.G) (fn := Tryz.f123) (body := bodyOf Tryz.prog 123) 1000 (by kernel_rfl) impl_ObjectBytes.E_ok Tryz.func123 (by kernel_rfl) (by kernel_rfl) (by kernel_rfl) (ptsOk_of (by kernel_rfl)) ?_ ?_ ?_ ?_
  · intro r H x h
    unfold impl_ObjectBytes.a at h
    simp only at h
    split at h
    · cases h; rfl
    · cases h
  · intro q avs H; rfl
  · intro k q pt avs H x _ h; cases h
  · intro k avs H o h
    try dsimp only at h
    split at h
    · cases h; exact impl_ObjectBytes.eq _ _ _ _
    · cases h

def impl_ReadObject.a : FnA (Int × List Int × Bool) := ⟨49, [.cell 4 53, .tmp 5], .tup [.agg [.val, .row 2 (.int .i64)], .bool], [], [⟨5, [0, 1, 4, 15], [.con .str, .val, .box [.val, .val], .bool], []⟩, ⟨15, [0, 1, 4, 6, 35], [.con .str, .val, .box [.val, .val], .val, .bool], []⟩], fun x H => match x, H with
  | .tup [.agg [.v (.int .i64 r_0_0), .own 0], .bs false r_1], [.row 2 (.int .i64) r_0_1] => some (r_0_0, r_0_1, r_1)
  | _, _ => none⟩
def impl_ReadObject.s : Spec := mkS [.con .str, .val] (fun k avs H => match avs, H with
  | [.con .str a0, .v (.string a1)], [] => some (impl_ReadObject.f k a0 a1)
  | _, _ => none) (fun r => (.tup [.agg [.v (.int .i64 r.1), .own 0], .bs false r.2.2], [.row 2 (.int .i64) r.2.1]))
def impl_ReadObject.E : Env := [((121, []), impl_TypesOk.s), ((122, []), impl_objectOf.s), ((123, []), impl_ObjectBytes.s), ((96, []), impl_wordAt.s), ((97, []), impl_size_string.s), ((79, []), impl_within.s), ((60, []), impl_runOf.s)]
def impl_ReadObject.G5 (k : Nat) (avs : List AV) (H : List HE) : Option (Int × List Int × Bool) := match avs, H with
  | [.con .str x0, .v (.string x1), .box 0 0, .bs false x15], [.box [.v (.int .i64 x4_0), .v (.slice none 0 0)]] => impl_ReadObject.p5 k x0 x1 x4_0 x15
  | _, _ => none
def impl_ReadObject.G15 (k : Nat) (avs : List AV) (H : List HE) : Option (Int × List Int × Bool) := match avs, H with
  | [.con .str x0, .v (.string x1), .box 0 0, .v (.int .i64 x6), .bs false x35], [.box [.v (.int .i64 x4_0), .v (.slice none 0 0)]] => impl_ReadObject.p15 k x0 x1 x4_0 x6 x35
  | _, _ => none
def impl_ReadObject.G (k p : Nat) (avs : List AV) (H : List HE) : Option (Int × List Int × Bool) := (pick1 5 (impl_ReadObject.G5 k avs H) (pick1 15 (impl_ReadObject.G15 k avs H) none p) p)
set_option maxRecDepth 100000 in
theorem impl_ReadObject.eq (k : Nat) (a0 : List ByteArray) (a1 : ByteArray) : fromTop Tryz.prog impl_ReadObject.E k impl_ReadObject.a (impl_ReadObject.G k) 1000 (bodyOf Tryz.prog 98) [.con .str a0, .v (.string a1)] [] = impl_ReadObject.f k a0 a1 := by kernel_rfl
set_option maxRecDepth 100000 in
theorem impl_ReadObject.eq5 (k : Nat) (x0 : List ByteArray) (x1 : ByteArray) (x4_0 : Int) (x15 : Bool) : fromPt Tryz.prog impl_ReadObject.E k impl_ReadObject.a (impl_ReadObject.G k) 1000 (bodyOf Tryz.prog 98) 5 [.con .str x0, .v (.string x1), .box 0 0, .bs false x15] [.box [.v (.int .i64 x4_0), .v (.slice none 0 0)]] = impl_ReadObject.p5 (k + 1) x0 x1 x4_0 x15 := by kernel_rfl
theorem impl_ReadObject.G5_0 {avs : List AV} {H : List HE} : impl_ReadObject.G5 0 avs H = none := by unfold impl_ReadObject.G5; split <;> rfl
theorem impl_ReadObject.G5_s (k : Nat) {avs : List AV} {H : List HE} {x : Int × List Int × Bool} (h : impl_ReadObject.G5 (k + 1) avs H = some x) : fromPt Tryz.prog impl_ReadObject.E k impl_ReadObject.a (impl_ReadObject.G k) 1000 (bodyOf Tryz.prog 98) 5 avs H = some x := by
  unfold impl_ReadObject.G5 at h
  split at h
  · rw [← h]; exact impl_ReadObject.eq5 _ _ _ _ _
  · cases h
set_option maxRecDepth 100000 in
theorem impl_ReadObject.eq15 (k : Nat) (x0 : List ByteArray) (x1 : ByteArray) (x4_0 : Int) (x6 : Int) (x35 : Bool) : fromPt Tryz.prog impl_ReadObject.E k impl_ReadObject.a (impl_ReadObject.G k) 1000 (bodyOf Tryz.prog 98) 15 [.con .str x0, .v (.string x1), .box 0 0, .v (.int .i64 x6), .bs false x35] [.box [.v (.int .i64 x4_0), .v (.slice none 0 0)]] = impl_ReadObject.p15 (k + 1) x0 x1 x4_0 x6 x35 := by kernel_rfl
theorem impl_ReadObject.G15_0 {avs : List AV} {H : List HE} : impl_ReadObject.G15 0 avs H = none := by unfold impl_ReadObject.G15; split <;> rfl
theorem impl_ReadObject.G15_s (k : Nat) {avs : List AV} {H : List HE} {x : Int × List Int × Bool} (h : impl_ReadObject.G15 (k + 1) avs H = some x) : fromPt Tryz.prog impl_ReadObject.E k impl_ReadObject.a (impl_ReadObject.G k) 1000 (bodyOf Tryz.prog 98) 15 avs H = some x := by
  unfold impl_ReadObject.G15 at h
  split at h
  · rw [← h]; exact impl_ReadObject.eq15 _ _ _ _ _ _
  · cases h
theorem impl_ReadObject.E_ok : EnvOk Tryz.prog impl_ReadObject.E := ⟨⟨impl_TypesOk.sound, callable_of (by kernel_rfl)⟩, ⟨impl_objectOf.sound, callable_of (by kernel_rfl)⟩, ⟨impl_ObjectBytes.sound, callable_of (by kernel_rfl)⟩, ⟨impl_wordAt.sound, callable_of (by kernel_rfl)⟩, ⟨impl_size_string.sound, callable_of (by kernel_rfl)⟩, ⟨impl_within.sound, callable_of (by kernel_rfl)⟩, ⟨impl_runOf.sound, callable_of (by kernel_rfl)⟩, trivial⟩
theorem impl_ReadObject.sound : Sound Tryz.prog 98 impl_ReadObject.s := by
  refine func_sound (f := impl_ReadObject.a) (G := impl_ReadObject.G) (fn := Tryz.f98) (body := bodyOf Tryz.prog 98) 1000 (by kernel_rfl) impl_ReadObject.E_ok Tryz.func98 (by kernel_rfl) (by kernel_rfl) (by kernel_rfl) (ptsOk_of (by kernel_rfl)) ?_ ?_ ?_ ?_
  · intro r H x h
    unfold impl_ReadObject.a at h
    simp only at h
    split at h
    · cases h; rfl
    · cases h
  · exact fun q avs H => pick1_none impl_ReadObject.G5_0 (pick1_none impl_ReadObject.G15_0 (rfl))
  · intro k q pt avs H x _ h
    rcases pick1_some h with ⟨rfl, h⟩ | h
    · exact impl_ReadObject.G5_s _ h
    rcases pick1_some h with ⟨rfl, h⟩ | h
    · exact impl_ReadObject.G15_s _ h
    cases h
  · intro k avs H o h
    try dsimp only at h
    split at h
    · cases h; exact impl_ReadObject.eq _ _ _
    · cases h

def impl_oldObject_1.a : FnA (Bool) := ⟨7, [.tmp 3], .bool, [], [], fun x H => match x, H with
  | .bs false r, [] => some r
  | _, _ => none⟩
def impl_oldObject_1.s : Spec := mkS [.val, .elt (.pair (.int .i64) (.pair (.int .i64) (.pair (.int .i64) (.sl .str))))] (fun k avs H => match avs, H with
  | [.v (.int .i64 a0), .elt (.pair (.int .i64) (.pair (.int .i64) (.pair (.int .i64) (.sl .str)))) a1 0], [] => some (impl_oldObject_1.f a0 a1)
  | _, _ => none) (fun r => (.bs false r, []))
def impl_oldObject_1.E : Env := [((68, []), impl_isDataRef.s)]
def impl_oldObject_1.G (k p : Nat) (avs : List AV) (H : List HE) : Option (Bool) := none
set_option maxRecDepth 100000 in
theorem impl_oldObject_1.eq (k : Nat) (a0 : Int) (a1 : Int × Int × Int × List ByteArray) : fromTop Tryz.prog impl_oldObject_1.E k impl_oldObject_1.a (impl_oldObject_1.G k) 1000 (bodyOf Tryz.prog 100) [.v (.int .i64 a0), .elt (.pair (.int .i64) (.pair (.int .i64) (.pair (.int .i64) (.sl .str)))) a1 0] [] = impl_oldObject_1.f a0 a1 := by kernel_rfl
theorem impl_oldObject_1.E_ok : EnvOk Tryz.prog impl_oldObject_1.E := ⟨⟨impl_isDataRef.sound, callable_of (by kernel_rfl)⟩, trivial⟩
theorem impl_oldObject_1.sound : Sound Tryz.prog 100 impl_oldObject_1.s := by
  refine func_sound (f := impl_oldObject_1.a) (G := impl_oldObject_1.G) (fn := Tryz.f100) (body := bodyOf Tryz.prog 100) 1000 (by kernel_rfl) impl_oldObject_1.E_ok Tryz.func100 (by kernel_rfl) (by kernel_rfl) (by kernel_rfl) (ptsOk_of (by kernel_rfl)) ?_ ?_ ?_ ?_
  · intro r H x h
    unfold impl_oldObject_1.a at h
    simp only at h
    split at h
    · cases h; rfl
    · cases h
  · intro q avs H; rfl
  · intro k q pt avs H x _ h; cases h
  · intro k avs H o h
    try dsimp only at h
    split at h
    · cases h; exact impl_oldObject_1.eq _ _ _
    · cases h

def impl_isObject_at_impl_oldObject_1.a : FnA (Bool) := ⟨51, [.tmp 6], .bool, [], [⟨14, [0, 2, 4, 29, 30, 31], [.con .str, .fn 100 0 [.elt (.pair (.int .i64) (.pair (.int .i64) (.pair (.int .i64) (.sl .str))))], .box [.val, .con (.int .i64)], .con (.int .i64), .val, .val], []⟩], fun x H => match x, H with
  | .bs false r, [] => some r
  | _, _ => none⟩
def impl_isObject_at_impl_oldObject_1.s : Spec := mkS [.con .str, .agg [.val, .con (.int .i64)], .fn 100 0 [.elt (.pair (.int .i64) (.pair (.int .i64) (.pair (.int .i64) (.sl .str))))]] (fun k avs H => match avs, H with
  | [.con .str a0, .agg [.v (.int .i64 a1_0), .con (.int .i64) a1_1], .fn 100 0 [.elt (.pair (.int .i64) (.pair (.int .i64) (.pair (.int .i64) (.sl .str)))) a2_0 0]], [] => some (impl_isObject_at_impl_oldObject_1.f k a0 a1_0 a1_1 a2_0)
  | _, _ => none) (fun r => (.bs false r, []))
def impl_isObject_at_impl_oldObject_1.E : Env := [((97, []), impl_size_string.s), ((79, []), impl_within.s), ((100, []), impl_oldObject_1.s)]
def impl_isObject_at_impl_oldObject_1.G14 (k : Nat) (avs : List AV) (H : List HE) : Option (Bool) := match avs, H with
  | [.con .str x0, .fn 100 0 [.elt (.pair (.int .i64) (.pair (.int .i64) (.pair (.int .i64) (.sl .str)))) x2_0 0], .box 0 0, .con (.int .i64) x29, .v (.int .i64 x30), .v (.int .i64 x31)], [.box [.v (.int .i64 x4_0), .con (.int .i64) x4_1]] => impl_isObject_at_impl_oldObject_1.p14 k x0 x2_0 x4_0 x4_1 x29 x30 x31
  | _, _ => none
def impl_isObject_at_impl_oldObject_1.G (k p : Nat) (avs : List AV) (H : List HE) : Option (Bool) := (pick1 14 (impl_isObject_at_impl_oldObject_1.G14 k avs H) none p)
set_option maxRecDepth 100000 in
theorem impl_isObject_at_impl_oldObject_1.eq (k : Nat) (a0 : List ByteArray) (a1_0 : Int) (a1_1 : List Int) (a2_0 : Int × Int × Int × List ByteArray) : fromTop Tryz.prog impl_isObject_at_impl_oldObject_1.E k impl_isObject_at_impl_oldObject_1.a (impl_isObject_at_impl_oldObject_1.G k) 1000 (bodyOf Tryz.prog 99) [.con .str a0, .agg [.v (.int .i64 a1_0), .con (.int .i64) a1_1], .fn 100 0 [.elt (.pair (.int .i64) (.pair (.int .i64) (.pair (.int .i64) (.sl .str)))) a2_0 0]] [] = impl_isObject_at_impl_oldObject_1.f k a0 a1_0 a1_1 a2_0 := by kernel_rfl
set_option maxRecDepth 100000 in
theorem impl_isObject_at_impl_oldObject_1.eq14 (k : Nat) (x0 : List ByteArray) (x2_0 : Int × Int × Int × List ByteArray) (x4_0 : Int) (x4_1 : List Int) (x29 : List Int) (x30 : Int) (x31 : Int) : fromPt Tryz.prog impl_isObject_at_impl_oldObject_1.E k impl_isObject_at_impl_oldObject_1.a (impl_isObject_at_impl_oldObject_1.G k) 1000 (bodyOf Tryz.prog 99) 14 [.con .str x0, .fn 100 0 [.elt (.pair (.int .i64) (.pair (.int .i64) (.pair (.int .i64) (.sl .str)))) x2_0 0], .box 0 0, .con (.int .i64) x29, .v (.int .i64 x30), .v (.int .i64 x31)] [.box [.v (.int .i64 x4_0), .con (.int .i64) x4_1]] = impl_isObject_at_impl_oldObject_1.p14 (k + 1) x0 x2_0 x4_0 x4_1 x29 x30 x31 := by kernel_rfl
theorem impl_isObject_at_impl_oldObject_1.G14_0 {avs : List AV} {H : List HE} : impl_isObject_at_impl_oldObject_1.G14 0 avs H = none := by unfold impl_isObject_at_impl_oldObject_1.G14; split <;> rfl
theorem impl_isObject_at_impl_oldObject_1.G14_s (k : Nat) {avs : List AV} {H : List HE} {x : Bool} (h : impl_isObject_at_impl_oldObject_1.G14 (k + 1) avs H = some x) : fromPt Tryz.prog impl_isObject_at_impl_oldObject_1.E k impl_isObject_at_impl_oldObject_1.a (impl_isObject_at_impl_oldObject_1.G k) 1000 (bodyOf Tryz.prog 99) 14 avs H = some x := by
  unfold impl_isObject_at_impl_oldObject_1.G14 at h
  split at h
  · rw [← h]; exact impl_isObject_at_impl_oldObject_1.eq14 _ _ _ _ _ _ _ _
  · cases h
theorem impl_isObject_at_impl_oldObject_1.E_ok : EnvOk Tryz.prog impl_isObject_at_impl_oldObject_1.E := ⟨⟨impl_size_string.sound, callable_of (by kernel_rfl)⟩, ⟨impl_within.sound, callable_of (by kernel_rfl)⟩, ⟨impl_oldObject_1.sound, callable_of (by kernel_rfl)⟩, trivial⟩
theorem impl_isObject_at_impl_oldObject_1.sound : Sound Tryz.prog 99 impl_isObject_at_impl_oldObject_1.s := by
  refine func_sound (f := impl_isObject_at_impl_oldObject_1.a) (G := impl_isObject_at_impl_oldObject_1.G) (fn := Tryz.f99) (body := bodyOf Tryz.prog 99) 1000 (by kernel_rfl) impl_isObject_at_impl_oldObject_1.E_ok Tryz.func99 (by kernel_rfl) (by kernel_rfl) (by kernel_rfl) (ptsOk_of (by kernel_rfl)) ?_ ?_ ?_ ?_
  · intro r H x h
    unfold impl_isObject_at_impl_oldObject_1.a at h
    simp only at h
    split at h
    · cases h; rfl
    · cases h
  · exact fun q avs H => pick1_none impl_isObject_at_impl_oldObject_1.G14_0 (rfl)
  · intro k q pt avs H x _ h
    rcases pick1_some h with ⟨rfl, h⟩ | h
    · exact impl_isObject_at_impl_oldObject_1.G14_s _ h
    cases h
  · intro k avs H o h
    try dsimp only at h
    split at h
    · cases h; exact impl_isObject_at_impl_oldObject_1.eq _ _ _ _ _
    · cases h

def impl_oldObject.a : FnA (Int × List Int × Bool) := ⟨73, [.cell 6 53, .tmp 7], .tup [.agg [.val, .row 2 (.int .i64)], .bool], [], [⟨15, [1, 2, 3, 6, 8, 39], [.val, .val, .box [.val, .val, .val, .con .str], .box [.val, .val], .val, .bool], []⟩], fun x H => match x, H with
  | .tup [.agg [.v (.int .i64 r_0_0), .own 0], .bs false r_1], [.row 2 (.int .i64) r_0_1] => some (r_0_0, r_0_1, r_1)
  | _, _ => none⟩
def impl_oldObject.s : Spec := mkS [.agg [.val, .val, .val, .con .str], .val, .val] (fun k avs H => match avs, H with
  | [.agg [.v (.int .i64 a0_0), .v (.int .i64 a0_1), .v (.int .i64 a0_2), .con .str a0_3], .v (.string a1), .v (.int .i64 a2)], [] => some (impl_oldObject.f k a0_0 a0_1 a0_2 a0_3 a1 a2)
  | _, _ => none) (fun r => (.tup [.agg [.v (.int .i64 r.1), .own 0], .bs false r.2.2], [.row 2 (.int .i64) r.2.1]))
def impl_oldObject.E : Env := [((95, []), impl_isData.s), ((96, []), impl_wordAt.s), ((97, []), impl_size_string.s), ((79, []), impl_within.s), ((60, []), impl_runOf.s), ((98, []), impl_ReadObject.s), ((99, [100]), impl_isObject_at_impl_oldObject_1.s)]
def impl_oldObject.G15 (k : Nat) (avs : List AV) (H : List HE) : Option (Int × List Int × Bool) := match avs, H with
  | [.v (.string x1), .v (.int .i64 x2), .box 0 0, .box 1 0, .v (.int .i64 x8), .bs false x39], [.box [.v (.int .i64 x3_0), .v (.int .i64 x3_1), .v (.int .i64 x3_2), .con .str x3_3], .box [.v (.int .i64 x6_0), .v (.slice none 0 0)]] => impl_oldObject.p15 k x1 x2 x3_0 x3_1 x3_2 x3_3 x6_0 x8 x39
  | _, _ => none
def impl_oldObject.G (k p : Nat) (avs : List AV) (H : List HE) : Option (Int × List Int × Bool) := (pick1 15 (impl_oldObject.G15 k avs H) none p)
set_option maxRecDepth 100000 in
theorem impl_oldObject.eq (k : Nat) (a0_0 : Int) (a0_1 : Int) (a0_2 : Int) (a0_3 : List ByteArray) (a1 : ByteArray) (a2 : Int) : fromTop Tryz.prog impl_oldObject.E k impl_oldObject.a (impl_oldObject.G k) 1000 (bodyOf Tryz.prog 58) [.agg [.v (.int .i64 a0_0), .v (.int .i64 a0_1), .v (.int .i64 a0_2), .con .str a0_3], .v (.string a1), .v (.int .i64 a2)] [] = impl_oldObject.f k a0_0 a0_1 a0_2 a0_3 a1 a2 := by kernel_rfl
set_option maxRecDepth 100000 in
theorem impl_oldObject.eq15 (k : Nat) (x1 : ByteArray) (x2 : Int) (x3_0 : Int) (x3_1 : Int) (x3_2 : Int) (x3_3 : List ByteArray) (x6_0 : Int) (x8 : Int) (x39 : Bool) : fromPt Tryz.prog impl_oldObject.E k impl_oldObject.a (impl_oldObject.G k) 1000 (bodyOf Tryz.prog 58) 15 [.v (.string x1), .v (.int .i64 x2), .box 0 0, .box 1 0, .v (.int .i64 x8), .bs false x39] [.box [.v (.int .i64 x3_0), .v (.int .i64 x3_1), .v (.int .i64 x3_2), .con .str x3_3], .box [.v (.int .i64 x6_0), .v (.slice none 0 0)]] = impl_oldObject.p15 (k + 1) x1 x2 x3_0 x3_1 x3_2 x3_3 x6_0 x8 x39 := by kernel_rfl
theorem impl_oldObject.G15_0 {avs : List AV} {H : List HE} : impl_oldObject.G15 0 avs H = none := by unfold impl_oldObject.G15; split <;> rfl
theorem impl_oldObject.G15_s (k : Nat) {avs : List AV} {H : List HE} {x : Int × List Int × Bool} (h : impl_oldObject.G15 (k + 1) avs H = some x) : fromPt Tryz.prog impl_oldObject.E k impl_oldObject.a (impl_oldObject.G k) 1000 (bodyOf Tryz.prog 58) 15 avs H = some x := by
  unfold impl_oldObject.G15 at h
  split at h
  · rw [← h]; exact impl_oldObject.eq15 _ _ _ _ _ _ _ _ _ _
  · cases h
theorem impl_oldObject.E_ok : EnvOk Tryz.prog impl_oldObject.E := ⟨⟨impl_isData.sound, callable_of (by kernel_rfl)⟩, ⟨impl_wordAt.sound, callable_of (by kernel_rfl)⟩, ⟨impl_size_string.sound, callable_of (by kernel_rfl)⟩, ⟨impl_within.sound, callable_of (by kernel_rfl)⟩, ⟨impl_runOf.sound, callable_of (by kernel_rfl)⟩, ⟨impl_ReadObject.sound, callable_of (by kernel_rfl)⟩, ⟨impl_isObject_at_impl_oldObject_1.sound, callable_of (by kernel_rfl)⟩, trivial⟩
theorem impl_oldObject.sound : Sound Tryz.prog 58 impl_oldObject.s := by
  refine func_sound (f := impl_oldObject.a) (G := impl_oldObject.G) (fn := Tryz.f58) (body := bodyOf Tryz.prog 58) 1000 (by kernel_rfl) impl_oldObject.E_ok Tryz.func58 (by kernel_rfl) (by kernel_rfl) (by kernel_rfl) (ptsOk_of (by kernel_rfl)) ?_ ?_ ?_ ?_
  · intro r H x h
    unfold impl_oldObject.a at h
    simp only at h
    split at h
    · cases h; rfl
    · cases h
  · exact fun q avs H => pick1_none impl_oldObject.G15_0 (rfl)
  · intro k q pt avs H x _ h
    rcases pick1_some h with ⟨rfl, h⟩ | h
    · exact impl_oldObject.G15_s _ h
    cases h
  · intro k avs H o h
    try dsimp only at h
    split at h
    · cases h; exact impl_oldObject.eq _ _ _ _ _ _ _
    · cases h

def impl_isMap.a : FnA (Bool) := ⟨12, [.tmp 2], .bool, [], [], fun x H => match x, H with
  | .bs false r, [] => some r
  | _, _ => none⟩
def impl_isMap.s : Spec := mkS [.val] (fun k avs H => match avs, H with
  | [.v (.string a0)], [] => some (impl_isMap.f a0)
  | _, _ => none) (fun r => (.bs false r, []))
def impl_isMap.E : Env := [((70, []), impl_zeros.s)]
def impl_isMap.G (k p : Nat) (avs : List AV) (H : List HE) : Option (Bool) := none
set_option maxRecDepth 100000 in
theorem impl_isMap.eq (k : Nat) (a0 : ByteArray) : fromTop Tryz.prog impl_isMap.E k impl_isMap.a (impl_isMap.G k) 1000 (bodyOf Tryz.prog 55) [.v (.string a0)] [] = impl_isMap.f a0 := by kernel_rfl
theorem impl_isMap.E_ok : EnvOk Tryz.prog impl_isMap.E := ⟨⟨impl_zeros.sound, callable_of (by kernel_rfl)⟩, trivial⟩
theorem impl_isMap.sound : Sound Tryz.prog 55 impl_isMap.s := by
  refine func_sound (f := impl_isMap.a) (G := impl_isMap.G) (fn := Tryz.f55) (body := bodyOf Tryz.prog 55) 1000 (by kernel_rfl) impl_isMap.E_ok Tryz.func55 (by kernel_rfl) (by kernel_rfl) (by kernel_rfl) (ptsOk_of (by kernel_rfl)) ?_ ?_ ?_ ?_
  · intro r H x h
    unfold impl_isMap.a at h
    simp only at h
    split at h
    · cases h; rfl
    · cases h
  · intro q avs H; rfl
  · intro k q pt avs H x _ h; cases h
  · intro k avs H o h
    try dsimp only at h
    split at h
    · cases h; exact impl_isMap.eq _ _
    · cases h

def impl_isTaken.a : FnA (Bool) := ⟨14, [.tmp 4], .bool, [], [], fun x H => match x, H with
  | .bs false r, [] => some r
  | _, _ => none⟩
def impl_isTaken.s : Spec := mkS [.val, .val] (fun k avs H => match avs, H with
  | [.v (.string a0), .v (.int .i64 a1)], [] => some (impl_isTaken.f a0 a1)
  | _, _ => none) (fun r => (.bs false r, []))
def impl_isTaken.E : Env := []
def impl_isTaken.G (k p : Nat) (avs : List AV) (H : List HE) : Option (Bool) := none
set_option maxRecDepth 100000 in
theorem impl_isTaken.eq (k : Nat) (a0 : ByteArray) (a1 : Int) : fromTop Tryz.prog impl_isTaken.E k impl_isTaken.a (impl_isTaken.G k) 1000 (bodyOf Tryz.prog 56) [.v (.string a0), .v (.int .i64 a1)] [] = impl_isTaken.f a0 a1 := by kernel_rfl
theorem impl_isTaken.E_ok : EnvOk Tryz.prog impl_isTaken.E := trivial
theorem impl_isTaken.sound : Sound Tryz.prog 56 impl_isTaken.s := by
  refine func_sound (f := impl_isTaken.a) (G := impl_isTaken.G) (fn := Tryz.f56) (body := bodyOf Tryz.prog 56) 1000 (by kernel_rfl) impl_isTaken.E_ok Tryz.func56 (by kernel_rfl) (by kernel_rfl) (by kernel_rfl) (ptsOk_of (by kernel_rfl)) ?_ ?_ ?_ ?_
  · intro r H x h
    unfold impl_isTaken.a at h
    simp only at h
    split at h
    · cases h; rfl
    · cases h
  · intro q avs H; rfl
  · intro k q pt avs H x _ h; cases h
  · intro k avs H o h
    try dsimp only at h
    split at h
    · cases h; exact impl_isTaken.eq _ _ _
    · cases h

def impl_isRun.a : FnA (Bool) := ⟨38, [.tmp 8], .bool, [], [⟨14, [0, 1, 2, 3, 9], [.val, .val, .val, .bool, .val], []⟩], fun x H => match x, H with
  | .bs false r, [] => some r
  | _, _ => none⟩
def impl_isRun.s : Spec := mkS [.val, .val, .val, .bool] (fun k avs H => match avs, H with
  | [.v (.string a0), .v (.int .i64 a1), .v (.int .i64 a2), .bs false a3], [] => some (impl_isRun.f k a0 a1 a2 a3)
  | _, _ => none) (fun r => (.bs false r, []))
def impl_isRun.E : Env := [((55, []), impl_isMap.s), ((79, []), impl_within.s), ((56, []), impl_isTaken.s)]
def impl_isRun.G14 (k : Nat) (avs : List AV) (H : List HE) : Option (Bool) := match avs, H with
  | [.v (.string x0), .v (.int .i64 x1), .v (.int .i64 x2), .bs false x3, .v (.int .i64 x9)], [] => impl_isRun.p14 k x0 x1 x2 x3 x9
  | _, _ => none
def impl_isRun.G (k p : Nat) (avs : List AV) (H : List HE) : Option (Bool) := (pick1 14 (impl_isRun.G14 k avs H) none p)
set_option maxRecDepth 100000 in
theorem impl_isRun.eq (k : Nat) (a0 : ByteArray) (a1 : Int) (a2 : Int) (a3 : Bool) : fromTop Tryz.prog impl_isRun.E k impl_isRun.a (impl_isRun.G k) 1000 (bodyOf Tryz.prog 106) [.v (.string a0), .v (.int .i64 a1), .v (.int .i64 a2), .bs false a3] [] = impl_isRun.f k a0 a1 a2 a3 := by kernel_rfl
set_option maxRecDepth 100000 in
theorem impl_isRun.eq14 (k : Nat) (x0 : ByteArray) (x1 : Int) (x2 : Int) (x3 : Bool) (x9 : Int) : fromPt Tryz.prog impl_isRun.E k impl_isRun.a (impl_isRun.G k) 1000 (bodyOf Tryz.prog 106) 14 [.v (.string x0), .v (.int .i64 x1), .v (.int .i64 x2), .bs false x3, .v (.int .i64 x9)] [] = impl_isRun.p14 (k + 1) x0 x1 x2 x3 x9 := by kernel_rfl
theorem impl_isRun.G14_0 {avs : List AV} {H : List HE} : impl_isRun.G14 0 avs H = none := by unfold impl_isRun.G14; split <;> rfl
theorem impl_isRun.G14_s (k : Nat) {avs : List AV} {H : List HE} {x : Bool} (h : impl_isRun.G14 (k + 1) avs H = some x) : fromPt Tryz.prog impl_isRun.E k impl_isRun.a (impl_isRun.G k) 1000 (bodyOf Tryz.prog 106) 14 avs H = some x := by
  unfold impl_isRun.G14 at h
  split at h
  · rw [← h]; exact impl_isRun.eq14 _ _ _ _ _ _
  · cases h
theorem impl_isRun.E_ok : EnvOk Tryz.prog impl_isRun.E := ⟨⟨impl_isMap.sound, callable_of (by kernel_rfl)⟩, ⟨impl_within.sound, callable_of (by kernel_rfl)⟩, ⟨impl_isTaken.sound, callable_of (by kernel_rfl)⟩, trivial⟩
theorem impl_isRun.sound : Sound Tryz.prog 106 impl_isRun.s := by
  refine func_sound (f := impl_isRun.a) (G := impl_isRun.G) (fn := Tryz.f106) (body := bodyOf Tryz.prog 106) 1000 (by kernel_rfl) impl_isRun.E_ok Tryz.func106 (by kernel_rfl) (by kernel_rfl) (by kernel_rfl) (ptsOk_of (by kernel_rfl)) ?_ ?_ ?_ ?_
  · intro r H x h
    unfold impl_isRun.a at h
    simp only at h
    split at h
    · cases h; rfl
    · cases h
  · exact fun q avs H => pick1_none impl_isRun.G14_0 (rfl)
  · intro k q pt avs H x _ h
    rcases pick1_some h with ⟨rfl, h⟩ | h
    · exact impl_isRun.G14_s _ h
    cases h
  · intro k avs H o h
    try dsimp only at h
    split at h
    · cases h; exact impl_isRun.eq _ _ _ _ _
    · cases h

def impl_changedMap.a : FnA (ByteArray) := ⟨44, [.tmp 8], .val, [], [⟨8, [1, 2, 3, 9, 10], [.val, .val, .bool, .row 0 .bool, .val], []⟩, ⟨24, [1, 2, 3, 9, 10], [.val, .val, .bool, .row 0 .bool, .val], []⟩], fun x H => match x, H with
  | .v (.string r), [] => some r
  | _, _ => none⟩
def impl_changedMap.s : Spec := mkS [.val, .val, .val, .bool] (fun k avs H => match avs, H with
  | [.v (.string a0), .v (.int .i64 a1), .v (.int .i64 a2), .bs false a3], [] => some (impl_changedMap.f k a0 a1 a2 a3)
  | _, _ => none) (fun r => (.v (.string r), []))
def impl_changedMap.E : Env := []
def impl_changedMap.G8 (k : Nat) (avs : List AV) (H : List HE) : Option (ByteArray) := match avs, H with
  | [.v (.int .i64 x1), .v (.int .i64 x2), .bs false x3, .own 0, .v (.int .i64 x10)], [.bts x9] => impl_changedMap.p8 k x1 x2 x3 x9 x10
  | _, _ => none
def impl_changedMap.G24 (k : Nat) (avs : List AV) (H : List HE) : Option (ByteArray) := match avs, H with
  | [.v (.int .i64 x1), .v (.int .i64 x2), .bs false x3, .own 0, .v (.int .i64 x10)], [.bts x9] => impl_changedMap.p24 k x1 x2 x3 x9 x10
  | _, _ => none
def impl_changedMap.G (k p : Nat) (avs : List AV) (H : List HE) : Option (ByteArray) := (pick1 8 (impl_changedMap.G8 k avs H) (pick1 24 (impl_changedMap.G24 k avs H) none p) p)
set_option maxRecDepth 100000 in
theorem impl_changedMap.eq (k : Nat) (a0 : ByteArray) (a1 : Int) (a2 : Int) (a3 : Bool) : fromTop Tryz.prog impl_changedMap.E k impl_changedMap.a (impl_changedMap.G k) 1000 (bodyOf Tryz.prog 107) [.v (.string a0), .v (.int .i64 a1), .v (.int .i64 a2), .bs false a3] [] = impl_changedMap.f k a0 a1 a2 a3 := by kernel_rfl
set_option maxRecDepth 100000 in
theorem impl_changedMap.eq8 (k : Nat) (x1 : Int) (x2 : Int) (x3 : Bool) (x9 : List Int) (x10 : Int) : fromPt Tryz.prog impl_changedMap.E k impl_changedMap.a (impl_changedMap.G k) 1000 (bodyOf Tryz.prog 107) 8 [.v (.int .i64 x1), .v (.int .i64 x2), .bs false x3, .own 0, .v (.int .i64 x10)] [.bts x9] = impl_changedMap.p8 (k + 1) x1 x2 x3 x9 x10 := by kernel_rfl
theorem impl_changedMap.G8_0 {avs : List AV} {H : List HE} : impl_changedMap.G8 0 avs H = none := by unfold impl_changedMap.G8; split <;> rfl
theorem impl_changedMap.G8_s (k : Nat) {avs : List AV} {H : List HE} {x : ByteArray} (h : impl_changedMap.G8 (k + 1) avs H = some x) : fromPt Tryz.prog impl_changedMap.E k impl_changedMap.a (impl_changedMap.G k) 1000 (bodyOf Tryz.prog 107) 8 avs H = some x := by
  unfold impl_changedMap.G8 at h
  split at h
  · rw [← h]; exact impl_changedMap.eq8 _ _ _ _ _ _
  · cases h
set_option maxRecDepth 100000 in
theorem impl_changedMap.eq24 (k : Nat) (x1 : Int) (x2 : Int) (x3 : Bool) (x9 : List Int) (x10 : Int) : fromPt Tryz.prog impl_changedMap.E k impl_changedMap.a (impl_changedMap.G k) 1000 (bodyOf Tryz.prog 107) 24 [.v (.int .i64 x1), .v (.int .i64 x2), .bs false x3, .own 0, .v (.int .i64 x10)] [.bts x9] = impl_changedMap.p24 (k + 1) x1 x2 x3 x9 x10 := by kernel_rfl
theorem impl_changedMap.G24_0 {avs : List AV} {H : List HE} : impl_changedMap.G24 0 avs H = none := by unfold impl_changedMap.G24; split <;> rfl
theorem impl_changedMap.G24_s (k : Nat) {avs : List AV} {H : List HE} {x : ByteArray} (h : impl_changedMap.G24 (k + 1) avs H = some x) : fromPt Tryz.prog impl_changedMap.E k impl_changedMap.a (impl_changedMap.G k) 1000 (bodyOf Tryz.prog 107) 24 avs H = some x := by
  unfold impl_changedMap.G24 at h
  split at h
  · rw [← h]; exact impl_changedMap.eq24 _ _ _ _ _ _
  · cases h
theorem impl_changedMap.E_ok : EnvOk Tryz.prog impl_changedMap.E := trivial
theorem impl_changedMap.sound : Sound Tryz.prog 107 impl_changedMap.s := by
  refine func_sound (f := impl_changedMap.a) (G := impl_changedMap.G) (fn := Tryz.f107) (body := bodyOf Tryz.prog 107) 1000 (by kernel_rfl) impl_changedMap.E_ok Tryz.func107 (by kernel_rfl) (by kernel_rfl) (by kernel_rfl) (ptsOk_of (by kernel_rfl)) ?_ ?_ ?_ ?_
  · intro r H x h
    unfold impl_changedMap.a at h
    simp only at h
    split at h
    · cases h; rfl
    · cases h
  · exact fun q avs H => pick1_none impl_changedMap.G8_0 (pick1_none impl_changedMap.G24_0 (rfl))
  · intro k q pt avs H x _ h
    rcases pick1_some h with ⟨rfl, h⟩ | h
    · exact impl_changedMap.G8_s _ h
    rcases pick1_some h with ⟨rfl, h⟩ | h
    · exact impl_changedMap.G24_s _ h
    cases h
  · intro k avs H o h
    try dsimp only at h
    split at h
    · cases h; exact impl_changedMap.eq _ _ _ _ _
    · cases h

def impl_TakeRun.a : FnA (ByteArray × Bool) := ⟨17, [.tmp 6, .tmp 7], .tup [.val, .bool], [], [], fun x H => match x, H with
  | .tup [.v (.string r_0), .bs false r_1], [] => some (r_0, r_1)
  | _, _ => none⟩
def impl_TakeRun.s : Spec := mkS [.val, .val, .val] (fun k avs H => match avs, H with
  | [.v (.string a0), .v (.int .i64 a1), .v (.int .i64 a2)], [] => some (impl_TakeRun.f k a0 a1 a2)
  | _, _ => none) (fun r => (.tup [.v (.string r.1), .bs false r.2], []))
def impl_TakeRun.E : Env := [((106, []), impl_isRun.s), ((107, []), impl_changedMap.s)]
def impl_TakeRun.G (k p : Nat) (avs : List AV) (H : List HE) : Option (ByteArray × Bool) := none
set_option maxRecDepth 100000 in
theorem impl_TakeRun.eq (k : Nat) (a0 : ByteArray) (a1 : Int) (a2 : Int) : fromTop Tryz.prog impl_TakeRun.E k impl_TakeRun.a (impl_TakeRun.G k) 1000 (bodyOf Tryz.prog 71) [.v (.string a0), .v (.int .i64 a1), .v (.int .i64 a2)] [] = impl_TakeRun.f k a0 a1 a2 := by kernel_rfl
theorem impl_TakeRun.E_ok : EnvOk Tryz.prog impl_TakeRun.E := ⟨⟨impl_isRun.sound, callable_of (by kernel_rfl)⟩, ⟨impl_changedMap.sound, callable_of (by kernel_rfl)⟩, trivial⟩
theorem impl_TakeRun.sound : Sound Tryz.prog 71 impl_TakeRun.s := by
  refine func_sound (f := impl_TakeRun.a) (G := impl_TakeRun.G) (fn := Tryz.f71) (body := bodyOf Tryz.prog 71) 1000 (by kernel_rfl) impl_TakeRun.E_ok Tryz.func71 (by kernel_rfl) (by kernel_rfl) (by kernel_rfl) (ptsOk_of (by kernel_rfl)) ?_ ?_ ?_ ?_
  · intro r H x h
    unfold impl_TakeRun.a at h
    simp only at h
    split at h
    · cases h; rfl
    · cases h
  · intro q avs H; rfl
  · intro k q pt avs H x _ h; cases h
  · intro k avs H o h
    try dsimp only at h
    split at h
    · cases h; exact impl_TakeRun.eq _ _ _ _
    · cases h

def impl_walked.a : FnA (List (Int × Int × List Int) × ByteArray × Bool) := ⟨110, [.tmp 6, .tmp 7, .tmp 8], .tup [.row 71 (.pair (.int .i64) (.pair (.int .i64) (.sl (.int .i64)))), .val, .bool], [], [⟨5, [1, 2, 3, 28], [.val, .con (.int .i64), .box [.val, .val, .val, .con .str], .bool], []⟩, ⟨20, [1, 3, 9, 11, 33, 34, 35], [.val, .box [.val, .val, .val, .con .str], .box [.row 71 (.pair (.int .i64) (.pair (.int .i64) (.sl (.int .i64))))], .fn 69 0 [.box [.mp .bool], .box []], .con (.int .i64), .val, .val], []⟩, ⟨39, [1, 3, 9, 11, 14, 15], [.val, .box [.val, .val, .val, .con .str], .box [.row 71 (.pair (.int .i64) (.pair (.int .i64) (.sl (.int .i64))))], .fn 69 0 [.box [.mp .bool], .box []], .val, .val], []⟩, ⟨73, [1, 3, 9, 11, 14, 15, 16, 88, 89, 90], [.val, .box [.val, .val, .val, .con .str], .box [.row 71 (.pair (.int .i64) (.pair (.int .i64) (.sl (.int .i64))))], .fn 69 0 [.box [.mp .bool], .box []], .val, .val, .box [.val, .con (.int .i64)], .con (.int .i64), .val, .val], []⟩], fun x H => match x, H with
  | .tup [.own 0, .v (.string r_1), .bs false r_2], [.row 71 (.pair (.int .i64) (.pair (.int .i64) (.sl (.int .i64)))) r_0] => some (r_0, r_1, r_2)
  | _, _ => none⟩
def impl_walked.s : Spec := mkS [.agg [.val, .val, .val, .con .str], .val, .con (.int .i64)] (fun k avs H => match avs, H with
  | [.agg [.v (.int .i64 a0_0), .v (.int .i64 a0_1), .v (.int .i64 a0_2), .con .str a0_3], .v (.string a1), .con (.int .i64) a2], [] => some (impl_walked.f k a0_0 a0_1 a0_2 a0_3 a1 a2)
  | _, _ => none) (fun r => (.tup [.own 0, .v (.string r.2.1), .bs false r.2.2], [.row 71 (.pair (.int .i64) (.pair (.int .i64) (.sl (.int .i64)))) r.1]))
def impl_walked.E : Env := [((57, []), impl_isImage.s), ((66, [67]), slices_ContainsFunc_int64_at_impl_walked_1.s), ((69, []), impl_walked_2.s), ((70, []), impl_zeros.s), ((58, []), impl_oldObject.s), ((60, []), impl_runOf.s), ((71, []), impl_TakeRun.s)]
def impl_walked.G5 (k : Nat) (avs : List AV) (H : List HE) : Option (List (Int × Int × List Int) × ByteArray × Bool) := match avs, H with
  | [.v (.string x1), .con (.int .i64) x2, .box 0 0, .bs false x28], [.box [.v (.int .i64 x3_0), .v (.int .i64 x3_1), .v (.int .i64 x3_2), .con .str x3_3]] => impl_walked.p5 k x1 x2 x3_0 x3_1 x3_2 x3_3 x28
  | _, _ => none
def impl_walked.G20 (k : Nat) (avs : List AV) (H : List HE) : Option (List (Int × Int × List Int) × ByteArray × Bool) := match avs, H with
  | [.v (.string x1), .box 0 0, .box 1 0, .fn 69 0 [.box 3 0, .box 1 0], .con (.int .i64) x33, .v (.int .i64 x34), .v (.int .i64 x35)], [.box [.v (.int .i64 x3_0), .v (.int .i64 x3_1), .v (.int .i64 x3_2), .con .str x3_3], .box [.own 2], .row 71 (.pair (.int .i64) (.pair (.int .i64) (.sl (.int .i64)))) x9_0, .box [.mp 4], .mp .bool x11_0_0] => impl_walked.p20 k x1 x3_0 x3_1 x3_2 x3_3 x9_0 x11_0_0 x33 x34 x35
  | _, _ => none
def impl_walked.G39 (k : Nat) (avs : List AV) (H : List HE) : Option (List (Int × Int × List Int) × ByteArray × Bool) := match avs, H with
  | [.v (.string x1), .box 0 0, .box 1 0, .fn 69 0 [.box 3 0, .box 1 0], .v (.string x14), .v (.int .i64 x15)], [.box [.v (.int .i64 x3_0), .v (.int .i64 x3_1), .v (.int .i64 x3_2), .con .str x3_3], .box [.own 2], .row 71 (.pair (.int .i64) (.pair (.int .i64) (.sl (.int .i64)))) x9_0, .box [.mp 4], .mp .bool x11_0_0] => impl_walked.p39 k x1 x3_0 x3_1 x3_2 x3_3 x9_0 x11_0_0 x14 x15
  | _, _ => none
def impl_walked.G73 (k : Nat) (avs : List AV) (H : List HE) : Option (List (Int × Int × List Int) × ByteArray × Bool) := match avs, H with
  | [.v (.string x1), .box 0 0, .box 1 0, .fn 69 0 [.box 3 0, .box 1 0], .v (.string x14), .v (.int .i64 x15), .box 5 0, .con (.int .i64) x88, .v (.int .i64 x89), .v (.int .i64 x90)], [.box [.v (.int .i64 x3_0), .v (.int .i64 x3_1), .v (.int .i64 x3_2), .con .str x3_3], .box [.own 2], .row 71 (.pair (.int .i64) (.pair (.int .i64) (.sl (.int .i64)))) x9_0, .box [.mp 4], .mp .bool x11_0_0, .box [.v (.int .i64 x16_0), .con (.int .i64) x16_1]] => impl_walked.p73 k x1 x3_0 x3_1 x3_2 x3_3 x9_0 x11_0_0 x14 x15 x16_0 x16_1 x88 x89 x90
  | _, _ => none
def impl_walked.G (k p : Nat) (avs : List AV) (H : List HE) : Option (List (Int × Int × List Int) × ByteArray × Bool) := (pick1 5 (impl_walked.G5 k avs H) (pick1 20 (impl_walked.G20 k avs H) (pick1 39 (impl_walked.G39 k avs H) (pick1 73 (impl_walked.G73 k avs H) none p) p) p) p)
set_option maxRecDepth 100000 in
theorem impl_walked.eq (k : Nat) (a0_0 : Int) (a0_1 : Int) (a0_2 : Int) (a0_3 : List ByteArray) (a1 : ByteArray) (a2 : List Int) : fromTop Tryz.prog impl_walked.E k impl_walked.a (impl_walked.G k) 1000 (bodyOf Tryz.prog 35) [.agg [.v (.int .i64 a0_0), .v (.int .i64 a0_1), .v (.int .i64 a0_2), .con .str a0_3], .v (.string a1), .con (.int .i64) a2] [] = impl_walked.f k a0_0 a0_1 a0_2 a0_3 a1 a2 := by kernel_rfl
set_option maxRecDepth 100000 in
theorem impl_walked.eq5 (k : Nat) (x1 : ByteArray) (x2 : List Int) (x3_0 : Int) (x3_1 : Int) (x3_2 : Int) (x3_3 : List ByteArray) (x28 : Bool) : fromPt Tryz.prog impl_walked.E k impl_walked.a (impl_walked.G k) 1000 (bodyOf Tryz.prog 35) 5 [.v (.string x1), .con (.int .i64) x2, .box 0 0, .bs false x28] [.box [.v (.int .i64 x3_0), .v (.int .i64 x3_1), .v (.int .i64 x3_2), .con .str x3_3]] = impl_walked.p5 (k + 1) x1 x2 x3_0 x3_1 x3_2 x3_3 x28 := by kernel_rfl
theorem impl_walked.G5_0 {avs : List AV} {H : List HE} : impl_walked.G5 0 avs H = none := by unfold impl_walked.G5; split <;> rfl
theorem impl_walked.G5_s (k : Nat) {avs : List AV} {H : List HE} {x : List (Int × Int × List Int) × ByteArray × Bool} (h : impl_walked.G5 (k + 1) avs H = some x) : fromPt Tryz.prog impl_walked.E k impl_walked.a (impl_walked.G k) 1000 (bodyOf Tryz.prog 35) 5 avs H = some x := by
  unfold impl_walked.G5 at h
  split at h
  · rw [← h]; exact impl_walked.eq5 _ _ _ _ _ _ _ _
  · cases h
set_option maxRecDepth 100000 in
theorem impl_walked.eq20 (k : Nat) (x1 : ByteArray) (x3_0 : Int) (x3_1 : Int) (x3_2 : Int) (x3_3 : List ByteArray) (x9_0 : List (Int × Int × List Int)) (x11_0_0 : (Int → Option Bool)) (x33 : List Int) (x34 : Int) (x35 : Int) : fromPt Tryz.prog impl_walked.E k impl_walked.a (impl_walked.G k) 1000 (bodyOf Tryz.prog 35) 20 [.v (.string x1), .box 0 0, .box 1 0, .fn 69 0 [.box 3 0, .box 1 0], .con (.int .i64) x33, .v (.int .i64 x34), .v (.int .i64 x35)] [.box [.v (.int .i64 x3_0), .v (.int .i64 x3_1), .v (.int .i64 x3_2), .con .str x3_3], .box [.own 2], .row 71 (.pair (.int .i64) (.pair (.int .i64) (.sl (.int .i64)))) x9_0, .box [.mp 4], .mp .bool x11_0_0] = impl_walked.p20 (k + 1) x1 x3_0 x3_1 x3_2 x3_3 x9_0 x11_0_0 x33 x34 x35 := by kernel_rfl
theorem impl_walked.G20_0 {avs : List AV} {H : List HE} : impl_walked.G20 0 avs H = none := by unfold impl_walked.G20; split <;> rfl
theorem impl_walked.G20_s (k : Nat) {avs : List AV} {H : List HE} {x : List (Int × Int × List Int) × ByteArray × Bool} (h : impl_walked.G20 (k + 1) avs H = some x) : fromPt Tryz.prog impl_walked.E k impl_walked.a (impl_walked.G k) 1000 (bodyOf Tryz.prog 35) 20 avs H = some x := by
  unfold impl_walked.G20 at h
  split at h
  · rw [← h]; exact impl_walked.eq20 _ _ _ _ _ _ _ _ _ _ _
  · cases h
set_option maxRecDepth 100000 in
theorem impl_walked.eq39 (k : Nat) (x1 : ByteArray) (x3_0 : Int) (x3_1 : Int) (x3_2 : Int) (x3_3 : List ByteArray) (x9_0 : List (Int × Int × List Int)) (x11_0_0 : (Int → Option Bool)) (x14 : ByteArray) (x15 : Int) : fromPt Tryz.prog impl_walked.E k impl_walked.a (impl_walked.G k) 1000 (bodyOf Tryz.prog 35) 39 [.v (.string x1), .box 0 0, .box 1 0, .fn 69 0 [.box 3 0, .box 1 0], .v (.string x14), .v (.int .i64 x15)] [.box [.v (.int .i64 x3_0), .v (.int .i64 x3_1), .v (.int .i64 x3_2), .con .str x3_3], .box [.own 2], .row 71 (.pair (.int .i64) (.pair (.int .i64) (.sl (.int .i64)))) x9_0, .box [.mp 4], .mp .bool x11_0_0] = impl_walked.p39 (k + 1) x1 x3_0 x3_1 x3_2 x3_3 x9_0 x11_0_0 x14 x15 := by kernel_rfl
theorem impl_walked.G39_0 {avs : List AV} {H : List HE} : impl_walked.G39 0 avs H = none := by unfold impl_walked.G39; split <;> rfl
theorem impl_walked.G39_s (k : Nat) {avs : List AV} {H : List HE} {x : List (Int × Int × List Int) × ByteArray × Bool} (h : impl_walked.G39 (k + 1) avs H = some x) : fromPt Tryz.prog impl_walked.E k impl_walked.a (impl_walked.G k) 1000 (bodyOf Tryz.prog 35) 39 avs H = some x := by
  unfold impl_walked.G39 at h
  split at h
  · rw [← h]; exact impl_walked.eq39 _ _ _ _ _ _ _ _ _ _
  · cases h
set_option maxRecDepth 100000 in
theorem impl_walked.eq73 (k : Nat) (x1 : ByteArray) (x3_0 : Int) (x3_1 : Int) (x3_2 : Int) (x3_3 : List ByteArray) (x9_0 : List (Int × Int × List Int)) (x11_0_0 : (Int → Option Bool)) (x14 : ByteArray) (x15 : Int) (x16_0 : Int) (x16_1 : List Int) (x88 : List Int) (x89 : Int) (x90 : Int) : fromPt Tryz.prog impl_walked.E k impl_walked.a (impl_walked.G k) 1000 (bodyOf Tryz.prog 35) 73 [.v (.string x1), .box 0 0, .box 1 0, .fn 69 0 [.box 3 0, .box 1 0], .v (.string x14), .v (.int .i64 x15), .box 5 0, .con (.int .i64) x88, .v (.int .i64 x89), .v (.int .i64 x90)] [.box [.v (.int .i64 x3_0), .v (.int .i64 x3_1), .v (.int .i64 x3_2), .con .str x3_3], .box [.own 2], .row 71 (.pair (.int .i64) (.pair (.int .i64) (.sl (.int .i64)))) x9_0, .box [.mp 4], .mp .bool x11_0_0, .box [.v (.int .i64 x16_0), .con (.int .i64) x16_1]] = impl_walked.p73 (k + 1) x1 x3_0 x3_1 x3_2 x3_3 x9_0 x11_0_0 x14 x15 x16_0 x16_1 x88 x89 x90 := by kernel_rfl
theorem impl_walked.G73_0 {avs : List AV} {H : List HE} : impl_walked.G73 0 avs H = none := by unfold impl_walked.G73; split <;> rfl
theorem impl_walked.G73_s (k : Nat) {avs : List AV} {H : List HE} {x : List (Int × Int × List Int) × ByteArray × Bool} (h : impl_walked.G73 (k + 1) avs H = some x) : fromPt Tryz.prog impl_walked.E k impl_walked.a (impl_walked.G k) 1000 (bodyOf Tryz.prog 35) 73 avs H = some x := by
  unfold impl_walked.G73 at h
  split at h
  · rw [← h]; exact impl_walked.eq73 _ _ _ _ _ _ _ _ _ _ _ _ _ _ _
  · cases h
theorem impl_walked.E_ok : EnvOk Tryz.prog impl_walked.E := ⟨⟨impl_isImage.sound, callable_of (by kernel_rfl)⟩, ⟨slices_ContainsFunc_int64_at_impl_walked_1.sound, callable_of (by kernel_rfl)⟩, ⟨impl_walked_2.sound, callable_of (by kernel_rfl)⟩, ⟨impl_zeros.sound, callable_of (by kernel_rfl)⟩, ⟨impl_oldObject.sound, callable_of (by kernel_rfl)⟩, ⟨impl_runOf.sound, callable_of (by kernel_rfl)⟩, ⟨impl_TakeRun.sound, callable_of (by kernel_rfl)⟩, trivial⟩
theorem impl_walked.sound : Sound Tryz.prog 35 impl_walked.s := by
  refine func_sound (f := impl_walked.a) (G := impl_walked.G) (fn := Tryz.f35) (body := bodyOf Tryz.prog 35) 1000 (by kernel_rfl) impl_walked.E_ok Tryz.func35 (by kernel_rfl) (by kernel_rfl) (by kernel_rfl) (ptsOk_of (by kernel_rfl)) ?_ ?_ ?_ ?_
  · intro r H x h
    unfold impl_walked.a at h
    simp only at h
    split at h
    · cases h; rfl
    · cases h
  · exact fun q avs H => pick1_none impl_walked.G5_0 (pick1_none impl_walked.G20_0 (pick1_none impl_walked.G39_0 (pick1_none impl_walked.G73_0 (rfl))))
  · intro k q pt avs H x _ h
    rcases pick1_some h with ⟨rfl, h⟩ | h
    · exact impl_walked.G5_s _ h
    rcases pick1_some h with ⟨rfl, h⟩ | h
    · exact impl_walked.G20_s _ h
    rcases pick1_some h with ⟨rfl, h⟩ | h
    · exact impl_walked.G39_s _ h
    rcases pick1_some h with ⟨rfl, h⟩ | h
    · exact impl_walked.G73_s _ h
    cases h
  · intro k avs H o h
    try dsimp only at h
    split at h
    · cases h; exact impl_walked.eq _ _ _ _ _ _ _
    · cases h

def impl_Walk.a : FnA (List Int × Bool) := ⟨43, [.tmp 6, .tmp 7], .tup [.row 2 (.int .i64), .bool], [], [⟨18, [11, 30, 31, 32], [.row 2 (.int .i64), .row 71 (.pair (.int .i64) (.pair (.int .i64) (.sl (.int .i64)))), .val, .val], []⟩], fun x H => match x, H with
  | .tup [.own 0, .bs false r_1], [.row 2 (.int .i64) r_0] => some (r_0, r_1)
  | _, _ => none⟩
def impl_Walk.s : Spec := mkS [.agg [.val, .val, .val, .con .str], .val, .con (.int .i64)] (fun k avs H => match avs, H with
  | [.agg [.v (.int .i64 a0_0), .v (.int .i64 a0_1), .v (.int .i64 a0_2), .con .str a0_3], .v (.string a1), .con (.int .i64) a2], [] => some (impl_Walk.f k a0_0 a0_1 a0_2 a0_3 a1 a2)
  | _, _ => none) (fun r => (.tup [.own 0, .bs false r.2], [.row 2 (.int .i64) r.1]))
def impl_Walk.E : Env := [((35, []), impl_walked.s)]
def impl_Walk.G18 (k : Nat) (avs : List AV) (H : List HE) : Option (List Int × Bool) := match avs, H with
  | [.own 0, .own 1, .v (.int .i64 x31), .v (.int .i64 x32)], [.row 2 (.int .i64) x11, .row 71 (.pair (.int .i64) (.pair (.int .i64) (.sl (.int .i64)))) x30] => impl_Walk.p18 k x11 x30 x31 x32
  | _, _ => none
def impl_Walk.G (k p : Nat) (avs : List AV) (H : List HE) : Option (List Int × Bool) := (pick1 18 (impl_Walk.G18 k avs H) none p)
set_option maxRecDepth 100000 in
theorem impl_Walk.eq (k : Nat) (a0_0 : Int) (a0_1 : Int) (a0_2 : Int) (a0_3 : List ByteArray) (a1 : ByteArray) (a2 : List Int) : fromTop Tryz.prog impl_Walk.E k impl_Walk.a (impl_Walk.G k) 1000 (bodyOf Tryz.prog 15) [.agg [.v (.int .i64 a0_0), .v (.int .i64 a0_1), .v (.int .i64 a0_2), .con .str a0_3], .v (.string a1), .con (.int .i64) a2] [] = impl_Walk.f k a0_0 a0_1 a0_2 a0_3 a1 a2 := by kernel_rfl
set_option maxRecDepth 100000 in
theorem impl_Walk.eq18 (k : Nat) (x11 : List Int) (x30 : List (Int × Int × List Int)) (x31 : Int) (x32 : Int) : fromPt Tryz.prog impl_Walk.E k impl_Walk.a (impl_Walk.G k) 1000 (bodyOf Tryz.prog 15) 18 [.own 0, .own 1, .v (.int .i64 x31), .v (.int .i64 x32)] [.row 2 (.int .i64) x11, .row 71 (.pair (.int .i64) (.pair (.int .i64) (.sl (.int .i64)))) x30] = impl_Walk.p18 (k + 1) x11 x30 x31 x32 := by kernel_rfl
theorem impl_Walk.G18_0 {avs : List AV} {H : List HE} : impl_Walk.G18 0 avs H = none := by unfold impl_Walk.G18; split <;> rfl
theorem impl_Walk.G18_s (k : Nat) {avs : List AV} {H : List HE} {x : List Int × Bool} (h : impl_Walk.G18 (k + 1) avs H = some x) : fromPt Tryz.prog impl_Walk.E k impl_Walk.a (impl_Walk.G k) 1000 (bodyOf Tryz.prog 15) 18 avs H = some x := by
  unfold impl_Walk.G18 at h
  split at h
  · rw [← h]; exact impl_Walk.eq18 _ _ _ _ _
  · cases h
theorem impl_Walk.E_ok : EnvOk Tryz.prog impl_Walk.E := ⟨⟨impl_walked.sound, callable_of (by kernel_rfl)⟩, trivial⟩
theorem impl_Walk.sound : Sound Tryz.prog 15 impl_Walk.s := by
  refine func_sound (f := impl_Walk.a) (G := impl_Walk.G) (fn := Tryz.f15) (body := bodyOf Tryz.prog 15) 1000 (by kernel_rfl) impl_Walk.E_ok Tryz.func15 (by kernel_rfl) (by kernel_rfl) (by kernel_rfl) (ptsOk_of (by kernel_rfl)) ?_ ?_ ?_ ?_
  · intro r H x h
    unfold impl_Walk.a at h
    simp only at h
    split at h
    · cases h; rfl
    · cases h
  · exact fun q avs H => pick1_none impl_Walk.G18_0 (rfl)
  · intro k q pt avs H x _ h
    rcases pick1_some h with ⟨rfl, h⟩ | h
    · exact impl_Walk.G18_s _ h
    cases h
  · intro k avs H o h
    try dsimp only at h
    split at h
    · cases h; exact impl_Walk.eq _ _ _ _ _ _ _
    · cases h

def spec_l5Image.a : FnA (Bool) := ⟨15, [.tmp 4], .bool, [], [], fun x H => match x, H with
  | .bs false r, [] => some r
  | _, _ => none⟩
def spec_l5Image.s : Spec := mkS [.agg [.val, .val, .val, .con .str], .val] (fun k avs H => match avs, H with
  | [.agg [.v (.int .i64 a0_0), .v (.int .i64 a0_1), .v (.int .i64 a0_2), .con .str a0_3], .v (.string a1)], [] => some (spec_l5Image.f k a0_0 a0_1 a0_2 a0_3 a1)
  | _, _ => none) (fun r => (.bs false r, []))
def spec_l5Image.E : Env := [((72, []), spec_ConfigOk.s)]
def spec_l5Image.G (k p : Nat) (avs : List AV) (H : List HE) : Option (Bool) := none
set_option maxRecDepth 100000 in
theorem spec_l5Image.eq (k : Nat) (a0_0 : Int) (a0_1 : Int) (a0_2 : Int) (a0_3 : List ByteArray) (a1 : ByteArray) : fromTop Tryz.prog spec_l5Image.E k spec_l5Image.a (spec_l5Image.G k) 1000 (bodyOf Tryz.prog 37) [.agg [.v (.int .i64 a0_0), .v (.int .i64 a0_1), .v (.int .i64 a0_2), .con .str a0_3], .v (.string a1)] [] = spec_l5Image.f k a0_0 a0_1 a0_2 a0_3 a1 := by kernel_rfl
theorem spec_l5Image.E_ok : EnvOk Tryz.prog spec_l5Image.E := ⟨⟨spec_ConfigOk.sound, callable_of (by kernel_rfl)⟩, trivial⟩
theorem spec_l5Image.sound : Sound Tryz.prog 37 spec_l5Image.s := by
  refine func_sound (f := spec_l5Image.a) (G := spec_l5Image.G) (fn := Tryz.f37) (body := bodyOf Tryz.prog 37) 1000 (by kernel_rfl) spec_l5Image.E_ok Tryz.func37 (by kernel_rfl) (by kernel_rfl) (by kernel_rfl) (ptsOk_of (by kernel_rfl)) ?_ ?_ ?_ ?_
  · intro r H x h
    unfold spec_l5Image.a at h
    simp only at h
    split at h
    · cases h; rfl
    · cases h
  · intro q avs H; rfl
  · intro k q pt avs H x _ h; cases h
  · intro k avs H o h
    try dsimp only at h
    split at h
    · cases h; exact spec_l5Image.eq _ _ _ _ _ _
    · cases h

def spec_l10Refs.a : FnA (Bool) := ⟨19, [.tmp 4], .bool, [], [⟨6, [1, 2, 5], [.con (.int .i64), .box [.val, .val, .val, .con .str], .val], []⟩], fun x H => match x, H with
  | .bs false r, [] => some r
  | _, _ => none⟩
def spec_l10Refs.s : Spec := mkS [.agg [.val, .val, .val, .con .str], .con (.int .i64)] (fun k avs H => match avs, H with
  | [.agg [.v (.int .i64 a0_0), .v (.int .i64 a0_1), .v (.int .i64 a0_2), .con .str a0_3], .con (.int .i64) a1], [] => some (spec_l10Refs.f k a0_0 a0_1 a0_2 a0_3 a1)
  | _, _ => none) (fun r => (.bs false r, []))
def spec_l10Refs.E : Env := [((73, []), spec_l10Ref.s)]
def spec_l10Refs.G6 (k : Nat) (avs : List AV) (H : List HE) : Option (Bool) := match avs, H with
  | [.con (.int .i64) x1, .box 0 0, .v (.int .i64 x5)], [.box [.v (.int .i64 x2_0), .v (.int .i64 x2_1), .v (.int .i64 x2_2), .con .str x2_3]] => spec_l10Refs.p6 k x1 x2_0 x2_1 x2_2 x2_3 x5
  | _, _ => none
def spec_l10Refs.G (k p : Nat) (avs : List AV) (H : List HE) : Option (Bool) := (pick1 6 (spec_l10Refs.G6 k avs H) none p)
set_option maxRecDepth 100000 in
theorem spec_l10Refs.eq (k : Nat) (a0_0 : Int) (a0_1 : Int) (a0_2 : Int) (a0_3 : List ByteArray) (a1 : List Int) : fromTop Tryz.prog spec_l10Refs.E k spec_l10Refs.a (spec_l10Refs.G k) 1000 (bodyOf Tryz.prog 38) [.agg [.v (.int .i64 a0_0), .v (.int .i64 a0_1), .v (.int .i64 a0_2), .con .str a0_3], .con (.int .i64) a1] [] = spec_l10Refs.f k a0_0 a0_1 a0_2 a0_3 a1 := by kernel_rfl
set_option maxRecDepth 100000 in
theorem spec_l10Refs.eq6 (k : Nat) (x1 : List Int) (x2_0 : Int) (x2_1 : Int) (x2_2 : Int) (x2_3 : List ByteArray) (x5 : Int) : fromPt Tryz.prog spec_l10Refs.E k spec_l10Refs.a (spec_l10Refs.G k) 1000 (bodyOf Tryz.prog 38) 6 [.con (.int .i64) x1, .box 0 0, .v (.int .i64 x5)] [.box [.v (.int .i64 x2_0), .v (.int .i64 x2_1), .v (.int .i64 x2_2), .con .str x2_3]] = spec_l10Refs.p6 (k + 1) x1 x2_0 x2_1 x2_2 x2_3 x5 := by kernel_rfl
theorem spec_l10Refs.G6_0 {avs : List AV} {H : List HE} : spec_l10Refs.G6 0 avs H = none := by unfold spec_l10Refs.G6; split <;> rfl
theorem spec_l10Refs.G6_s (k : Nat) {avs : List AV} {H : List HE} {x : Bool} (h : spec_l10Refs.G6 (k + 1) avs H = some x) : fromPt Tryz.prog spec_l10Refs.E k spec_l10Refs.a (spec_l10Refs.G k) 1000 (bodyOf Tryz.prog 38) 6 avs H = some x := by
  unfold spec_l10Refs.G6 at h
  split at h
  · rw [← h]; exact spec_l10Refs.eq6 _ _ _ _ _ _ _
  · cases h
theorem spec_l10Refs.E_ok : EnvOk Tryz.prog spec_l10Refs.E := ⟨⟨spec_l10Ref.sound, callable_of (by kernel_rfl)⟩, trivial⟩
theorem spec_l10Refs.sound : Sound Tryz.prog 38 spec_l10Refs.s := by
  refine func_sound (f := spec_l10Refs.a) (G := spec_l10Refs.G) (fn := Tryz.f38) (body := bodyOf Tryz.prog 38) 1000 (by kernel_rfl) spec_l10Refs.E_ok Tryz.func38 (by kernel_rfl) (by kernel_rfl) (by kernel_rfl) (ptsOk_of (by kernel_rfl)) ?_ ?_ ?_ ?_
  · intro r H x h
    unfold spec_l10Refs.a at h
    simp only at h
    split at h
    · cases h; rfl
    · cases h
  · exact fun q avs H => pick1_none spec_l10Refs.G6_0 (rfl)
  · intro k q pt avs H x _ h
    rcases pick1_some h with ⟨rfl, h⟩ | h
    · exact spec_l10Refs.G6_s _ h
    cases h
  · intro k avs H o h
    try dsimp only at h
    split at h
    · cases h; exact spec_l10Refs.eq _ _ _ _ _ _
    · cases h

def spec_Walk.a : FnA (List Int × Bool) := ⟨36, [.tmp 6, .tmp 7], .tup [.row 2 (.int .i64), .bool], [], [], fun x H => match x, H with
  | .tup [.own 0, .bs false r_1], [.row 2 (.int .i64) r_0] => some (r_0, r_1)
  | _, _ => none⟩
def spec_Walk.s : Spec := mkS [.agg [.val, .val, .val, .con .str], .val, .con (.int .i64)] (fun k avs H => match avs, H with
  | [.agg [.v (.int .i64 a0_0), .v (.int .i64 a0_1), .v (.int .i64 a0_2), .con .str a0_3], .v (.string a1), .con (.int .i64) a2], [] => some (spec_Walk.f k a0_0 a0_1 a0_2 a0_3 a1 a2)
  | _, _ => none) (fun r => (.tup [.own 0, .bs false r.2], [.row 2 (.int .i64) r.1]))
def spec_Walk.E : Env := [((37, []), spec_l5Image.s), ((38, []), spec_l10Refs.s), ((39, []), spec_l10Find.s)]
def spec_Walk.G (k p : Nat) (avs : List AV) (H : List HE) : Option (List Int × Bool) := none
set_option maxRecDepth 100000 in
theorem spec_Walk.eq (k : Nat) (a0_0 : Int) (a0_1 : Int) (a0_2 : Int) (a0_3 : List ByteArray) (a1 : ByteArray) (a2 : List Int) : fromTop Tryz.prog spec_Walk.E k spec_Walk.a (spec_Walk.G k) 1000 (bodyOf Tryz.prog 14) [.agg [.v (.int .i64 a0_0), .v (.int .i64 a0_1), .v (.int .i64 a0_2), .con .str a0_3], .v (.string a1), .con (.int .i64) a2] [] = spec_Walk.f k a0_0 a0_1 a0_2 a0_3 a1 a2 := by kernel_rfl
theorem spec_Walk.E_ok : EnvOk Tryz.prog spec_Walk.E := ⟨⟨spec_l5Image.sound, callable_of (by kernel_rfl)⟩, ⟨spec_l10Refs.sound, callable_of (by kernel_rfl)⟩, ⟨spec_l10Find.sound, callable_of (by kernel_rfl)⟩, trivial⟩
theorem spec_Walk.sound : Sound Tryz.prog 14 spec_Walk.s := by
  refine func_sound (f := spec_Walk.a) (G := spec_Walk.G) (fn := Tryz.f14) (body := bodyOf Tryz.prog 14) 1000 (by kernel_rfl) spec_Walk.E_ok Tryz.func14 (by kernel_rfl) (by kernel_rfl) (by kernel_rfl) (ptsOk_of (by kernel_rfl)) ?_ ?_ ?_ ?_
  · intro r H x h
    unfold spec_Walk.a at h
    simp only at h
    split at h
    · cases h; rfl
    · cases h
  · intro q avs H; rfl
  · intro k q pt avs H x _ h; cases h
  · intro k avs H o h
    try dsimp only at h
    split at h
    · cases h; exact spec_Walk.eq _ _ _ _ _ _ _
    · cases h

def impl_LiveMap.a : FnA (ByteArray × Bool) := ⟨27, [.tmp 6, .tmp 7], .tup [.val, .bool], [], [], fun x H => match x, H with
  | .tup [.v (.string r_0), .bs false r_1], [] => some (r_0, r_1)
  | _, _ => none⟩
def impl_LiveMap.s : Spec := mkS [.agg [.val, .val, .val, .con .str], .val, .con (.int .i64)] (fun k avs H => match avs, H with
  | [.agg [.v (.int .i64 a0_0), .v (.int .i64 a0_1), .v (.int .i64 a0_2), .con .str a0_3], .v (.string a1), .con (.int .i64) a2], [] => some (impl_LiveMap.f k a0_0 a0_1 a0_2 a0_3 a1 a2)
  | _, _ => none) (fun r => (.tup [.v (.string r.1), .bs false r.2], []))
def impl_LiveMap.E : Env := [((35, []), impl_walked.s)]
def impl_LiveMap.G (k p : Nat) (avs : List AV) (H : List HE) : Option (ByteArray × Bool) := none
set_option maxRecDepth 100000 in
theorem impl_LiveMap.eq (k : Nat) (a0_0 : Int) (a0_1 : Int) (a0_2 : Int) (a0_3 : List ByteArray) (a1 : ByteArray) (a2 : List Int) : fromTop Tryz.prog impl_LiveMap.E k impl_LiveMap.a (impl_LiveMap.G k) 1000 (bodyOf Tryz.prog 11) [.agg [.v (.int .i64 a0_0), .v (.int .i64 a0_1), .v (.int .i64 a0_2), .con .str a0_3], .v (.string a1), .con (.int .i64) a2] [] = impl_LiveMap.f k a0_0 a0_1 a0_2 a0_3 a1 a2 := by kernel_rfl
theorem impl_LiveMap.E_ok : EnvOk Tryz.prog impl_LiveMap.E := ⟨⟨impl_walked.sound, callable_of (by kernel_rfl)⟩, trivial⟩
theorem impl_LiveMap.sound : Sound Tryz.prog 11 impl_LiveMap.s := by
  refine func_sound (f := impl_LiveMap.a) (G := impl_LiveMap.G) (fn := Tryz.f11) (body := bodyOf Tryz.prog 11) 1000 (by kernel_rfl) impl_LiveMap.E_ok Tryz.func11 (by kernel_rfl) (by kernel_rfl) (by kernel_rfl) (ptsOk_of (by kernel_rfl)) ?_ ?_ ?_ ?_
  · intro r H x h
    unfold impl_LiveMap.a at h
    simp only at h
    split at h
    · cases h; rfl
    · cases h
  · intro q avs H; rfl
  · intro k q pt avs H x _ h; cases h
  · intro k avs H o h
    try dsimp only at h
    split at h
    · cases h; exact impl_LiveMap.eq _ _ _ _ _ _ _
    · cases h

def spec_LiveMap.a : FnA (ByteArray × Bool) := ⟨23, [.tmp 6, .tmp 7], .tup [.val, .bool], [], [], fun x H => match x, H with
  | .tup [.v (.string r_0), .bs false r_1], [] => some (r_0, r_1)
  | _, _ => none⟩
def spec_LiveMap.s : Spec := mkS [.agg [.val, .val, .val, .con .str], .val, .con (.int .i64)] (fun k avs H => match avs, H with
  | [.agg [.v (.int .i64 a0_0), .v (.int .i64 a0_1), .v (.int .i64 a0_2), .con .str a0_3], .v (.string a1), .con (.int .i64) a2], [] => some (spec_LiveMap.f k a0_0 a0_1 a0_2 a0_3 a1 a2)
  | _, _ => none) (fun r => (.tup [.v (.string r.1), .bs false r.2], []))
def spec_LiveMap.E : Env := [((14, []), spec_Walk.s), ((33, []), spec_l10Map.s)]
def spec_LiveMap.G (k p : Nat) (avs : List AV) (H : List HE) : Option (ByteArray × Bool) := none
set_option maxRecDepth 100000 in
theorem spec_LiveMap.eq (k : Nat) (a0_0 : Int) (a0_1 : Int) (a0_2 : Int) (a0_3 : List ByteArray) (a1 : ByteArray) (a2 : List Int) : fromTop Tryz.prog spec_LiveMap.E k spec_LiveMap.a (spec_LiveMap.G k) 1000 (bodyOf Tryz.prog 8) [.agg [.v (.int .i64 a0_0), .v (.int .i64 a0_1), .v (.int .i64 a0_2), .con .str a0_3], .v (.string a1), .con (.int .i64) a2] [] = spec_LiveMap.f k a0_0 a0_1 a0_2 a0_3 a1 a2 := by kernel_rfl
theorem spec_LiveMap.E_ok : EnvOk Tryz.prog spec_LiveMap.E := ⟨⟨spec_Walk.sound, callable_of (by kernel_rfl)⟩, ⟨spec_l10Map.sound, callable_of (by kernel_rfl)⟩, trivial⟩
theorem spec_LiveMap.sound : Sound Tryz.prog 8 spec_LiveMap.s := by
  refine func_sound (f := spec_LiveMap.a) (G := spec_LiveMap.G) (fn := Tryz.f8) (body := bodyOf Tryz.prog 8) 1000 (by kernel_rfl) spec_LiveMap.E_ok Tryz.func8 (by kernel_rfl) (by kernel_rfl) (by kernel_rfl) (ptsOk_of (by kernel_rfl)) ?_ ?_ ?_ ?_
  · intro r H x h
    unfold spec_LiveMap.a at h
    simp only at h
    split at h
    · cases h; rfl
    · cases h
  · intro q avs H; rfl
  · intro k q pt avs H x _ h; cases h
  · intro k avs H o h
    try dsimp only at h
    split at h
    · cases h; exact spec_LiveMap.eq _ _ _ _ _ _ _
    · cases h

def laws_sameInts.a : FnA (Bool) := ⟨26, [.tmp 4], .bool, [], [⟨14, [0, 1, 5], [.con (.int .i64), .con (.int .i64), .val], []⟩], fun x H => match x, H with
  | .bs false r, [] => some r
  | _, _ => none⟩
def laws_sameInts.s : Spec := mkS [.con (.int .i64), .con (.int .i64)] (fun k avs H => match avs, H with
  | [.con (.int .i64) a0, .con (.int .i64) a1], [] => some (laws_sameInts.f k a0 a1)
  | _, _ => none) (fun r => (.bs false r, []))
def laws_sameInts.E : Env := []
def laws_sameInts.G14 (k : Nat) (avs : List AV) (H : List HE) : Option (Bool) := match avs, H with
  | [.con (.int .i64) x0, .con (.int .i64) x1, .v (.int .i64 x5)], [] => laws_sameInts.p14 k x0 x1 x5
  | _, _ => none
def laws_sameInts.G (k p : Nat) (avs : List AV) (H : List HE) : Option (Bool) := (pick1 14 (laws_sameInts.G14 k avs H) none p)
set_option maxRecDepth 100000 in
theorem laws_sameInts.eq (k : Nat) (a0 : List Int) (a1 : List Int) : fromTop Tryz.prog laws_sameInts.E k laws_sameInts.a (laws_sameInts.G k) 1000 (bodyOf Tryz.prog 26) [.con (.int .i64) a0, .con (.int .i64) a1] [] = laws_sameInts.f k a0 a1 := by kernel_rfl
set_option maxRecDepth 100000 in
theorem laws_sameInts.eq14 (k : Nat) (x0 : List Int) (x1 : List Int) (x5 : Int) : fromPt Tryz.prog laws_sameInts.E k laws_sameInts.a (laws_sameInts.G k) 1000 (bodyOf Tryz.prog 26) 14 [.con (.int .i64) x0, .con (.int .i64) x1, .v (.int .i64 x5)] [] = laws_sameInts.p14 (k + 1) x0 x1 x5 := by kernel_rfl
theorem laws_sameInts.G14_0 {avs : List AV} {H : List HE} : laws_sameInts.G14 0 avs H = none := by unfold laws_sameInts.G14; split <;> rfl
theorem laws_sameInts.G14_s (k : Nat) {avs : List AV} {H : List HE} {x : Bool} (h : laws_sameInts.G14 (k + 1) avs H = some x) : fromPt Tryz.prog laws_sameInts.E k laws_sameInts.a (laws_sameInts.G k) 1000 (bodyOf Tryz.prog 26) 14 avs H = some x := by
  unfold laws_sameInts.G14 at h
  split at h
  · rw [← h]; exact laws_sameInts.eq14 _ _ _ _
  · cases h
theorem laws_sameInts.E_ok : EnvOk Tryz.prog laws_sameInts.E := trivial
theorem laws_sameInts.sound : Sound Tryz.prog 26 laws_sameInts.s := by
  refine func_sound (f := laws_sameInts.a) (G := laws_sameInts.G) (fn := Tryz.f26) (body := bodyOf Tryz.prog 26) 1000 (by kernel_rfl) laws_sameInts.E_ok Tryz.func26 (by kernel_rfl) (by kernel_rfl) (by kernel_rfl) (ptsOk_of (by kernel_rfl)) ?_ ?_ ?_ ?_
  · intro r H x h
    unfold laws_sameInts.a at h
    simp only at h
    split at h
    · cases h; rfl
    · cases h
  · exact fun q avs H => pick1_none laws_sameInts.G14_0 (rfl)
  · intro k q pt avs H x _ h
    rcases pick1_some h with ⟨rfl, h⟩ | h
    · exact laws_sameInts.G14_s _ h
    cases h
  · intro k avs H o h
    try dsimp only at h
    split at h
    · cases h; exact laws_sameInts.eq _ _ _
    · cases h

def impl_LinesOf.a : FnA (List Int) := ⟨21, [.tmp 2], .row 2 (.int .i64), [], [⟨16, [0, 3, 9], [.val, .row 2 (.int .i64), .val], []⟩], fun x H => match x, H with
  | .own 0, [.row 2 (.int .i64) r] => some r
  | _, _ => none⟩
def impl_LinesOf.s : Spec := mkS [.val] (fun k avs H => match avs, H with
  | [.v (.string a0)], [] => some (impl_LinesOf.f k a0)
  | _, _ => none) (fun r => (.own 0, [.row 2 (.int .i64) r]))
def impl_LinesOf.E : Env := [((55, []), impl_isMap.s), ((56, []), impl_isTaken.s)]
def impl_LinesOf.G16 (k : Nat) (avs : List AV) (H : List HE) : Option (List Int) := match avs, H with
  | [.v (.string x0), .own 0, .v (.int .i64 x9)], [.row 2 (.int .i64) x3] => impl_LinesOf.p16 k x0 x3 x9
  | _, _ => none
def impl_LinesOf.G (k p : Nat) (avs : List AV) (H : List HE) : Option (List Int) := (pick1 16 (impl_LinesOf.G16 k avs H) none p)
set_option maxRecDepth 100000 in
theorem impl_LinesOf.eq (k : Nat) (a0 : ByteArray) : fromTop Tryz.prog impl_LinesOf.E k impl_LinesOf.a (impl_LinesOf.G k) 1000 (bodyOf Tryz.prog 27) [.v (.string a0)] [] = impl_LinesOf.f k a0 := by kernel_rfl
set_option maxRecDepth 100000 in
theorem impl_LinesOf.eq16 (k : Nat) (x0 : ByteArray) (x3 : List Int) (x9 : Int) : fromPt Tryz.prog impl_LinesOf.E k impl_LinesOf.a (impl_LinesOf.G k) 1000 (bodyOf Tryz.prog 27) 16 [.v (.string x0), .own 0, .v (.int .i64 x9)] [.row 2 (.int .i64) x3] = impl_LinesOf.p16 (k + 1) x0 x3 x9 := by kernel_rfl
theorem impl_LinesOf.G16_0 {avs : List AV} {H : List HE} : impl_LinesOf.G16 0 avs H = none := by unfold impl_LinesOf.G16; split <;> rfl
theorem impl_LinesOf.G16_s (k : Nat) {avs : List AV} {H : List HE} {x : List Int} (h : impl_LinesOf.G16 (k + 1) avs H = some x) : fromPt Tryz.prog impl_LinesOf.E k impl_LinesOf.a (impl_LinesOf.G k) 1000 (bodyOf Tryz.prog 27) 16 avs H = some x := by
  unfold impl_LinesOf.G16 at h
  split at h
  · rw [← h]; exact impl_LinesOf.eq16 _ _ _ _
  · cases h
theorem impl_LinesOf.E_ok : EnvOk Tryz.prog impl_LinesOf.E := ⟨⟨impl_isMap.sound, callable_of (by kernel_rfl)⟩, ⟨impl_isTaken.sound, callable_of (by kernel_rfl)⟩, trivial⟩
theorem impl_LinesOf.sound : Sound Tryz.prog 27 impl_LinesOf.s := by
  refine func_sound (f := impl_LinesOf.a) (G := impl_LinesOf.G) (fn := Tryz.f27) (body := bodyOf Tryz.prog 27) 1000 (by kernel_rfl) impl_LinesOf.E_ok Tryz.func27 (by kernel_rfl) (by kernel_rfl) (by kernel_rfl) (ptsOk_of (by kernel_rfl)) ?_ ?_ ?_ ?_
  · intro r H x h
    unfold impl_LinesOf.a at h
    simp only at h
    split at h
    · cases h; rfl
    · cases h
  · exact fun q avs H => pick1_none impl_LinesOf.G16_0 (rfl)
  · intro k q pt avs H x _ h
    rcases pick1_some h with ⟨rfl, h⟩ | h
    · exact impl_LinesOf.G16_s _ h
    cases h
  · intro k avs H o h
    try dsimp only at h
    split at h
    · cases h; exact impl_LinesOf.eq _ _
    · cases h

def impl_OldObject.a : FnA (Int × List Int × Bool) := ⟨19, [.cell 6 53, .tmp 7], .tup [.agg [.val, .row 2 (.int .i64)], .bool], [], [], fun x H => match x, H with
  | .tup [.agg [.v (.int .i64 r_0_0), .own 0], .bs false r_1], [.row 2 (.int .i64) r_0_1] => some (r_0_0, r_0_1, r_1)
  | _, _ => none⟩
def impl_OldObject.s : Spec := mkS [.agg [.val, .val, .val, .con .str], .val, .val] (fun k avs H => match avs, H with
  | [.agg [.v (.int .i64 a0_0), .v (.int .i64 a0_1), .v (.int .i64 a0_2), .con .str a0_3], .v (.string a1), .v (.int .i64 a2)], [] => some (impl_OldObject.f k a0_0 a0_1 a0_2 a0_3 a1 a2)
  | _, _ => none) (fun r => (.tup [.agg [.v (.int .i64 r.1), .own 0], .bs false r.2.2], [.row 2 (.int .i64) r.2.1]))
def impl_OldObject.E : Env := [((57, []), impl_isImage.s), ((58, []), impl_oldObject.s)]
def impl_OldObject.G (k p : Nat) (avs : List AV) (H : List HE) : Option (Int × List Int × Bool) := none
set_option maxRecDepth 100000 in
theorem impl_OldObject.eq (k : Nat) (a0_0 : Int) (a0_1 : Int) (a0_2 : Int) (a0_3 : List ByteArray) (a1 : ByteArray) (a2 : Int) : fromTop Tryz.prog impl_OldObject.E k impl_OldObject.a (impl_OldObject.G k) 1000 (bodyOf Tryz.prog 28) [.agg [.v (.int .i64 a0_0), .v (.int .i64 a0_1), .v (.int .i64 a0_2), .con .str a0_3], .v (.string a1), .v (.int .i64 a2)] [] = impl_OldObject.f k a0_0 a0_1 a0_2 a0_3 a1 a2 := by kernel_rfl
theorem impl_OldObject.E_ok : EnvOk Tryz.prog impl_OldObject.E := ⟨⟨impl_isImage.sound, callable_of (by kernel_rfl)⟩, ⟨impl_oldObject.sound, callable_of (by kernel_rfl)⟩, trivial⟩
theorem impl_OldObject.sound : Sound Tryz.prog 28 impl_OldObject.s := by
  refine func_sound (f := impl_OldObject.a) (G := impl_OldObject.G) (fn := Tryz.f28) (body := bodyOf Tryz.prog 28) 1000 (by kernel_rfl) impl_OldObject.E_ok Tryz.func28 (by kernel_rfl) (by kernel_rfl) (by kernel_rfl) (ptsOk_of (by kernel_rfl)) ?_ ?_ ?_ ?_
  · intro r H x h
    unfold impl_OldObject.a at h
    simp only at h
    split at h
    · cases h; rfl
    · cases h
  · intro q avs H; rfl
  · intro k q pt avs H x _ h; cases h
  · intro k avs H o h
    try dsimp only at h
    split at h
    · cases h; exact impl_OldObject.eq _ _ _ _ _ _ _
    · cases h

def laws_has.a : FnA (Bool) := ⟨18, [.tmp 4], .bool, [], [⟨6, [0, 1, 5], [.con (.int .i64), .val, .val], []⟩], fun x H => match x, H with
  | .bs false r, [] => some r
  | _, _ => none⟩
def laws_has.s : Spec := mkS [.con (.int .i64), .val] (fun k avs H => match avs, H with
  | [.con (.int .i64) a0, .v (.int .i64 a1)], [] => some (laws_has.f k a0 a1)
  | _, _ => none) (fun r => (.bs false r, []))
def laws_has.E : Env := []
def laws_has.G6 (k : Nat) (avs : List AV) (H : List HE) : Option (Bool) := match avs, H with
  | [.con (.int .i64) x0, .v (.int .i64 x1), .v (.int .i64 x5)], [] => laws_has.p6 k x0 x1 x5
  | _, _ => none
def laws_has.G (k p : Nat) (avs : List AV) (H : List HE) : Option (Bool) := (pick1 6 (laws_has.G6 k avs H) none p)
set_option maxRecDepth 100000 in
theorem laws_has.eq (k : Nat) (a0 : List Int) (a1 : Int) : fromTop Tryz.prog laws_has.E k laws_has.a (laws_has.G k) 1000 (bodyOf Tryz.prog 29) [.con (.int .i64) a0, .v (.int .i64 a1)] [] = laws_has.f k a0 a1 := by kernel_rfl
set_option maxRecDepth 100000 in
theorem laws_has.eq6 (k : Nat) (x0 : List Int) (x1 : Int) (x5 : Int) : fromPt Tryz.prog laws_has.E k laws_has.a (laws_has.G k) 1000 (bodyOf Tryz.prog 29) 6 [.con (.int .i64) x0, .v (.int .i64 x1), .v (.int .i64 x5)] [] = laws_has.p6 (k + 1) x0 x1 x5 := by kernel_rfl
theorem laws_has.G6_0 {avs : List AV} {H : List HE} : laws_has.G6 0 avs H = none := by unfold laws_has.G6; split <;> rfl
theorem laws_has.G6_s (k : Nat) {avs : List AV} {H : List HE} {x : Bool} (h : laws_has.G6 (k + 1) avs H = some x) : fromPt Tryz.prog laws_has.E k laws_has.a (laws_has.G k) 1000 (bodyOf Tryz.prog 29) 6 avs H = some x := by
  unfold laws_has.G6 at h
  split at h
  · rw [← h]; exact laws_has.eq6 _ _ _ _
  · cases h
theorem laws_has.E_ok : EnvOk Tryz.prog laws_has.E := trivial
theorem laws_has.sound : Sound Tryz.prog 29 laws_has.s := by
  refine func_sound (f := laws_has.a) (G := laws_has.G) (fn := Tryz.f29) (body := bodyOf Tryz.prog 29) 1000 (by kernel_rfl) laws_has.E_ok Tryz.func29 (by kernel_rfl) (by kernel_rfl) (by kernel_rfl) (ptsOk_of (by kernel_rfl)) ?_ ?_ ?_ ?_
  · intro r H x h
    unfold laws_has.a at h
    simp only at h
    split at h
    · cases h; rfl
    · cases h
  · exact fun q avs H => pick1_none laws_has.G6_0 (rfl)
  · intro k q pt avs H x _ h
    rcases pick1_some h with ⟨rfl, h⟩ | h
    · exact laws_has.G6_s _ h
    cases h
  · intro k avs H o h
    try dsimp only at h
    split at h
    · cases h; exact laws_has.eq _ _ _
    · cases h

def impl_RunOf.a : FnA (Int) := ⟨8, [.tmp 2], .val, [], [], fun x H => match x, H with
  | .v (.int .i64 r), [] => some r
  | _, _ => none⟩
def impl_RunOf.s : Spec := mkS [.val] (fun k avs H => match avs, H with
  | [.v (.string a0)], [] => some (impl_RunOf.f a0)
  | _, _ => none) (fun r => (.v (.int .i64 r), []))
def impl_RunOf.E : Env := [((59, []), impl_isType.s), ((60, []), impl_runOf.s)]
def impl_RunOf.G (k p : Nat) (avs : List AV) (H : List HE) : Option (Int) := none
set_option maxRecDepth 100000 in
theorem impl_RunOf.eq (k : Nat) (a0 : ByteArray) : fromTop Tryz.prog impl_RunOf.E k impl_RunOf.a (impl_RunOf.G k) 1000 (bodyOf Tryz.prog 30) [.v (.string a0)] [] = impl_RunOf.f a0 := by kernel_rfl
theorem impl_RunOf.E_ok : EnvOk Tryz.prog impl_RunOf.E := ⟨⟨impl_isType.sound, callable_of (by kernel_rfl)⟩, ⟨impl_runOf.sound, callable_of (by kernel_rfl)⟩, trivial⟩
theorem impl_RunOf.sound : Sound Tryz.prog 30 impl_RunOf.s := by
  refine func_sound (f := impl_RunOf.a) (G := impl_RunOf.G) (fn := Tryz.f30) (body := bodyOf Tryz.prog 30) 1000 (by kernel_rfl) impl_RunOf.E_ok Tryz.func30 (by kernel_rfl) (by kernel_rfl) (by kernel_rfl) (ptsOk_of (by kernel_rfl)) ?_ ?_ ?_ ?_
  · intro r H x h
    unfold impl_RunOf.a at h
    simp only at h
    split at h
    · cases h; rfl
    · cases h
  · intro q avs H; rfl
  · intro k q pt avs H x _ h; cases h
  · intro k avs H o h
    try dsimp only at h
    split at h
    · cases h; exact impl_RunOf.eq _ _
    · cases h

def impl_isYoung.a : FnA (Bool) := ⟨6, [.tmp 2], .bool, [], [], fun x H => match x, H with
  | .bs false r, [] => some r
  | _, _ => none⟩
def impl_isYoung.s : Spec := mkS [.val] (fun k avs H => match avs, H with
  | [.v (.int .i64 a0)], [] => some (impl_isYoung.f a0)
  | _, _ => none) (fun r => (.bs false r, []))
def impl_isYoung.E : Env := [((102, []), impl_RefKind.s)]
def impl_isYoung.G (k p : Nat) (avs : List AV) (H : List HE) : Option (Bool) := none
set_option maxRecDepth 100000 in
theorem impl_isYoung.eq (k : Nat) (a0 : Int) : fromTop Tryz.prog impl_isYoung.E k impl_isYoung.a (impl_isYoung.G k) 1000 (bodyOf Tryz.prog 62) [.v (.int .i64 a0)] [] = impl_isYoung.f a0 := by kernel_rfl
theorem impl_isYoung.E_ok : EnvOk Tryz.prog impl_isYoung.E := ⟨⟨impl_RefKind.sound, callable_of (by kernel_rfl)⟩, trivial⟩
theorem impl_isYoung.sound : Sound Tryz.prog 62 impl_isYoung.s := by
  refine func_sound (f := impl_isYoung.a) (G := impl_isYoung.G) (fn := Tryz.f62) (body := bodyOf Tryz.prog 62) 1000 (by kernel_rfl) impl_isYoung.E_ok Tryz.func62 (by kernel_rfl) (by kernel_rfl) (by kernel_rfl) (ptsOk_of (by kernel_rfl)) ?_ ?_ ?_ ?_
  · intro r H x h
    unfold impl_isYoung.a at h
    simp only at h
    split at h
    · cases h; rfl
    · cases h
  · intro q avs H; rfl
  · intro k q pt avs H x _ h; cases h
  · intro k avs H o h
    try dsimp only at h
    split at h
    · cases h; exact impl_isYoung.eq _ _
    · cases h

def impl_PlaceOf.a : FnA (Int) := ⟨13, [.tmp 2], .val, [], [], fun x H => match x, H with
  | .v (.int .i64 r), [] => some r
  | _, _ => none⟩
def impl_PlaceOf.s : Spec := mkS [.val] (fun k avs H => match avs, H with
  | [.v (.int .i64 a0)], [] => some (impl_PlaceOf.f a0)
  | _, _ => none) (fun r => (.v (.int .i64 r), []))
def impl_PlaceOf.E : Env := [((61, []), impl_isOld.s), ((62, []), impl_isYoung.s)]
def impl_PlaceOf.G (k p : Nat) (avs : List AV) (H : List HE) : Option (Int) := none
set_option maxRecDepth 100000 in
theorem impl_PlaceOf.eq (k : Nat) (a0 : Int) : fromTop Tryz.prog impl_PlaceOf.E k impl_PlaceOf.a (impl_PlaceOf.G k) 1000 (bodyOf Tryz.prog 31) [.v (.int .i64 a0)] [] = impl_PlaceOf.f a0 := by kernel_rfl
theorem impl_PlaceOf.E_ok : EnvOk Tryz.prog impl_PlaceOf.E := ⟨⟨impl_isOld.sound, callable_of (by kernel_rfl)⟩, ⟨impl_isYoung.sound, callable_of (by kernel_rfl)⟩, trivial⟩
theorem impl_PlaceOf.sound : Sound Tryz.prog 31 impl_PlaceOf.s := by
  refine func_sound (f := impl_PlaceOf.a) (G := impl_PlaceOf.G) (fn := Tryz.f31) (body := bodyOf Tryz.prog 31) 1000 (by kernel_rfl) impl_PlaceOf.E_ok Tryz.func31 (by kernel_rfl) (by kernel_rfl) (by kernel_rfl) (ptsOk_of (by kernel_rfl)) ?_ ?_ ?_ ?_
  · intro r H x h
    unfold impl_PlaceOf.a at h
    simp only at h
    split at h
    · cases h; rfl
    · cases h
  · intro q avs H; rfl
  · intro k q pt avs H x _ h; cases h
  · intro k avs H o h
    try dsimp only at h
    split at h
    · cases h; exact impl_PlaceOf.eq _ _
    · cases h

def laws_FnWalked.a : FnA (Bool) := ⟨195, [.tmp 2], .bool, [], [⟨23, [3, 4, 6, 7, 8, 9, 10, 11, 12, 13, 80], [.box [.val, .val, .val, .con .str], .val, .row 2 (.int .i64), .bool, .row 2 (.int .i64), .bool, .val, .bool, .val, .bool, .bool], []⟩, ⟨36, [3, 4, 6, 11, 14, 15, 16], [.box [.val, .val, .val, .con .str], .val, .con (.int .i64), .bool, .val, .row 2 (.int .i64), .val], []⟩, ⟨50, [3, 4, 6, 11, 14, 15, 16, 17, 128], [.box [.val, .val, .val, .con .str], .val, .con (.int .i64), .bool, .val, .row 2 (.int .i64), .val, .box [.val, .row 2 (.int .i64)], .bool], []⟩, ⟨63, [3, 4, 6, 11, 14, 15, 16, 17, 19, 20], [.box [.val, .val, .val, .con .str], .val, .con (.int .i64), .bool, .val, .row 2 (.int .i64), .val, .box [.val, .row 2 (.int .i64)], .val, .val], []⟩, ⟨83, [3, 4, 6, 11, 14, 15, 16, 17, 21], [.box [.val, .val, .val, .con .str], .val, .con (.int .i64), .bool, .val, .row 2 (.int .i64), .val, .box [.val, .row 2 (.int .i64)], .val], []⟩], fun x H => match x, H with
  | .bs false r, [] => some r
  | _, _ => none⟩
def laws_FnWalked.s : Spec := mkS [.con (.int .u8)] (fun k avs H => match avs, H with
  | [.con (.int .u8) a0], [] => some (laws_FnWalked.f k a0)
  | _, _ => none) (fun r => (.bs false r, []))
def laws_FnWalked.E : Env := [((24, []), laws_big.s), ((25, []), spec_DrawWalk.s), ((15, []), impl_Walk.s), ((14, []), spec_Walk.s), ((11, []), impl_LiveMap.s), ((8, []), spec_LiveMap.s), ((26, []), laws_sameInts.s), ((28, []), impl_OldObject.s), ((29, []), laws_has.s), ((27, []), impl_LinesOf.s), ((30, []), impl_RunOf.s), ((31, []), impl_PlaceOf.s)]
def laws_FnWalked.G23 (k : Nat) (avs : List AV) (H : List HE) : Option (Bool) := match avs, H with
  | [.box 0 0, .v (.string x4), .own 1, .bs false x7, .own 2, .bs false x9, .v (.string x10), .bs false x11, .v (.string x12), .bs false x13, .bs false x80], [.box [.v (.int .i64 x3_0), .v (.int .i64 x3_1), .v (.int .i64 x3_2), .con .str x3_3], .row 2 (.int .i64) x6, .row 2 (.int .i64) x8] => laws_FnWalked.p23 k x3_0 x3_1 x3_2 x3_3 x4 x6 x7 x8 x9 x10 x11 x12 x13 x80
  | _, _ => none
def laws_FnWalked.G36 (k : Nat) (avs : List AV) (H : List HE) : Option (Bool) := match avs, H with
  | [.box 0 0, .v (.string x4), .con (.int .i64) x6, .bs false x11, .v (.int .i64 x14), .own 1, .v (.int .i64 x16)], [.box [.v (.int .i64 x3_0), .v (.int .i64 x3_1), .v (.int .i64 x3_2), .con .str x3_3], .row 2 (.int .i64) x15] => laws_FnWalked.p36 k x3_0 x3_1 x3_2 x3_3 x4 x6 x11 x14 x15 x16
  | _, _ => none
def laws_FnWalked.G50 (k : Nat) (avs : List AV) (H : List HE) : Option (Bool) := match avs, H with
  | [.box 0 0, .v (.string x4), .con (.int .i64) x6, .bs false x11, .v (.int .i64 x14), .own 1, .v (.int .i64 x16), .box 2 0, .bs false x128], [.box [.v (.int .i64 x3_0), .v (.int .i64 x3_1), .v (.int .i64 x3_2), .con .str x3_3], .row 2 (.int .i64) x15, .box [.v (.int .i64 x17_0), .own 3], .row 2 (.int .i64) x17_1] => laws_FnWalked.p50 k x3_0 x3_1 x3_2 x3_3 x4 x6 x11 x14 x15 x16 x17_0 x17_1 x128
  | _, _ => none
def laws_FnWalked.G63 (k : Nat) (avs : List AV) (H : List HE) : Option (Bool) := match avs, H with
  | [.box 0 0, .v (.string x4), .con (.int .i64) x6, .bs false x11, .v (.int .i64 x14), .own 1, .v (.int .i64 x16), .box 2 0, .v (.int .i64 x19), .v (.int .i64 x20)], [.box [.v (.int .i64 x3_0), .v (.int .i64 x3_1), .v (.int .i64 x3_2), .con .str x3_3], .row 2 (.int .i64) x15, .box [.v (.int .i64 x17_0), .own 3], .row 2 (.int .i64) x17_1] => laws_FnWalked.p63 k x3_0 x3_1 x3_2 x3_3 x4 x6 x11 x14 x15 x16 x17_0 x17_1 x19 x20
  | _, _ => none
def laws_FnWalked.G83 (k : Nat) (avs : List AV) (H : List HE) : Option (Bool) := match avs, H with
  | [.box 0 0, .v (.string x4), .con (.int .i64) x6, .bs false x11, .v (.int .i64 x14), .own 1, .v (.int .i64 x16), .box 2 0, .v (.int .i64 x21)], [.box [.v (.int .i64 x3_0), .v (.int .i64 x3_1), .v (.int .i64 x3_2), .con .str x3_3], .row 2 (.int .i64) x15, .box [.v (.int .i64 x17_0), .own 3], .row 2 (.int .i64) x17_1] => laws_FnWalked.p83 k x3_0 x3_1 x3_2 x3_3 x4 x6 x11 x14 x15 x16 x17_0 x17_1 x21
  | _, _ => none
def laws_FnWalked.G (k p : Nat) (avs : List AV) (H : List HE) : Option (Bool) := (pick1 23 (laws_FnWalked.G23 k avs H) (pick1 36 (laws_FnWalked.G36 k avs H) (pick1 50 (laws_FnWalked.G50 k avs H) (pick1 63 (laws_FnWalked.G63 k avs H) (pick1 83 (laws_FnWalked.G83 k avs H) none p) p) p) p) p)
set_option maxRecDepth 100000 in
theorem laws_FnWalked.eq (k : Nat) (a0 : List Int) : fromTop Tryz.prog laws_FnWalked.E k laws_FnWalked.a (laws_FnWalked.G k) 1000 (bodyOf Tryz.prog 6) [.con (.int .u8) a0] [] = laws_FnWalked.f k a0 := by kernel_rfl
set_option maxRecDepth 100000 in
theorem laws_FnWalked.eq23 (k : Nat) (x3_0 : Int) (x3_1 : Int) (x3_2 : Int) (x3_3 : List ByteArray) (x4 : ByteArray) (x6 : List Int) (x7 : Bool) (x8 : List Int) (x9 : Bool) (x10 : ByteArray) (x11 : Bool) (x12 : ByteArray) (x13 : Bool) (x80 : Bool) : fromPt Tryz.prog laws_FnWalked.E k laws_FnWalked.a (laws_FnWalked.G k) 1000 (bodyOf Tryz.prog 6) 23 [.box 0 0, .v (.string x4), .own 1, .bs false x7, .own 2, .bs false x9, .v (.string x10), .bs false x11, .v (.string x12), .bs false x13, .bs false x80] [.box [.v (.int .i64 x3_0), .v (.int .i64 x3_1), .v (.int .i64 x3_2), .con .str x3_3], .row 2 (.int .i64) x6, .row 2 (.int .i64) x8] = laws_FnWalked.p23 (k + 1) x3_0 x3_1 x3_2 x3_3 x4 x6 x7 x8 x9 x10 x11 x12 x13 x80 := by kernel_rfl
theorem laws_FnWalked.G23_0 {avs : List AV} {H : List HE} : laws_FnWalked.G23 0 avs H = none := by unfold laws_FnWalked.G23; split <;> rfl
theorem laws_FnWalked.G23_s (k : Nat) {avs : List AV} {H : List HE} {x : Bool} (h : laws_FnWalked.G23 (k + 1) avs H = some x) : fromPt Tryz.prog laws_FnWalked.E k laws_FnWalked.a (laws_FnWalked.G k) 1000 (bodyOf Tryz.prog 6) 23 avs H = some x := by
  unfold laws_FnWalked.G23 at h
  split at h
  · rw [← h]; exact laws_FnWalked.eq23 _ _ _ _ _ _ _ _ _ _ _ _ _ _ _
  · cases h
set_option maxRecDepth 100000 in
theorem laws_FnWalked.eq36 (k : Nat) (x3_0 : Int) (x3_1 : Int) (x3_2 : Int) (x3_3 : List ByteArray) (x4 : ByteArray) (x6 : List Int) (x11 : Bool) (x14 : Int) (x15 : List Int) (x16 : Int) : fromPt Tryz.prog laws_FnWalked.E k laws_FnWalked.a (laws_FnWalked.G k) 1000 (bodyOf Tryz.prog 6) 36 [.box 0 0, .v (.string x4), .con (.int .i64) x6, .bs false x11, .v (.int .i64 x14), .own 1, .v (.int .i64 x16)] [.box [.v (.int .i64 x3_0), .v (.int .i64 x3_1), .v (.int .i64 x3_2), .con .str x3_3], .row 2 (.int .i64) x15] = laws_FnWalked.p36 (k + 1) x3_0 x3_1 x3_2 x3_3 x4 x6 x11 x14 x15 x16 := by kernel_rfl
theorem laws_FnWalked.G36_0 {avs : List AV} {H : List HE} : laws_FnWalked.G36 0 avs H = none := by unfold laws_FnWalked.G36; split <;> rfl
theorem laws_FnWalked.G36_s (k : Nat) {avs : List AV} {H : List HE} {x : Bool} (h : laws_FnWalked.G36 (k + 1) avs H = some x) : fromPt Tryz.prog laws_FnWalked.E k laws_FnWalked.a (laws_FnWalked.G k) 1000 (bodyOf Tryz.prog 6) 36 avs H = some x := by
  unfold laws_FnWalked.G36 at h
  split at h
  · rw [← h]; exact laws_FnWalked.eq36 _ _ _ _ _ _ _ _ _ _ _
  · cases h
set_option maxRecDepth 100000 in
theorem laws_FnWalked.eq50 (k : Nat) (x3_0 : Int) (x3_1 : Int) (x3_2 : Int) (x3_3 : List ByteArray) (x4 : ByteArray) (x6 : List Int) (x11 : Bool) (x14 : Int) (x15 : List Int) (x16 : Int) (x17_0 : Int) (x17_1 : List Int) (x128 : Bool) : fromPt Tryz.prog laws_FnWalked.E k laws_FnWalked.a (laws_FnWalked.G k) 1000 (bodyOf Tryz.prog 6) 50 [.box 0 0, .v (.string x4), .con (.int .i64) x6, .bs false x11, .v (.int .i64 x14), .own 1, .v (.int .i64 x16), .box 2 0, .bs false x128] [.box [.v (.int .i64 x3_0), .v (.int .i64 x3_1), .v (.int .i64 x3_2), .con .str x3_3], .row 2 (.int .i64) x15, .box [.v (.int .i64 x17_0), .own 3], .row 2 (.int .i64) x17_1] = laws_FnWalked.p50 (k + 1) x3_0 x3_1 x3_2 x3_3 x4 x6 x11 x14 x15 x16 x17_0 x17_1 x128 := by kernel_rfl
theorem laws_FnWalked.G50_0 {avs : List AV} {H : List HE} : laws_FnWalked.G50 0 avs H = none := by unfold laws_FnWalked.G50; split <;> rfl
theorem laws_FnWalked.G50_s (k : Nat) {avs : List AV} {H : List HE} {x : Bool} (h : laws_FnWalked.G50 (k + 1) avs H = some x) : fromPt Tryz.prog laws_FnWalked.E k laws_FnWalked.a (laws_FnWalked.G k) 1000 (bodyOf Tryz.prog 6) 50 avs H = some x := by
  unfold laws_FnWalked.G50 at h
  split at h
  · rw [← h]; exact laws_FnWalked.eq50 _ _ _ _ _ _ _ _ _ _ _ _ _ _
  · cases h
set_option maxRecDepth 100000 in
theorem laws_FnWalked.eq63 (k : Nat) (x3_0 : Int) (x3_1 : Int) (x3_2 : Int) (x3_3 : List ByteArray) (x4 : ByteArray) (x6 : List Int) (x11 : Bool) (x14 : Int) (x15 : List Int) (x16 : Int) (x17_0 : Int) (x17_1 : List Int) (x19 : Int) (x20 : Int) : fromPt Tryz.prog laws_FnWalked.E k laws_FnWalked.a (laws_FnWalked.G k) 1000 (bodyOf Tryz.prog 6) 63 [.box 0 0, .v (.string x4), .con (.int .i64) x6, .bs false x11, .v (.int .i64 x14), .own 1, .v (.int .i64 x16), .box 2 0, .v (.int .i64 x19), .v (.int .i64 x20)] [.box [.v (.int .i64 x3_0), .v (.int .i64 x3_1), .v (.int .i64 x3_2), .con .str x3_3], .row 2 (.int .i64) x15, .box [.v (.int .i64 x17_0), .own 3], .row 2 (.int .i64) x17_1] = laws_FnWalked.p63 (k + 1) x3_0 x3_1 x3_2 x3_3 x4 x6 x11 x14 x15 x16 x17_0 x17_1 x19 x20 := by kernel_rfl
theorem laws_FnWalked.G63_0 {avs : List AV} {H : List HE} : laws_FnWalked.G63 0 avs H = none := by unfold laws_FnWalked.G63; split <;> rfl
theorem laws_FnWalked.G63_s (k : Nat) {avs : List AV} {H : List HE} {x : Bool} (h : laws_FnWalked.G63 (k + 1) avs H = some x) : fromPt Tryz.prog laws_FnWalked.E k laws_FnWalked.a (laws_FnWalked.G k) 1000 (bodyOf Tryz.prog 6) 63 avs H = some x := by
  unfold laws_FnWalked.G63 at h
  split at h
  · rw [← h]; exact laws_FnWalked.eq63 _ _ _ _ _ _ _ _ _ _ _ _ _ _ _
  · cases h
set_option maxRecDepth 100000 in
theorem laws_FnWalked.eq83 (k : Nat) (x3_0 : Int) (x3_1 : Int) (x3_2 : Int) (x3_3 : List ByteArray) (x4 : ByteArray) (x6 : List Int) (x11 : Bool) (x14 : Int) (x15 : List Int) (x16 : Int) (x17_0 : Int) (x17_1 : List Int) (x21 : Int) : fromPt Tryz.prog laws_FnWalked.E k laws_FnWalked.a (laws_FnWalked.G k) 1000 (bodyOf Tryz.prog 6) 83 [.box 0 0, .v (.string x4), .con (.int .i64) x6, .bs false x11, .v (.int .i64 x14), .own 1, .v (.int .i64 x16), .box 2 0, .v (.int .i64 x21)] [.box [.v (.int .i64 x3_0), .v (.int .i64 x3_1), .v (.int .i64 x3_2), .con .str x3_3], .row 2 (.int .i64) x15, .box [.v (.int .i64 x17_0), .own 3], .row 2 (.int .i64) x17_1] = laws_FnWalked.p83 (k + 1) x3_0 x3_1 x3_2 x3_3 x4 x6 x11 x14 x15 x16 x17_0 x17_1 x21 := by kernel_rfl
theorem laws_FnWalked.G83_0 {avs : List AV} {H : List HE} : laws_FnWalked.G83 0 avs H = none := by unfold laws_FnWalked.G83; split <;> rfl
theorem laws_FnWalked.G83_s (k : Nat) {avs : List AV} {H : List HE} {x : Bool} (h : laws_FnWalked.G83 (k + 1) avs H = some x) : fromPt Tryz.prog laws_FnWalked.E k laws_FnWalked.a (laws_FnWalked.G k) 1000 (bodyOf Tryz.prog 6) 83 avs H = some x := by
  unfold laws_FnWalked.G83 at h
  split at h
  · rw [← h]; exact laws_FnWalked.eq83 _ _ _ _ _ _ _ _ _ _ _ _ _ _
  · cases h
theorem laws_FnWalked.E_ok : EnvOk Tryz.prog laws_FnWalked.E := ⟨⟨laws_big.sound, callable_of (by kernel_rfl)⟩, ⟨spec_DrawWalk.sound, callable_of (by kernel_rfl)⟩, ⟨impl_Walk.sound, callable_of (by kernel_rfl)⟩, ⟨spec_Walk.sound, callable_of (by kernel_rfl)⟩, ⟨impl_LiveMap.sound, callable_of (by kernel_rfl)⟩, ⟨spec_LiveMap.sound, callable_of (by kernel_rfl)⟩, ⟨laws_sameInts.sound, callable_of (by kernel_rfl)⟩, ⟨impl_OldObject.sound, callable_of (by kernel_rfl)⟩, ⟨laws_has.sound, callable_of (by kernel_rfl)⟩, ⟨impl_LinesOf.sound, callable_of (by kernel_rfl)⟩, ⟨impl_RunOf.sound, callable_of (by kernel_rfl)⟩, ⟨impl_PlaceOf.sound, callable_of (by kernel_rfl)⟩, trivial⟩
theorem laws_FnWalked.sound : Sound Tryz.prog 6 laws_FnWalked.s := by
  refine func_sound (f := laws_FnWalked.a) (G := laws_FnWalked.G) (fn := Tryz.f6) (body := bodyOf Tryz.prog 6) 1000 (by kernel_rfl) laws_FnWalked.E_ok Tryz.func6 (by kernel_rfl) (by kernel_rfl) (by kernel_rfl) (ptsOk_of (by kernel_rfl)) ?_ ?_ ?_ ?_
  · intro r H x h
    unfold laws_FnWalked.a at h
    simp only at h
    split at h
    · cases h; rfl
    · cases h
  · exact fun q avs H => pick1_none laws_FnWalked.G23_0 (pick1_none laws_FnWalked.G36_0 (pick1_none laws_FnWalked.G50_0 (pick1_none laws_FnWalked.G63_0 (pick1_none laws_FnWalked.G83_0 (rfl)))))
  · intro k q pt avs H x _ h
    rcases pick1_some h with ⟨rfl, h⟩ | h
    · exact laws_FnWalked.G23_s _ h
    rcases pick1_some h with ⟨rfl, h⟩ | h
    · exact laws_FnWalked.G36_s _ h
    rcases pick1_some h with ⟨rfl, h⟩ | h
    · exact laws_FnWalked.G50_s _ h
    rcases pick1_some h with ⟨rfl, h⟩ | h
    · exact laws_FnWalked.G63_s _ h
    rcases pick1_some h with ⟨rfl, h⟩ | h
    · exact laws_FnWalked.G83_s _ h
    cases h
  · intro k avs H o h
    try dsimp only at h
    split at h
    · cases h; exact laws_FnWalked.eq _ _
    · cases h
end
end Go.Proofs.YtlljkankongifaaGreatDoor.Abs
namespace Go.Proofs.YtlljkankongifaaGreatDoor.fnWalked
open Go.ChangeShapes Go.WideShapes Go.ChangeAt Go.RowKit
open Go.ChangeMaps (open_string shut_string)
set_option linter.unusedVariables false
theorem own : ownKnob Tryz.prog.godebug = none := by kernel_rfl
theorem laidOut : laidOutB Tryz.prog = true := by kernel_rfl
set_option maxRecDepth 100000 in
theorem lifted (os : Os) (started : os.Started) (H : Type) (enc : TypeId × Value → H) :
    ReturnsInHanded {} Tryz.checked os 6 .any (fun w args => (Rows.fnWalkedSpec.pre enc Tryz.prog Tryz.f6 Rows.fnWalkedRow.domain false w args ∧ laidMetH Tryz.prog Rows.fnWalkedRow.laid w) ∧ sizedMet enc Tryz.prog Tryz.f6 (OpenSpec.ofChange Rows.fnWalkedSpec) false w args) (Rows.fnWalkedSpec.post enc Tryz.prog Tryz.f6 false true false false) := by
  refine returnsInHanded_of_change_and (C := Tryz.checked) (X := fun w _ => laidMetH Tryz.prog Rows.fnWalkedRow.laid w) (fun _ _ _ hh h => h.of_heap hh) own started (by kernel_rfl) Tryz.func6
    (ChangeSpec.witness_shaped (enc := enc) (C := Tryz.checked) (os := os) (X := fun w _ => laidMetH Tryz.prog Rows.fnWalkedRow.laid w) false (World.laidAll Tryz.prog os Rows.fnWalkedRow.laid) #[.slice none 0 0] 8 (World.laidAll_os _ _ _)
      (World.shaped_of_ZipB (by kernel_rfl) (by kernel_rfl)) (by kernel_rfl) (by kernel_rfl) (by kernel_rfl)
      (by rw [MakeChecks.laidMetH_plain _ _ _ (by kernel_rfl)]; exact laidMet_laidAll _ (by kernel_rfl) (by kernel_rfl))) ?_
  intro W base args ds gs before hval0 hW hcnd hsz0 _ _
  have hval : ∀ (j : Nat) t v, Tryz.f6.params[j]? = some t → args[j]? = some v → Value.okWide Tryz.prog W .any base t v := hval0
  have hW' := hW
  obtain ⟨p, q, hA0, hV, rfl, hfz, hnd⟩ := hW
  have hA : DataW.TrodAll enc Tryz.prog W 0 (fun _ => true) true Tryz.f6.params.toList args.toList ds p := hA0
  rw [Tryz.params6] at hA hval
  obtain ⟨v0, vs0, d0, ds0, p0, q0, hargs, rfl, rfl, h0, r0⟩ := trodAll_cons hA
  obtain ⟨rfl, rfl, rfl⟩ := trodAll_nil r0
  obtain rfl : args = #[v0] := by cases args; simp_all
  obtain ⟨rfl, rfl⟩ := trodVars_none hV
  have hc0 := Abs.okWide_cell (by kernel_rfl) (hval 0 47 v0 rfl rfl)
  have k0 := h0
  have lt0 : ∀ x ∈ p0, x.block < W.heap.size := by obtain ⟨m, hm⟩ := k0; exact DataW.trod_lt m _ _ _ hm
  obtain ⟨fuel0, hf0⟩ := h0
  obtain ⟨x0, kr0, ok0⟩ := Abs.opens (M := Abs.Mut (fun _ => False) (Abs.hpOf []) (fun _ => undef)) (Abs.not_mut _) 9 47 (.sl (.int .u8)) (by kernel_rfl) _ _ _ hf0
  clear hA0 hval0 hsz0
  obtain ⟨k, hP⟩ := Abs.Pu.FnWalked x0 ok0
  refine (Abs.law_calls Abs.laws_FnWalked.sound (k := k) (avs := [Abs.argAV false (Abs.Ty.cells (.sl (.int .u8)) x0)]) (c := ⟨Bool, Abs.laws_FnWalked.f k x0, fun r => (.bs false r, [])⟩) (x := true) (Abs.mkS_pat rfl) hP rfl (w := W) (vals := [v0]) ⟨_, _, rfl, Abs.arg_cell (t := (.sl (.int .u8))) hc0 kr0 rfl, rfl⟩).mono fun e W' ⟨he, bel⟩ => ?_
  subst he
  exact ⟨_, rfl, _, _, _, [], _, [], hW', trodAll_mk1 (shut_bool Tryz.underlying4 _), (trodAll_cons_mk (Below.trod laidOut (by kernel_rfl) (of_decide_eq_true (by kernel_rfl)) k0 bel lt0) trodAll_mk0), rfl, bel.frame _, fun h => by cases h⟩
theorem over : Rows.fnWalkedRow.holds Tryz.pinned (OpenSpec.ofChange Rows.fnWalkedSpec) :=
  OpenClaim.holds_of_wide 6 Tryz.f6 rfl rfl rfl rfl rfl rfl rfl ⟨rfl, rfl, rfl, rfl, rfl⟩ rfl rfl rfl rfl rfl (by kernel_rfl) Tryz.func6 (by kernel_rfl)
    (of_decide_eq_true (by kernel_rfl)) (by unfold Func.isWrapper; first | (rw [if_pos (by decide +kernel)]; kernel_rfl) | (rw [if_neg (by decide +kernel)]; exact ⟨rfl, rfl⟩))
    (fun os started H enc _ => lifted os started H enc)
theorem card : Rows.FnWalkedCardSaid :=
  Claim7.holds_tied_plain_at .later [] [.data, .pinned] true (true, "882db582887f47515f3fe8e09e29518f1f846af009fdf8e5379e05ffd5f86039") false over (fun _ h => by cases h) (by kernel_rfl) (fun _ h => by cases h) fnWalked_row_tie rfl ⟨rfl, rfl⟩ (by kernel_rfl) rfl
    (fun f fn hf hfn => by
      obtain rfl : f = 6 := Option.some.inj ((show Tryz.prog.funcNamed "loop.example/g00648/laws.FnWalked" = some 6 by kernel_rfl).symm.trans hf) |>.symm
      obtain rfl : fn = Tryz.f6 := (Option.some.inj (Tryz.func6.symm.trans hfn)).symm
      exact ⟨by kernel_rfl, fun j t ht => by
        rw [Tryz.params6] at ht
        have hm : t ∈ [47] := by
          have hm_ := Array.mem_of_getElem? ht
          simpa using hm_
        have hall : ([47].all fun u => !Tryz.prog.wantsStandIn u) = true := by kernel_rfl
        exact (show Tryz.prog.wantsStandIn t = false by simpa using List.all_eq_true.1 hall t hm)⟩)
    (by kernel_rfl)
#print axioms card
end Go.Proofs.YtlljkankongifaaGreatDoor.fnWalked
namespace Go.Proofs.YtlljkankongifaaGreatDoor
/-- The row, under a short name, for the claim. -/
theorem fnWalked_holds : Rows.FnWalkedCardSaid := fnWalked.card
end Go.Proofs.YtlljkankongifaaGreatDoor
