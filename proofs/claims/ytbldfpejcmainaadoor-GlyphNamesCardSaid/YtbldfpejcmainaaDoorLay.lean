/- The shelf's contracts on strings.Builder, laid by hand over this seat's numbers (the shelf's own command passes them over: "the structure names a number which no body of the closure names"). -/
import Derived.Test.YtbldfpejcmainaaDoorProg
import Derived.KernelRfl
import Derived.Shelf.Strings.BuilderRune
import Derived.Shelf.Strings.OnBuilder
import Derived.Shelf.Strings.BuilderK
namespace Go.Proofs.YtbldfpejcmainaaDoor
open Go.RowKit Go.Lib
def bldRen : Go.Shelf.Ren := ⟨fun
  | 166 => 47
  | 168 => 25
  | 169 => 27
  | 240 => 39
  | 242 => 40
  | 276 => 54
  | 278 => 55
  | n => n, fun
  | 0 => 0 | 3 => 3 | 4 => 4 | 5 => 5 | 9 => 9 | 20 => 20 | 21 => 21 | 37 => 34 | 46 => 92 | 51 => 86
  | 70 => 47 | 72 => 49 | 75 => 51 | 80 => 40 | 127 => 68 | 164 => 89 | n => n, fun n => n⟩
theorem bldExtra : Builder.Extra Tryd.prog bldRen where
  sizeBuilder := by kernel_rfl
  liesBuilder := by kernel_rfl
  t5 := by kernel_rfl
  a5 := by intro w; kernel_rfl
  z5 := by intro w; kernel_rfl
  v5 := by intro w; kernel_rfl
  infoByte := by kernel_rfl
  cellsByte := by kernel_rfl
  sizeByte := by kernel_rfl
  neB5 := by decide
theorem lay168 : Lays.n168 Tryd.prog bldRen := by constructor <;> first | kernel_rfl | (intro w; kernel_rfl)
theorem lay166 : Lays.n166 Tryd.prog bldRen := by constructor <;> first | kernel_rfl | (intro w; kernel_rfl)
theorem lay169 : Lays.n169 Tryd.prog bldRen := by constructor <;> first | kernel_rfl | (intro w; kernel_rfl)
/-- A builder's variable at block b. -/
abbrev IsB (B b : Nat) (bs : List Value) (w : World) : Prop := Lib.IsBuilderF 49 5 B b bs w
abbrev AtB (B b : Nat) (bs : List Value) (w : World) : Prop := Lib.BuilderAtF 49 5 B b (.pointer (some ⟨b, 0, none⟩)) bs w
theorem bld_WriteRune (B b : Nat) (bs : List Value) (r : Int) (hr0 : -2147483648 ≤ r) (hr1 : r ≤ 2147483647) (w : World) (h : IsB B b bs w) (hlen : bs.length + 4 ≤ 140737488355328) (hBw : B ≤ w.heap.size) : Calls Tryd.prog 25 #[.pointer (some ⟨b, 0, none⟩), .int .i32 r] w fun e w' => e = .returned (.tuple #[.int .i64 ↑(Lib.runeCells r).length, .nilIface]) ∧ AtB B b (bs ++ Lib.runeCells r) w' ∧ Below B w w' ∧ Lib.OthersKept 5 (some b) w w' := Any.Builder_WriteRune_k lay168 bldExtra B b bs r hr0 hr1 w h hlen hBw
theorem bld_WriteString (B b : Nat) (bs : List Value) (s : ByteArray) (w : World) (h : IsB B b bs w) (hlen : bs.length + s.size ≤ 140737488355328) (hBw : B ≤ w.heap.size) : Calls Tryd.prog 47 #[.pointer (some ⟨b, 0, none⟩), .string s] w fun e w' => e = .returned (.tuple #[.int .i64 ↑s.size, .nilIface]) ∧ AtB B b (bs ++ Lib.strCells s) w' ∧ Below B w w' ∧ Lib.OthersKept 5 (some b) w w' := Any.Builder_WriteString_k lay166 bldExtra B b bs s w h hlen hBw
theorem bld_String (B b : Nat) (l : List UInt8) (w : World) (h : IsB B b (Lib.byteCells l) w) (hBw : B ≤ w.heap.size) : Calls Tryd.prog 27 #[.pointer (some ⟨b, 0, none⟩)] w fun e w' => e = .returned (.string ⟨l.toArray⟩) ∧ IsB B b (Lib.byteCells l) w' ∧ Below B w w' ∧ Lib.OthersKept 5 (some b) w w' := Any.Builder_String_any_k lay169 bldExtra B b l w h hBw
end Go.Proofs.YtbldfpejcmainaaDoor
