/- What the rows of package graph's laws share: a world for the witness, the library's variable, sizes. -/
import Derived.Test.YtfnmcpgajjkemaaDoorRd
import Derived.Test.YtfnmcpgajjkemaaDoorG18
import Derived.Test.YtfnmcpgajjkemaaDoorCards
import Derived.Test.YtfnmcpgajjkemaaDoorTie
import Derived.Lib.LaidIn
namespace Go.Proofs.YtfnmcpgajjkemaaDoor
open Go Go.RowKit Go.ChangeShapes Go.WideShapes Go.Proofs.YtfnmcpgajjkemaaDoor.SW
theorem own : ownKnob Tryd.prog.godebug = none := by kernel_rfl
theorem laidOut : laidOutB Tryd.prog = true := by kernel_rfl
theorem cells23 : Tryd.prog.cellsOf 23 = 1 := by kernel_rfl
theorem cells3 : Tryd.prog.cellsOf 3 = 1 := by kernel_rfl
/-- A world for the witness: the settled one, the two tables holding what the program's text lays. -/
noncomputable def laidWorld (os : Os) : World :=
  let w0 := World.holding Tryd.prog os ⟨#[], #[], []⟩
  let put (h : Array Obj) (g : Nat) (cs : Array Value) : Array Obj := h.modify g fun
    | .cells _ t frozen => .cells cs t frozen
    | o => o
  let h1 := put w0.heap 1 (Pinned.utf8FirstZ.map fun (z : Nat) => Value.int .u8 (z : Int)).toArray
  let h2 := put h1 2 ((([(128, 191), (160, 191), (128, 159), (144, 191), (128, 143)] : List (Int × Int)) ++ List.replicate 11 ((0, 0) : Int × Int)).flatMap fun (x : Int × Int) => [Value.int .u8 x.1, Value.int .u8 x.2]).toArray
  { w0 with heap := h2 }
theorem globI {W : World} (h : W.ShapedOpen Tryd.prog) : GlobI (Imm.of W) := by
  obtain ⟨m, hm⟩ := cell_of_shapedOpen_int (g := 0) (t := 3) (zero := #[.int .i64 0]) (k := .i64) h (by decide +kernel) (by kernel_rfl) rfl (by kernel_rfl) (by kernel_rfl) Tryd.underlying3
  refine ⟨m, fun w l hw => ?_⟩
  have h2 : w.heap[0]? = W.heap[0]? := by
    cases h3 : W.heap[0]? with
    | none => simp [World.cell?, h3] at hm
    | some o => exact hw.imm 0 o h3
  simp only [World.cell?] at hm ⊢
  rw [h2]; exact hm
theorem small {H : Type} {l : List (DataW H)} (h : Rows.uptoSmall H l = true) : Rows.uptoBulkAll l ≤ 1048576 := of_decide_eq_true h
theorem read38 : Tryd.prog.readableRec 38 = true ∧ 38 < Tryd.prog.types.size := ⟨by kernel_rfl, by decide +kernel⟩
theorem read9 : Tryd.prog.readableRec 9 = true ∧ 9 < Tryd.prog.types.size := ⟨by kernel_rfl, by decide +kernel⟩
theorem read22 : Tryd.prog.readableRec 22 = true ∧ 22 < Tryd.prog.types.size := ⟨by kernel_rfl, by decide +kernel⟩
theorem read23 : Tryd.prog.readableRec 23 = true ∧ 23 < Tryd.prog.types.size := ⟨by kernel_rfl, by decide +kernel⟩
end Go.Proofs.YtfnmcpgajjkemaaDoor
