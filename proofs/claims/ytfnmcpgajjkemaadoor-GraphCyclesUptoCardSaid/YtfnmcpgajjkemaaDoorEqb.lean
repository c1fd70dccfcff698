/- The symbolic walk, part 16: bools that are compared. -/
import Derived.Test.YtfnmcpgajjkemaaDoorSpoil
namespace Go.Proofs.YtfnmcpgajjkemaaDoor.SW
open Go Go.RowKit
section
variable {P : Program} {n : Nat} {I : Imm} {fr : List (Nat × Value)} {l : List Itm} {d : Option Tmp} {ty t t' : TypeId} {p : String} {af : Array Edge} {g : Option (Nat × Bool)} {x y : Operand} {a b : Bool}
theorem y_beq (T : Tab P) (h : T.sh t = .bool) (hx : ev fr x = some (.bool a)) (hy : ev fr y = some (.bool b)) : Yv P n I fr l ⟨d, .binOp .eql t x y t', ty, p, af, g⟩ (.bool (decide (a = b))) := fun c w ha _ => by
  have h2 := T.sh_ok t
  rw [h] at h2
  have h1 : (eqGuard .eql t x y (.bool a) (.bool b)).run P w = .ok () w := by unfold eqGuard; simp
  have h3 := run_equal_bool (P := P) w t a b h2
  simp [execOp, ha.eval hx, ha.eval hy, h1, binOp, h3]
  cases a <;> cases b <;> rfl
theorem y_bne (T : Tab P) (h : T.sh t = .bool) (hx : ev fr x = some (.bool a)) (hy : ev fr y = some (.bool b)) : Yv P n I fr l ⟨d, .binOp .neq t x y t', ty, p, af, g⟩ (.bool (!decide (a = b))) := fun c w ha _ => by
  have h2 := T.sh_ok t
  rw [h] at h2
  have h1 : (eqGuard .neq t x y (.bool a) (.bool b)).run P w = .ok () w := by unfold eqGuard; simp
  have h3 := run_equal_bool (P := P) w t a b h2
  simp [execOp, ha.eval hx, ha.eval hy, h1, binOp, h3]
  cases a <;> cases b <;> rfl
end
end Go.Proofs.YtfnmcpgajjkemaaDoor.SW
