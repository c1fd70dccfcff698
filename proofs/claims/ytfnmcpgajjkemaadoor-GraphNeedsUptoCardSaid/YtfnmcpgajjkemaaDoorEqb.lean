/- The symbolic walk, part 16: bools that are compared. -/
import Derived.Test.YtfnmcpgajjkemaaDoorSpoil
namespace Go.Proofs.YtfnmcpgajjkemaaDoor.SW
open Go Go.RowKit
section
variable {P : Program} {n : Nat} {I : Imm} {fr : List (Nat × Value)} {l : List Itm} {d : Option Tmp} {ty t t' : TypeId} {p : String} {af : Array Edge} {g : Option (Nat × Bool)} {x y : Operand} {a b : Bool}
theorem y_beq (T : Tab P) (h : T.sh t = .bool) (hx : ev fr x = some (.bool a)) (hy : ev fr y = some (.bool b)) : Yv P n I fr l ⟨d, .binOp .eql t x y t', ty, p, af, g⟩ (.bool (decide (a = b))) := fun c w ha _ => by
  have h2 := T.sh_ok t
  rw [h] at h2
  have h1 : (eqGuard .eql t x y (.bool a) (.bool b)).run P w = .ok () w := by unfold eqGuard; simp
  have h3 := run_equal_bool (P := P) w t a b h2
  simp [execOp, ha.eval hx, ha.eval hy, h1, binOp, h3]
  cases a <;> cases b <;> rfl
theorem y_bne (T : Tab P) (h : T.sh t = .bool) (hx : ev fr x = some (.bool a)) (hy : ev fr y = some (.bool b)) : Yv P n I fr l ⟨d, .binOp .neq t x y t', ty, p, af, g⟩ (.bool (!decide (a = b))) := fun c w ha _ => by
  have h2 := T.sh_ok t
  rw [h] at h2
  have h1 : (eqGuard .neq t x y (.bool a) (.bool b)).run P w = .ok () w := by unfold eqGuard; simp
  have h3 := run_equal_bool (P := P) w t a b h2
  simp [execOp, ha.eval hx, ha.eval hy, h1, binOp, h3]
  cases a <;> cases b <;> rfl
/-! ### Structs built of parts whose cells are told -/
def fillC (place : Nat → Option (Nat × Nat)) (cells : List Value) : List (Nat × List Value) → Option (List Value)
  | [] => some cells
  | (i, cs) :: r => match place i with
    | none => none
    | some (off, size) => if cs.length = size ∧ off + cs.length ≤ cells.length then fillC place (cells.take off ++ cs ++ cells.drop (off + cs.length)) r else none
theorem fillC_ok {place : Nat → Option (Nat × Nat)} : ∀ {vs : List (Nat × Value)} {cells us : List Value} {cvs : List (Nat × List Value)}, vs.map (fun x => (x.1, x.2.cells.toList)) = cvs → fillC place cells cvs = some us → Instr.fill place cells.toArray vs = some us.toArray
  | [], cells, us, cvs, hc, h => by
    subst hc
    simp only [List.map_nil, fillC, Option.some.injEq] at h
    subst h; rfl
  | (i, v) :: vs, cells, us, cvs, hc, h => by
    subst hc
    simp only [List.map_cons, fillC] at h
    unfold Instr.fill
    cases hp : place i with
    | none => rw [hp] at h; cases h
    | some os =>
      obtain ⟨off, size⟩ := os
      rw [hp] at h
      simp only at h ⊢
      split at h
      · rename_i hcond
        have h1 : ¬ (v.cells.size ≠ size ∨ off + v.cells.size > cells.toArray.size) := by
          have h2 : v.cells.toList.length = v.cells.size := Array.length_toList
          have h3 : cells.toArray.size = cells.length := by simp
          intro h4
          rcases h4 with h4 | h4
          · exact h4 (by omega)
          · omega
        rw [if_neg (by rw [Bool.or_eq_true, decide_eq_true_eq, decide_eq_true_eq]; exact h1)]
        have h5 := foldl_put off v.cells.toList 0 cells.toArray (by have := hcond.2; simp at this ⊢; omega)
        have h6 : Array.foldl (fun cs (x : Value × Nat) => cs.setIfInBounds (off + x.2) x.1) cells.toArray v.cells.zipIdx = (cells.take off ++ v.cells.toList ++ cells.drop (off + v.cells.toList.length)).toArray := by
          rw [← Array.foldl_toList, Array.toList_zipIdx]
          simpa using h5
        have h7 := fillC_ok (place := place) rfl h
        rw [← h7]
        congr 1
      · cases h
theorem y_buildc (T : Tab P) {fs : List (Nat × TypeId)} {zz : List Value} {bb : Nat} {parts : Array (Nat × Operand)} {vs : List (Nat × Value)} {cvs : List (Nat × List Value)} {us : List Value} (hs : T.sh t = .st fs) (ha : szAll T fs = true) (hz : T.info t = some (zz, bb)) (hp : evp fr parts.toList = some vs)
    (hc : vs.map (fun x => (x.1, x.2.cells.toList)) = cvs) (hf : fillC (fun (i : Nat) => (fs.map fun f => (f.1, szOf T f.2))[i]?) zz cvs = some us) : Yv P n I fr l ⟨d, .build t parts, ty, p, af, g⟩ (.agg us.toArray) :=
  y_build T hs ha hz hp (fillC_ok hc hf)
end
end Go.Proofs.YtfnmcpgajjkemaaDoor.SW
