/- scalar.Name and VarName. Printed by wip/gen/g6.py. -/
import Derived.Test.YtfnmcpgajjkemaaDoorLib
import Derived.Test.YtfnmcpgajjkemaaDoorTab
namespace Go.Proofs.YtfnmcpgajjkemaaDoor
open Go Go.RowKit Go.Proofs.YtfnmcpgajjkemaaDoor.SW
set_option maxRecDepth 100000
set_option maxHeartbeats 400000
def letterP (c : Int) : Bool := decide ((97 ≤ c ∧ c ≤ 122) ∨ (65 ≤ c ∧ c ≤ 90) ∨ (48 ≤ c ∧ c ≤ 57) ∨ c = 95)
def namedP (c : Int) : Bool := letterP c || decide (c = 46) || decide (c = 45)
def madeP (q : Int → Bool) (s : ByteArray) : Bool := decide (0 < s.size ∧ s.size ≤ 64 ∧ ∀ i, i < s.size → q (byteAt s i) = true)
def nameP (s : ByteArray) : Bool := madeP namedP s && !decide (byteAt s 0 = 45)
def varNameP (s : ByteArray) : Bool := madeP letterP s && (decide (byteAt s 0 < 48) || decide (57 < byteAt s 0))
theorem letterP_iff {c : Int} : letterP c = true ↔ ((97 ≤ c ∧ c ≤ 122) ∨ (65 ≤ c ∧ c ≤ 90) ∨ (48 ≤ c ∧ c ≤ 57) ∨ c = 95) := decide_eq_true_iff
theorem bl_true {b : Bool} {p : Prop} (hb : b = true ↔ p) (h : p) : Value.bool true = Value.bool b := by rw [hb.2 h]
theorem bl_dec {b : Bool} {p q : Prop} [Decidable q] (hb : b = true ↔ p) (h : q ↔ p) : Value.bool (decide q) = Value.bool b := by
  congr 1; rw [Bool.eq_iff_iff, hb, decide_eq_true_iff]; exact h
theorem bl_false {b : Bool} {p : Prop} (hb : b = true ↔ p) (h : ¬ p) : Value.bool false = Value.bool b := by
  congr 1; cases hb' : b with
  | true => exact absurd (hb.1 hb') h
  | false => rfl
theorem madeP_pos {q : Int → Bool} {s : ByteArray} (h : madeP q s = true) : 0 < s.size := (of_decide_eq_true h).1
theorem f69_ok {I : Imm} {l : List Itm} {c : Int} : Ct Tryd.prog 69 [.int .u8 c] I l (fun r J m => r = .bool (letterP c) ∧ I = J ∧ l = m) := by
  refine Ct_enter Tryd.func69 rfl rfl rfl ?_
  refine K_seq ?_
  refine K_region ?_
  refine W_y (y_assign rfl) rfl rfl rfl ?_
  refine K_nil ?_
  refine K_then ?_
  refine K_seq ?_
  refine K_region ?_
  refine W_y (y_move rfl) rfl rfl rfl ?_
  refine W_y (y_ge rfl rfl) rfl rfl rfl ?_
  refine W_y (y_move rfl) rfl rfl rfl ?_
  first | refine K_splitd 5 rfl (fun h1 => ?_) (fun h1 => ?_) | refine K_split 5 rfl (fun h1 => ?_) (fun h1 => ?_)
  ·
    refine W_y (y_move rfl) rfl rfl rfl ?_
    refine W_y (y_le rfl rfl) rfl rfl rfl ?_
    refine W_y (y_pick rfl rfl) rfl rfl rfl ?_
    refine W_y (y_move rfl) rfl rfl rfl ?_
    first | refine K_splitd 9 rfl (fun h2 => ?_) (fun h2 => ?_) | refine K_split 9 rfl (fun h2 => ?_) (fun h2 => ?_)
    ·
      refine W_skip rfl rfl rfl ?_
      refine W_skip rfl rfl rfl ?_
      refine W_skip rfl rfl rfl ?_
      refine W_skip rfl rfl rfl ?_
      refine W_skip rfl rfl rfl ?_
      refine W_skip rfl rfl rfl ?_
      refine W_y (y_pick rfl rfl) rfl rfl rfl ?_
      refine W_y (y_move rfl) rfl rfl rfl ?_
      refine W_skip rfl rfl rfl ?_
      refine W_skip rfl rfl rfl ?_
      refine W_skip rfl rfl rfl ?_
      refine W_skip rfl rfl rfl ?_
      refine W_skip rfl rfl rfl ?_
      refine W_skip rfl rfl rfl ?_
      refine W_y (y_pick rfl rfl) rfl rfl rfl ?_
      refine W_y (y_move rfl) rfl rfl rfl ?_
      refine W_skip rfl rfl rfl ?_
      refine W_skip rfl rfl rfl ?_
      refine W_y (y_pick rfl rfl) rfl rfl rfl ?_
      refine W_y (y_assign rfl) rfl rfl rfl ?_
      refine K_nil ?_
      refine K_then ?_
      refine K_ret ?_
      refine K_out1 rfl (.tmp rfl) ?_
      exact fun w hw => ⟨_, _, _, rfl, Imm.le.refl _, hw, by first | exact bl_true letterP_iff (by omega) | exact bl_dec letterP_iff (by omega) | exact bl_false letterP_iff (by omega), rfl, rfl⟩
    ·
      refine W_y (y_move rfl) rfl rfl rfl ?_
      refine W_y (y_ge rfl rfl) rfl rfl rfl ?_
      refine W_y (y_move rfl) rfl rfl rfl ?_
      first | refine K_splitd 12 rfl (fun h3 => ?_) (fun h3 => ?_) | refine K_split 12 rfl (fun h3 => ?_) (fun h3 => ?_)
      ·
        refine W_y (y_move rfl) rfl rfl rfl ?_
        refine W_y (y_le rfl rfl) rfl rfl rfl ?_
        refine W_y (y_pick rfl rfl) rfl rfl rfl ?_
        refine W_y (y_pick rfl rfl) rfl rfl rfl ?_
        refine W_y (y_move rfl) rfl rfl rfl ?_
        first | refine K_splitd 17 rfl (fun h4 => ?_) (fun h4 => ?_) | refine K_split 17 rfl (fun h4 => ?_) (fun h4 => ?_)
        ·
          refine W_skip rfl rfl rfl ?_
          refine W_skip rfl rfl rfl ?_
          refine W_skip rfl rfl rfl ?_
          refine W_skip rfl rfl rfl ?_
          refine W_skip rfl rfl rfl ?_
          refine W_skip rfl rfl rfl ?_
          refine W_y (y_pick rfl rfl) rfl rfl rfl ?_
          refine W_y (y_move rfl) rfl rfl rfl ?_
          refine W_skip rfl rfl rfl ?_
          refine W_skip rfl rfl rfl ?_
          refine W_y (y_pick rfl rfl) rfl rfl rfl ?_
          refine W_y (y_assign rfl) rfl rfl rfl ?_
          refine K_nil ?_
          refine K_then ?_
          refine K_ret ?_
          refine K_out1 rfl (.tmp rfl) ?_
          exact fun w hw => ⟨_, _, _, rfl, Imm.le.refl _, hw, by first | exact bl_true letterP_iff (by omega) | exact bl_dec letterP_iff (by omega) | exact bl_false letterP_iff (by omega), rfl, rfl⟩
        ·
          refine W_y (y_move rfl) rfl rfl rfl ?_
          refine W_y (y_ge rfl rfl) rfl rfl rfl ?_
          refine W_y (y_move rfl) rfl rfl rfl ?_
          first | refine K_splitd 20 rfl (fun h5 => ?_) (fun h5 => ?_) | refine K_split 20 rfl (fun h5 => ?_) (fun h5 => ?_)
          ·
            refine W_y (y_move rfl) rfl rfl rfl ?_
            refine W_y (y_le rfl rfl) rfl rfl rfl ?_
            refine W_y (y_pick rfl rfl) rfl rfl rfl ?_
            refine W_y (y_pick rfl rfl) rfl rfl rfl ?_
            refine W_y (y_move rfl) rfl rfl rfl ?_
            first | refine K_splitd 25 rfl (fun h6 => ?_) (fun h6 => ?_) | refine K_split 25 rfl (fun h6 => ?_) (fun h6 => ?_)
            ·
              refine W_skip rfl rfl rfl ?_
              refine W_skip rfl rfl rfl ?_
              refine W_y (y_pick rfl rfl) rfl rfl rfl ?_
              refine W_y (y_assign rfl) rfl rfl rfl ?_
              refine K_nil ?_
              refine K_then ?_
              refine K_ret ?_
              refine K_out1 rfl (.tmp rfl) ?_
              exact fun w hw => ⟨_, _, _, rfl, Imm.le.refl _, hw, by first | exact bl_true letterP_iff (by omega) | exact bl_dec letterP_iff (by omega) | exact bl_false letterP_iff (by omega), rfl, rfl⟩
            ·
              refine W_y (y_move rfl) rfl rfl rfl ?_
              refine W_y (by first | exact y_eq rfl rfl | exact y_seq rfl rfl) rfl rfl rfl ?_
              refine W_y (y_pick rfl rfl) rfl rfl rfl ?_
              refine W_y (y_assign rfl) rfl rfl rfl ?_
              refine K_nil ?_
              refine K_then ?_
              refine K_ret ?_
              refine K_out1 rfl (.tmp rfl) ?_
              exact fun w hw => ⟨_, _, _, rfl, Imm.le.refl _, hw, by first | exact bl_true letterP_iff (by omega) | exact bl_dec letterP_iff (by omega) | exact bl_false letterP_iff (by omega), rfl, rfl⟩
          ·
            refine W_skip rfl rfl rfl ?_
            refine W_skip rfl rfl rfl ?_
            refine W_y (y_pick rfl rfl) rfl rfl rfl ?_
            refine W_y (y_pick rfl rfl) rfl rfl rfl ?_
            refine W_y (y_move rfl) rfl rfl rfl ?_
            refine W_y (y_move rfl) rfl rfl rfl ?_
            refine W_y (by first | exact y_eq rfl rfl | exact y_seq rfl rfl) rfl rfl rfl ?_
            refine W_y (y_pick rfl rfl) rfl rfl rfl ?_
            refine W_y (y_assign rfl) rfl rfl rfl ?_
            refine K_nil ?_
            refine K_then ?_
            refine K_ret ?_
            refine K_out1 rfl (.tmp rfl) ?_
            exact fun w hw => ⟨_, _, _, rfl, Imm.le.refl _, hw, by first | exact bl_true letterP_iff (by omega) | exact bl_dec letterP_iff (by omega) | exact bl_false letterP_iff (by omega), rfl, rfl⟩
      ·
        refine W_skip rfl rfl rfl ?_
        refine W_skip rfl rfl rfl ?_
        refine W_y (y_pick rfl rfl) rfl rfl rfl ?_
        refine W_y (y_pick rfl rfl) rfl rfl rfl ?_
        refine W_y (y_move rfl) rfl rfl rfl ?_
        refine W_y (y_move rfl) rfl rfl rfl ?_
        refine W_y (y_ge rfl rfl) rfl rfl rfl ?_
        refine W_y (y_move rfl) rfl rfl rfl ?_
        first | refine K_splitd 20 rfl (fun h7 => ?_) (fun h7 => ?_) | refine K_split 20 rfl (fun h7 => ?_) (fun h7 => ?_)
        ·
          refine W_y (y_move rfl) rfl rfl rfl ?_
          refine W_y (y_le rfl rfl) rfl rfl rfl ?_
          refine W_y (y_pick rfl rfl) rfl rfl rfl ?_
          refine W_y (y_pick rfl rfl) rfl rfl rfl ?_
          refine W_y (y_move rfl) rfl rfl rfl ?_
          first | refine K_splitd 25 rfl (fun h8 => ?_) (fun h8 => ?_) | refine K_split 25 rfl (fun h8 => ?_) (fun h8 => ?_)
          ·
            refine W_skip rfl rfl rfl ?_
            refine W_skip rfl rfl rfl ?_
            refine W_y (y_pick rfl rfl) rfl rfl rfl ?_
            refine W_y (y_assign rfl) rfl rfl rfl ?_
            refine K_nil ?_
            refine K_then ?_
            refine K_ret ?_
            refine K_out1 rfl (.tmp rfl) ?_
            exact fun w hw => ⟨_, _, _, rfl, Imm.le.refl _, hw, by first | exact bl_true letterP_iff (by omega) | exact bl_dec letterP_iff (by omega) | exact bl_false letterP_iff (by omega), rfl, rfl⟩
          ·
            refine W_y (y_move rfl) rfl rfl rfl ?_
            refine W_y (by first | exact y_eq rfl rfl | exact y_seq rfl rfl) rfl rfl rfl ?_
            refine W_y (y_pick rfl rfl) rfl rfl rfl ?_
            refine W_y (y_assign rfl) rfl rfl rfl ?_
            refine K_nil ?_
            refine K_then ?_
            refine K_ret ?_
            refine K_out1 rfl (.tmp rfl) ?_
            exact fun w hw => ⟨_, _, _, rfl, Imm.le.refl _, hw, by first | exact bl_true letterP_iff (by omega) | exact bl_dec letterP_iff (by omega) | exact bl_false letterP_iff (by omega), rfl, rfl⟩
        ·
          refine W_skip rfl rfl rfl ?_
          refine W_skip rfl rfl rfl ?_
          refine W_y (y_pick rfl rfl) rfl rfl rfl ?_
          refine W_y (y_pick rfl rfl) rfl rfl rfl ?_
          refine W_y (y_move rfl) rfl rfl rfl ?_
          refine W_y (y_move rfl) rfl rfl rfl ?_
          refine W_y (by first | exact y_eq rfl rfl | exact y_seq rfl rfl) rfl rfl rfl ?_
          refine W_y (y_pick rfl rfl) rfl rfl rfl ?_
          refine W_y (y_assign rfl) rfl rfl rfl ?_
          refine K_nil ?_
          refine K_then ?_
          refine K_ret ?_
          refine K_out1 rfl (.tmp rfl) ?_
          exact fun w hw => ⟨_, _, _, rfl, Imm.le.refl _, hw, by first | exact bl_true letterP_iff (by omega) | exact bl_dec letterP_iff (by omega) | exact bl_false letterP_iff (by omega), rfl, rfl⟩
  ·
    refine W_skip rfl rfl rfl ?_
    refine W_skip rfl rfl rfl ?_
    refine W_y (y_pick rfl rfl) rfl rfl rfl ?_
    refine W_y (y_move rfl) rfl rfl rfl ?_
    refine W_y (y_move rfl) rfl rfl rfl ?_
    refine W_y (y_ge rfl rfl) rfl rfl rfl ?_
    refine W_y (y_move rfl) rfl rfl rfl ?_
    first | refine K_splitd 12 rfl (fun h9 => ?_) (fun h9 => ?_) | refine K_split 12 rfl (fun h9 => ?_) (fun h9 => ?_)
    ·
      refine W_y (y_move rfl) rfl rfl rfl ?_
      refine W_y (y_le rfl rfl) rfl rfl rfl ?_
      refine W_y (y_pick rfl rfl) rfl rfl rfl ?_
      refine W_y (y_pick rfl rfl) rfl rfl rfl ?_
      refine W_y (y_move rfl) rfl rfl rfl ?_
      first | refine K_splitd 17 rfl (fun h10 => ?_) (fun h10 => ?_) | refine K_split 17 rfl (fun h10 => ?_) (fun h10 => ?_)
      ·
        refine W_skip rfl rfl rfl ?_
        refine W_skip rfl rfl rfl ?_
        refine W_skip rfl rfl rfl ?_
        refine W_skip rfl rfl rfl ?_
        refine W_skip rfl rfl rfl ?_
        refine W_skip rfl rfl rfl ?_
        refine W_y (y_pick rfl rfl) rfl rfl rfl ?_
        refine W_y (y_move rfl) rfl rfl rfl ?_
        refine W_skip rfl rfl rfl ?_
        refine W_skip rfl rfl rfl ?_
        refine W_y (y_pick rfl rfl) rfl rfl rfl ?_
        refine W_y (y_assign rfl) rfl rfl rfl ?_
        refine K_nil ?_
        refine K_then ?_
        refine K_ret ?_
        refine K_out1 rfl (.tmp rfl) ?_
        exact fun w hw => ⟨_, _, _, rfl, Imm.le.refl _, hw, by first | exact bl_true letterP_iff (by omega) | exact bl_dec letterP_iff (by omega) | exact bl_false letterP_iff (by omega), rfl, rfl⟩
      ·
        refine W_y (y_move rfl) rfl rfl rfl ?_
        refine W_y (y_ge rfl rfl) rfl rfl rfl ?_
        refine W_y (y_move rfl) rfl rfl rfl ?_
        first | refine K_splitd 20 rfl (fun h11 => ?_) (fun h11 => ?_) | refine K_split 20 rfl (fun h11 => ?_) (fun h11 => ?_)
        ·
          refine W_y (y_move rfl) rfl rfl rfl ?_
          refine W_y (y_le rfl rfl) rfl rfl rfl ?_
          refine W_y (y_pick rfl rfl) rfl rfl rfl ?_
          refine W_y (y_pick rfl rfl) rfl rfl rfl ?_
          refine W_y (y_move rfl) rfl rfl rfl ?_
          first | refine K_splitd 25 rfl (fun h12 => ?_) (fun h12 => ?_) | refine K_split 25 rfl (fun h12 => ?_) (fun h12 => ?_)
          ·
            refine W_skip rfl rfl rfl ?_
            refine W_skip rfl rfl rfl ?_
            refine W_y (y_pick rfl rfl) rfl rfl rfl ?_
            refine W_y (y_assign rfl) rfl rfl rfl ?_
            refine K_nil ?_
            refine K_then ?_
            refine K_ret ?_
            refine K_out1 rfl (.tmp rfl) ?_
            exact fun w hw => ⟨_, _, _, rfl, Imm.le.refl _, hw, by first | exact bl_true letterP_iff (by omega) | exact bl_dec letterP_iff (by omega) | exact bl_false letterP_iff (by omega), rfl, rfl⟩
          ·
            refine W_y (y_move rfl) rfl rfl rfl ?_
            refine W_y (by first | exact y_eq rfl rfl | exact y_seq rfl rfl) rfl rfl rfl ?_
            refine W_y (y_pick rfl rfl) rfl rfl rfl ?_
            refine W_y (y_assign rfl) rfl rfl rfl ?_
            refine K_nil ?_
            refine K_then ?_
            refine K_ret ?_
            refine K_out1 rfl (.tmp rfl) ?_
            exact fun w hw => ⟨_, _, _, rfl, Imm.le.refl _, hw, by first | exact bl_true letterP_iff (by omega) | exact bl_dec letterP_iff (by omega) | exact bl_false letterP_iff (by omega), rfl, rfl⟩
        ·
          refine W_skip rfl rfl rfl ?_
          refine W_skip rfl rfl rfl ?_
          refine W_y (y_pick rfl rfl) rfl rfl rfl ?_
          refine W_y (y_pick rfl rfl) rfl rfl rfl ?_
          refine W_y (y_move rfl) rfl rfl rfl ?_
          refine W_y (y_move rfl) rfl rfl rfl ?_
          refine W_y (by first | exact y_eq rfl rfl | exact y_seq rfl rfl) rfl rfl rfl ?_
          refine W_y (y_pick rfl rfl) rfl rfl rfl ?_
          refine W_y (y_assign rfl) rfl rfl rfl ?_
          refine K_nil ?_
          refine K_then ?_
          refine K_ret ?_
          refine K_out1 rfl (.tmp rfl) ?_
          exact fun w hw => ⟨_, _, _, rfl, Imm.le.refl _, hw, by first | exact bl_true letterP_iff (by omega) | exact bl_dec letterP_iff (by omega) | exact bl_false letterP_iff (by omega), rfl, rfl⟩
    ·
      refine W_skip rfl rfl rfl ?_
      refine W_skip rfl rfl rfl ?_
      refine W_y (y_pick rfl rfl) rfl rfl rfl ?_
      refine W_y (y_pick rfl rfl) rfl rfl rfl ?_
      refine W_y (y_move rfl) rfl rfl rfl ?_
      refine W_y (y_move rfl) rfl rfl rfl ?_
      refine W_y (y_ge rfl rfl) rfl rfl rfl ?_
      refine W_y (y_move rfl) rfl rfl rfl ?_
      first | refine K_splitd 20 rfl (fun h13 => ?_) (fun h13 => ?_) | refine K_split 20 rfl (fun h13 => ?_) (fun h13 => ?_)
      ·
        refine W_y (y_move rfl) rfl rfl rfl ?_
        refine W_y (y_le rfl rfl) rfl rfl rfl ?_
        refine W_y (y_pick rfl rfl) rfl rfl rfl ?_
        refine W_y (y_pick rfl rfl) rfl rfl rfl ?_
        refine W_y (y_move rfl) rfl rfl rfl ?_
        first | refine K_splitd 25 rfl (fun h14 => ?_) (fun h14 => ?_) | refine K_split 25 rfl (fun h14 => ?_) (fun h14 => ?_)
        ·
          refine W_skip rfl rfl rfl ?_
          refine W_skip rfl rfl rfl ?_
          refine W_y (y_pick rfl rfl) rfl rfl rfl ?_
          refine W_y (y_assign rfl) rfl rfl rfl ?_
          refine K_nil ?_
          refine K_then ?_
          refine K_ret ?_
          refine K_out1 rfl (.tmp rfl) ?_
          exact fun w hw => ⟨_, _, _, rfl, Imm.le.refl _, hw, by first | exact bl_true letterP_iff (by omega) | exact bl_dec letterP_iff (by omega) | exact bl_false letterP_iff (by omega), rfl, rfl⟩
        ·
          refine W_y (y_move rfl) rfl rfl rfl ?_
          refine W_y (by first | exact y_eq rfl rfl | exact y_seq rfl rfl) rfl rfl rfl ?_
          refine W_y (y_pick rfl rfl) rfl rfl rfl ?_
          refine W_y (y_assign rfl) rfl rfl rfl ?_
          refine K_nil ?_
          refine K_then ?_
          refine K_ret ?_
          refine K_out1 rfl (.tmp rfl) ?_
          exact fun w hw => ⟨_, _, _, rfl, Imm.le.refl _, hw, by first | exact bl_true letterP_iff (by omega) | exact bl_dec letterP_iff (by omega) | exact bl_false letterP_iff (by omega), rfl, rfl⟩
      ·
        refine W_skip rfl rfl rfl ?_
        refine W_skip rfl rfl rfl ?_
        refine W_y (y_pick rfl rfl) rfl rfl rfl ?_
        refine W_y (y_pick rfl rfl) rfl rfl rfl ?_
        refine W_y (y_move rfl) rfl rfl rfl ?_
        refine W_y (y_move rfl) rfl rfl rfl ?_
        refine W_y (by first | exact y_eq rfl rfl | exact y_seq rfl rfl) rfl rfl rfl ?_
        refine W_y (y_pick rfl rfl) rfl rfl rfl ?_
        refine W_y (y_assign rfl) rfl rfl rfl ?_
        refine K_nil ?_
        refine K_then ?_
        refine K_ret ?_
        refine K_out1 rfl (.tmp rfl) ?_
        exact fun w hw => ⟨_, _, _, rfl, Imm.le.refl _, hw, by first | exact bl_true letterP_iff (by omega) | exact bl_dec letterP_iff (by omega) | exact bl_false letterP_iff (by omega), rfl, rfl⟩
theorem f65_ok {I : Imm} {l : List Itm} {c : Int} : Ct Tryd.prog 65 [.int .u8 c] I l (fun r J m => r = .bool (namedP c) ∧ I = J ∧ l = m) := by
  refine Ct_enter Tryd.func65 rfl rfl rfl ?_
  refine K_seq ?_
  refine K_region ?_
  refine W_y (y_assign rfl) rfl rfl rfl ?_
  refine K_nil ?_
  refine K_then ?_
  refine K_seq ?_
  refine K_region ?_
  refine W_y (y_move rfl) rfl rfl rfl ?_
  refine W_a (a_call (enters_of Tryd.func69 (by kernel_rfl) rfl) rfl (f69_ok) rfl ?_) rfl
  rintro _ _ _ - ⟨rfl, rfl, rfl⟩
  refine W_y (y_move rfl) rfl rfl rfl ?_
  refine K_split 5 rfl (fun h1 => ?_) (fun h1 => ?_)
  ·
    have q5 := h1
    refine W_skip rfl rfl rfl ?_
    refine W_skip rfl rfl rfl ?_
    refine W_y (y_pick rfl rfl) rfl rfl rfl ?_
    refine W_y (y_move rfl) rfl rfl rfl ?_
    refine W_skip rfl rfl rfl ?_
    refine W_skip rfl rfl rfl ?_
    refine W_y (y_pick rfl rfl) rfl rfl rfl ?_
    refine W_y (y_assign rfl) rfl rfl rfl ?_
    refine K_nil ?_
    refine K_then ?_
    refine K_ret ?_
    refine K_out1 rfl (.tmp rfl) ?_
    exact fun w hw => ⟨_, _, _, rfl, Imm.le.refl _, hw, by simp_all [namedP], rfl, rfl⟩
  ·
    have q5 := h1
    refine W_y (y_move rfl) rfl rfl rfl ?_
    refine W_y (by first | exact y_eq rfl rfl | exact y_seq rfl rfl) rfl rfl rfl ?_
    refine W_y (y_pick rfl rfl) rfl rfl rfl ?_
    refine W_y (y_move rfl) rfl rfl rfl ?_
    first | refine K_splitd 9 rfl (fun h2 => ?_) (fun h2 => ?_) | refine K_split 9 rfl (fun h2 => ?_) (fun h2 => ?_)
    ·
      have q9 := h2
      refine W_skip rfl rfl rfl ?_
      refine W_skip rfl rfl rfl ?_
      refine W_y (y_pick rfl rfl) rfl rfl rfl ?_
      refine W_y (y_assign rfl) rfl rfl rfl ?_
      refine K_nil ?_
      refine K_then ?_
      refine K_ret ?_
      refine K_out1 rfl (.tmp rfl) ?_
      exact fun w hw => ⟨_, _, _, rfl, Imm.le.refl _, hw, by simp_all [namedP], rfl, rfl⟩
    ·
      have q9 := h2
      refine W_y (y_move rfl) rfl rfl rfl ?_
      refine W_y (by first | exact y_eq rfl rfl | exact y_seq rfl rfl) rfl rfl rfl ?_
      refine W_y (y_pick rfl rfl) rfl rfl rfl ?_
      refine W_y (y_assign rfl) rfl rfl rfl ?_
      refine K_nil ?_
      refine K_then ?_
      refine K_ret ?_
      refine K_out1 rfl (.tmp rfl) ?_
      exact fun w hw => ⟨_, _, _, rfl, Imm.le.refl _, hw, by simp_all [namedP], rfl, rfl⟩
theorem f64_ok {I : Imm} {l : List Itm} {s : ByteArray} {f : FuncId} {q : Int → Bool} (he : Enters Tryd.prog f) (hq : ∀ c, Ct Tryd.prog f [.int .u8 c] I l (fun r J m => r = .bool (q c) ∧ I = J ∧ l = m)) (hs : s.size ≤ 9223372036854775807) :
    Ct Tryd.prog 64 [.string s, .func (.func f) #[] #[]] I l (fun r J m => r = .bool (madeP q s) ∧ I = J ∧ l = m) := by
  refine Ct_enter Tryd.func64 rfl rfl rfl ?_
  refine K_seq ?_
  refine K_region ?_
  refine W_y (y_assign rfl) rfl rfl rfl ?_
  refine K_nil ?_
  refine K_then ?_
  refine K_seq ?_
  refine K_seq ?_
  refine K_region ?_
  refine W_y (y_move rfl) rfl rfl rfl ?_
  refine W_y (by first | exact y_eq rfl rfl | exact y_seq rfl rfl) rfl rfl rfl ?_
  refine W_y (y_move rfl) rfl rfl rfl ?_
  first | refine K_splitd 8 rfl (fun h1 => ?_) (fun h1 => ?_) | refine K_split 8 rfl (fun h1 => ?_) (fun h1 => ?_)
  ·
    have hres : madeP q s = false := decide_eq_false (fun e => by rw [h1] at e; exact absurd e.1 (by decide))
    refine W_skip rfl rfl rfl ?_
    refine W_skip rfl rfl rfl ?_
    refine W_skip rfl rfl rfl ?_
    refine W_y (y_pick rfl rfl) rfl rfl rfl ?_
    refine K_nil ?_
    refine K_then ?_
    refine K_yes rfl ?_
    refine K_seq ?_
    refine K_region ?_
    refine W_y (y_assign rfl) rfl rfl rfl ?_
    refine K_nil ?_
    refine K_then ?_
    refine K_ret ?_
    refine K_then_ret ?_
    refine K_out1 rfl (.tmp rfl) ?_
    exact fun w hw => ⟨_, _, _, rfl, Imm.le.refl _, hw, by rw [hres], rfl, rfl⟩
  ·
    have h0 : 0 < s.size := Nat.pos_of_ne_zero (fun e => h1 (ByteArray.ext (Array.eq_empty_of_size_eq_zero e)))
    refine W_y (y_move rfl) rfl rfl rfl ?_
    refine W_y (by first | exact y_lenc tab (by assumption) rfl rfl | exact y_lens tab rfl rfl | exact y_lenstr tab rfl rfl) rfl rfl rfl ?_
    refine W_y (y_gt rfl rfl) rfl rfl rfl ?_
    refine W_y (y_pick rfl rfl) rfl rfl rfl ?_
    refine K_nil ?_
    refine K_then ?_
    first | refine K_if rfl (fun h2 => ?_) (fun h2 => ?_) | refine K_ifn rfl (fun h2 => ?_) (fun h2 => ?_) | refine K_cond rfl (fun h2 => ?_) (fun h2 => ?_)
    ·
      have hres : madeP q s = false := decide_eq_false (fun e => by have h' := h2; have := e.2.1; omega)
      refine K_seq ?_
      refine K_region ?_
      refine W_y (y_assign rfl) rfl rfl rfl ?_
      refine K_nil ?_
      refine K_then ?_
      refine K_ret ?_
      refine K_then_ret ?_
      refine K_out1 rfl (.tmp rfl) ?_
      exact fun w hw => ⟨_, _, _, rfl, Imm.le.refl _, hw, by rw [hres], rfl, rfl⟩
    ·
      have h64 : s.size ≤ 64 := by have h' := h2; omega
      refine K_skip ?_
      refine K_then ?_
      refine K_seq ?_
      refine K_seq ?_
      refine K_region ?_
      refine W_y (y_assign rfl) rfl rfl rfl ?_
      refine K_nil ?_
      refine K_then ?_
      refine K_block ?_
      refine K_lp (σ := Nat) (fun k => I) (fun k => [(0, .string s), (1, .func (.func f) #[] #[]), (5, .int .i64 k)]) (fun k => l) (fun k => k ≤ s.size ∧ ∀ i, i < k → q (byteAt s i) = true) (fun k => s.size - k) 0 rfl (by repeat first | exact .nil _ | refine .cons rfl ?_) rfl ⟨Nat.zero_le _, fun i h => absurd h (Nat.not_lt_zero i)⟩ ?_
      rintro i ⟨hi, hin⟩
      refine K_seq ?_
      refine K_seq ?_
      refine K_region ?_
      refine W_y (y_move rfl) rfl rfl rfl ?_
      refine W_y (y_move rfl) rfl rfl rfl ?_
      refine W_y (by first | exact y_lenc tab (by assumption) rfl rfl | exact y_lens tab rfl rfl | exact y_lenstr tab rfl rfl) rfl rfl rfl ?_
      refine W_y (y_lt rfl rfl) rfl rfl rfl ?_
      refine K_nil ?_
      refine K_then ?_
      first | refine K_if rfl (fun h3 => ?_) (fun h3 => ?_) | refine K_ifn rfl (fun h3 => ?_) (fun h3 => ?_) | refine K_cond rfl (fun h3 => ?_) (fun h3 => ?_)
      ·
        refine K_skip ?_
        refine K_then ?_
        refine K_seq ?_
        refine K_block ?_
        refine K_seq ?_
        refine K_region ?_
        refine W_y (y_move rfl) rfl rfl rfl ?_
        refine W_y (y_move rfl) rfl rfl rfl ?_
        refine W_y (y_move rfl) rfl rfl rfl ?_
        refine W_y (y_sidx tab i rfl rfl rfl ⟨rfl, by omega⟩) rfl rfl rfl ?_
        refine W_a (a_callv (first := []) (cap := []) he rfl rfl (hq (byteAt s i)) rfl ?_) rfl
        rintro _ _ _ - ⟨rfl, rfl, rfl⟩
        refine W_y (y_not rfl) rfl rfl rfl ?_
        refine K_nil ?_
        refine K_then ?_
        refine K_cond rfl (fun h4 => ?_) (fun h4 => ?_)
        ·
          have hres : madeP q s = false := decide_eq_false (fun e => by have h' := h4; have := e.2.2 i (by omega); simp [this] at h')
          refine K_seq ?_
          refine K_region ?_
          refine W_y (y_assign rfl) rfl rfl rfl ?_
          refine K_nil ?_
          refine K_then ?_
          refine K_ret ?_
          refine K_in_ret ?_
          refine K_then_ret ?_
          refine K_then_ret ?_
          refine K_in_ret ?_
          refine K_then_ret ?_
          refine K_out1 rfl (.tmp rfl) ?_
          exact fun w hw => ⟨_, _, _, rfl, Imm.le.refl _, hw, by rw [hres], rfl, rfl⟩
        ·
          have hqi : q (byteAt s i) = true := by simpa using h4
          refine K_skip ?_
          refine K_in ?_
          refine K_then ?_
          refine K_region ?_
          refine W_y (y_move rfl) rfl rfl rfl ?_
          refine W_y (y_add rfl rfl (by omega)) rfl rfl rfl ?_
          refine W_y (y_assign rfl) rfl rfl rfl ?_
          refine K_nil ?_
          refine K_thenA ?_
          exact K_back (i + 1) rfl (by repeat first | exact .nil _ | refine .cons rfl ?_) rfl ⟨by omega, all_succ hin hqi⟩ (by first | omega | (simp only; omega))
      ·
        have hres : madeP q s = true := decide_eq_true ⟨h0, h64, fun k hk => hin k (by omega)⟩
        refine K_exit ?_
        refine K_then_exit ?_
        refine K_then_exit ?_
        refine K_in_exit ?_
        refine K_then ?_
        refine K_seq ?_
        refine K_region ?_
        refine W_y (y_assign rfl) rfl rfl rfl ?_
        refine K_nil ?_
        refine K_then ?_
        refine K_ret ?_
        refine K_out1 rfl (.tmp rfl) ?_
        exact fun w hw => ⟨_, _, _, rfl, Imm.le.refl _, hw, by rw [hres], rfl, rfl⟩
theorem f54_ok {I : Imm} {l : List Itm} {s : ByteArray} (hs : s.size ≤ 9223372036854775807) : Ct Tryd.prog 54 [.string s] I l (fun r J m => r = .bool (nameP s) ∧ I = J ∧ l = m) := by
  refine Ct_enter Tryd.func54 rfl rfl rfl ?_
  refine K_seq ?_
  refine K_region ?_
  refine W_y (y_assign rfl) rfl rfl rfl ?_
  refine K_nil ?_
  refine K_then ?_
  refine K_seq ?_
  refine K_region ?_
  refine W_y (y_move rfl) rfl rfl rfl ?_
  refine W_a (a_call (enters_of Tryd.func64 (by kernel_rfl) rfl) rfl (f64_ok (f := 65) (q := namedP) (enters_of Tryd.func65 (by kernel_rfl) rfl) (fun c => f65_ok) hs) rfl ?_) rfl
  rintro _ _ _ - ⟨rfl, rfl, rfl⟩
  refine W_y (y_move rfl) rfl rfl rfl ?_
  refine K_split 5 rfl (fun h1 => ?_) (fun h1 => ?_)
  ·
    have q5 := h1
    refine W_y (y_move rfl) rfl rfl rfl ?_
    refine W_y (y_sidx tab 0 rfl rfl rfl ⟨rfl, madeP_pos q5⟩) rfl rfl rfl ?_
    refine W_y (by first | exact y_ne rfl rfl | exact y_sne rfl rfl) rfl rfl rfl ?_
    refine W_y (y_pick rfl rfl) rfl rfl rfl ?_
    refine W_y (y_assign rfl) rfl rfl rfl ?_
    refine K_nil ?_
    refine K_then ?_
    refine K_ret ?_
    refine K_out1 rfl (.tmp rfl) ?_
    exact fun w hw => ⟨_, _, _, rfl, Imm.le.refl _, hw, by simp_all [nameP], rfl, rfl⟩
  ·
    have q5 := h1
    refine W_skip rfl rfl rfl ?_
    refine W_skip rfl rfl rfl ?_
    refine W_skip rfl rfl rfl ?_
    refine W_y (y_pick rfl rfl) rfl rfl rfl ?_
    refine W_y (y_assign rfl) rfl rfl rfl ?_
    refine K_nil ?_
    refine K_then ?_
    refine K_ret ?_
    refine K_out1 rfl (.tmp rfl) ?_
    exact fun w hw => ⟨_, _, _, rfl, Imm.le.refl _, hw, by simp_all [nameP], rfl, rfl⟩
theorem f58_ok {I : Imm} {l : List Itm} {s : ByteArray} (hs : s.size ≤ 9223372036854775807) : Ct Tryd.prog 58 [.string s] I l (fun r J m => r = .bool (varNameP s) ∧ I = J ∧ l = m) := by
  refine Ct_enter Tryd.func58 rfl rfl rfl ?_
  refine K_seq ?_
  refine K_region ?_
  refine W_y (y_assign rfl) rfl rfl rfl ?_
  refine K_nil ?_
  refine K_then ?_
  refine K_seq ?_
  refine K_region ?_
  refine W_y (y_move rfl) rfl rfl rfl ?_
  refine W_a (a_call (enters_of Tryd.func64 (by kernel_rfl) rfl) rfl (f64_ok (f := 69) (q := letterP) (enters_of Tryd.func69 (by kernel_rfl) rfl) (fun c => f69_ok) hs) rfl ?_) rfl
  rintro _ _ _ - ⟨rfl, rfl, rfl⟩
  refine W_y (y_move rfl) rfl rfl rfl ?_
  refine K_split 5 rfl (fun h1 => ?_) (fun h1 => ?_)
  ·
    have q5 := h1
    refine W_y (y_move rfl) rfl rfl rfl ?_
    refine W_y (y_sidx tab 0 rfl rfl rfl ⟨rfl, madeP_pos q5⟩) rfl rfl rfl ?_
    refine W_y (y_lt rfl rfl) rfl rfl rfl ?_
    refine W_y (y_move rfl) rfl rfl rfl ?_
    first | refine K_splitd 9 rfl (fun h2 => ?_) (fun h2 => ?_) | refine K_split 9 rfl (fun h2 => ?_) (fun h2 => ?_)
    ·
      have q9 := h2
      refine W_skip rfl rfl rfl ?_
      refine W_skip rfl rfl rfl ?_
      refine W_skip rfl rfl rfl ?_
      refine W_y (y_pick rfl rfl) rfl rfl rfl ?_
      refine W_y (y_pick rfl rfl) rfl rfl rfl ?_
      refine W_y (y_assign rfl) rfl rfl rfl ?_
      refine K_nil ?_
      refine K_then ?_
      refine K_ret ?_
      refine K_out1 rfl (.tmp rfl) ?_
      exact fun w hw => ⟨_, _, _, rfl, Imm.le.refl _, hw, by simp_all [varNameP] <;> omega, rfl, rfl⟩
    ·
      have q9 := h2
      refine W_y (y_move rfl) rfl rfl rfl ?_
      refine W_y (y_sidx tab 0 rfl rfl rfl ⟨rfl, madeP_pos q5⟩) rfl rfl rfl ?_
      refine W_y (y_gt rfl rfl) rfl rfl rfl ?_
      refine W_y (y_pick rfl rfl) rfl rfl rfl ?_
      refine W_y (y_pick rfl rfl) rfl rfl rfl ?_
      refine W_y (y_assign rfl) rfl rfl rfl ?_
      refine K_nil ?_
      refine K_then ?_
      refine K_ret ?_
      refine K_out1 rfl (.tmp rfl) ?_
      exact fun w hw => ⟨_, _, _, rfl, Imm.le.refl _, hw, by simp_all [varNameP] <;> omega, rfl, rfl⟩
  ·
    have q5 := h1
    refine W_skip rfl rfl rfl ?_
    refine W_skip rfl rfl rfl ?_
    refine W_skip rfl rfl rfl ?_
    refine W_skip rfl rfl rfl ?_
    refine W_skip rfl rfl rfl ?_
    refine W_skip rfl rfl rfl ?_
    refine W_skip rfl rfl rfl ?_
    refine W_skip rfl rfl rfl ?_
    refine W_y (y_pick rfl rfl) rfl rfl rfl ?_
    refine W_y (y_assign rfl) rfl rfl rfl ?_
    refine K_nil ?_
    refine K_then ?_
    refine K_ret ?_
    refine K_out1 rfl (.tmp rfl) ?_
    exact fun w hw => ⟨_, _, _, rfl, Imm.le.refl _, hw, by simp_all [varNameP] <;> omega, rfl, rfl⟩
end Go.Proofs.YtfnmcpgajjkemaaDoor
