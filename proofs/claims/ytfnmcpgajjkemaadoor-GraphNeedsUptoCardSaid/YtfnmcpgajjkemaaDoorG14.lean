/- LendInts. Printed by wip/gen/g14.py. -/
import Derived.Test.YtfnmcpgajjkemaaDoorG12
import Derived.Test.YtfnmcpgajjkemaaDoorThaw
namespace Go.Proofs.YtfnmcpgajjkemaaDoor
open Go Go.RowKit Go.Proofs.YtfnmcpgajjkemaaDoor.SW
set_option maxRecDepth 100000
set_option maxHeartbeats 400000
theorem f12_ok {I : Imm} {l : List Itm} {v : Value} {xs : List Int} (hr : RowI eInt I v xs) (hm : (xs.length + 2) * 8 ≤ 140737488355328) :
    Ct Tryd.prog 12 [v] I l (fun r J m => ∃ u, r = cutv 1 u 0 xs.length ∧ I = J ∧ m = row eInt 3 u (xs ++ [-77, -77]) :: l) := by
  refine Ct_enter Tryd.func12 rfl rfl rfl ?_
  have hc := hr.sc
  have hl2 : (xs ++ [-77, -77]).length = xs.length + 2 := by simp
  refine K_seq ?_
  refine K_region ?_
  refine W_y (y_assign rfl) rfl rfl rfl ?_
  refine K_nil ?_
  refine K_then ?_
  refine K_seq ?_
  refine K_region ?_
  refine W_y (y_move rfl) rfl rfl rfl ?_
  refine W_a (a_call (enters_of Tryd.func16 (by kernel_rfl) rfl) rfl (f16_ok hr (by omega)) rfl ?_) rfl
  rintro v5 _ _ - ⟨rfl, rfl⟩
  refine W_a (a_bs (e := eInt) (xs := [-77, -77]) (os := [.const (.int .i64 (-77)), .const (.int .i64 (-77))]) tab rfl rfl rfl rfl rfl rfl rfl rfl rfl ?_) rfl
  intro b6
  refine K_f1 ?_
  refine W_a (a_app (e := eInt) (ys := [-77, -77]) tab rfl rfl rfl rfl rfl (rd_rowall .here) (by simp only [List.length_cons, List.length_nil]; omega) rfl ?_) rfl
  intro v7
  refine K_f1 (K_drop (K_sc .here (fun hc7 => ?_)))
  refine W_y (y_assign rfl) rfl rfl rfl ?_
  refine K_nil ?_
  refine K_then ?_
  refine K_seq ?_
  refine K_region ?_
  refine W_y (y_move rfl) rfl rfl rfl ?_
  refine W_y (y_move rfl) rfl rfl rfl ?_
  refine W_y (by first | exact y_lenc tab (by assumption) rfl rfl | exact y_lens tab rfl rfl | exact y_lenstr tab rfl rfl) rfl rfl rfl ?_
  refine W_y (y_slN 0 xs.length (y_slc tab hc7 rfl rfl rfl rfl rfl (by omega)) (by omega)) rfl rfl rfl ?_
  refine W_y (y_assign rfl) rfl rfl rfl ?_
  refine K_nil ?_
  refine K_then ?_
  refine K_ret ?_
  refine K_out1 rfl (.tmp rfl) ?_
  exact fun w hw => ⟨_, _, _, rfl, Imm.le.refl _, hw, v7, rfl, rfl, rfl⟩
end Go.Proofs.YtfnmcpgajjkemaaDoor
