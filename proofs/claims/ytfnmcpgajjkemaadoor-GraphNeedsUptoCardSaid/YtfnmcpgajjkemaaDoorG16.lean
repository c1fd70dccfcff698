/- SpoilInts; faults compared. Printed by wip/gen/g16.py. -/
import Derived.Test.YtfnmcpgajjkemaaDoorG15
import Derived.Test.YtfnmcpgajjkemaaDoorSpoil
namespace Go.Proofs.YtfnmcpgajjkemaaDoor
open Go Go.RowKit Go.Proofs.YtfnmcpgajjkemaaDoor.SW
set_option maxRecDepth 100000
set_option maxHeartbeats 400000
theorem f18_ok {I : Imm} {l : List Itm} {v : Value} {xs : List Int} (hm : (xs.length + 1) * 8 ≤ 140737488355328) :
    Ct Tryd.prog 18 [v] I (row eInt 3 v xs :: l) (fun _ J m => I = J ∧ l = m) := by
  refine Ct_enter Tryd.func18 rfl rfl rfl ?_
  refine K_rdb .here (fun hrd => ?_)
  have hc := hrd.sc
  have hl2 : (xs ++ [-77]).length = xs.length + 1 := by simp
  refine K_seq ?_
  refine K_region ?_
  refine W_y (y_move rfl) rfl rfl rfl ?_
  refine W_a (a_bs (e := eInt) (xs := [-77]) (os := [.const (.int .i64 (-77))]) tab rfl rfl rfl rfl rfl rfl rfl rfl rfl ?_) rfl
  intro b6
  refine K_f1 ?_
  refine W_a (a_app3 (e := eInt) (ys := [-77]) tab rfl rfl rfl rfl rfl (rd_rowall .here) (by simp only [List.length_cons, List.length_nil]; omega) rfl ?_) rfl
  intro v7 l' hO
  refine W_y (y_assign rfl) rfl rfl rfl ?_
  refine K_nil ?_
  refine K_then ?_
  refine K_seq ?_
  refine K_seq ?_
  refine K_region ?_
  refine W_y (y_assign rfl) rfl rfl rfl ?_
  refine K_nil ?_
  refine K_then ?_
  refine K_block ?_
  refine K_lp (σ := Nat × List Int) (fun s => I) (fun s => [(0, v), (2, v7), (3, .int .i64 s.1)]) (fun s => row eInt 3 v7 s.2 :: l') (fun s => s.1 ≤ xs.length + 1 ∧ s.2.length = xs.length + 1) (fun s => xs.length + 1 - s.1) (0, xs ++ [-77]) rfl (by repeat first | exact .nil _ | refine .cons rfl ?_) rfl ⟨Nat.zero_le _, hl2⟩ ?_
  rintro ⟨k, zs⟩ ⟨hk, hzl⟩
  simp only at hk hzl ⊢
  refine K_sc .here (fun hcz => ?_)
  refine K_seq ?_
  refine K_seq ?_
  refine K_region ?_
  refine W_y (y_move rfl) rfl rfl rfl ?_
  refine W_y (y_move rfl) rfl rfl rfl ?_
  refine W_y (y_lenc tab hcz rfl rfl) rfl rfl rfl ?_
  refine W_y (y_lt rfl rfl) rfl rfl rfl ?_
  refine K_nil ?_
  refine K_then ?_
  first | refine K_if rfl (fun h1 => ?_) (fun h1 => ?_) | refine K_ifn rfl (fun h1 => ?_) (fun h1 => ?_) | refine K_cond rfl (fun h1 => ?_) (fun h1 => ?_)
  ·
    refine K_skip ?_
    refine K_then ?_
    refine K_seq ?_
    refine K_block ?_
    refine K_region ?_
    refine W_y (y_move rfl) rfl rfl rfl ?_
    refine W_y (y_move rfl) rfl rfl rfl ?_
    refine W_y (y_ixr (e := eInt) tab .here rfl rfl rfl rfl (by omega)) rfl rfl rfl ?_
    refine W_a (a_ste (e := eInt) (i := k) (a' := -77) tab rfl rfl rfl rfl rfl rfl (get_of 0 (by omega)) rfl rfl ?_) rfl
    refine K_nil ?_
    refine K_in ?_
    refine K_then ?_
    refine K_region ?_
    refine W_y (y_move rfl) rfl rfl rfl ?_
    refine W_y (y_add rfl rfl (by omega)) rfl rfl rfl ?_
    refine W_y (y_assign rfl) rfl rfl rfl ?_
    refine K_nil ?_
    refine K_thenA ?_
    exact K_back (k + 1, zs.set k (-77)) rfl (by repeat first | exact .nil _ | refine .cons rfl ?_) rfl ⟨by simp only; omega, by simp only; rw [List.length_set]; exact hzl⟩ (by simp only; omega)
  ·
    refine K_exit ?_
    refine K_then_exit ?_
    refine K_then_exit ?_
    refine K_in_exit ?_
    refine K_then ?_
    refine K_seq ?_
    refine K_region ?_
    refine W_y (y_assign rfl) rfl rfl rfl ?_
    refine K_nil ?_
    refine K_then ?_
    refine K_block ?_
    refine K_lp (σ := Nat × List Int × List Itm) (fun s => I) (fun s => [(0, v), (4, .int .i64 s.1)]) (fun s => row eInt 3 v7 s.2.1 :: s.2.2) (fun s => s.1 ≤ xs.length ∧ s.2.1.length = xs.length + 1 ∧ Old eInt 3 v v7 xs.length (row eInt 3 (.slice (some ⟨b6, 0, none⟩) [(-77 : Int)].length [(-77 : Int)].length) [-77] :: l) s.2.2) (fun s => xs.length - s.1) (0, zs, l') rfl (by repeat first | exact .nil _ | refine .cons rfl ?_) rfl ⟨Nat.zero_le _, hzl, hO⟩ ?_
    rintro ⟨k, zs, l'⟩ ⟨hk, hzl, hO⟩
    simp only at hk hzl hO ⊢
    refine K_seq ?_
    refine K_seq ?_
    refine K_region ?_
    refine W_y (y_move rfl) rfl rfl rfl ?_
    refine W_y (y_move rfl) rfl rfl rfl ?_
    refine W_y (by first | exact y_lenc tab (by assumption) rfl rfl | exact y_lens tab rfl rfl | exact y_lenstr tab rfl rfl) rfl rfl rfl ?_
    refine W_y (y_lt rfl rfl) rfl rfl rfl ?_
    refine K_nil ?_
    refine K_then ?_
    first | refine K_if rfl (fun h2 => ?_) (fun h2 => ?_) | refine K_ifn rfl (fun h2 => ?_) (fun h2 => ?_) | refine K_cond rfl (fun h2 => ?_) (fun h2 => ?_)
    ·
      refine K_skip ?_
      refine K_then ?_
      refine K_seq ?_
      refine K_block ?_
      refine K_region ?_
      refine W_y (y_move rfl) rfl rfl rfl ?_
      refine W_y (y_move rfl) rfl rfl rfl ?_
      refine W_y (y_ixs tab (hrd.sl (by omega)) rfl rfl rfl rfl (by omega)) rfl rfl rfl ?_
      refine W_a (a_steo (e := eInt) (i := k) (a' := -77) tab hO (by omega) (by omega) rfl rfl rfl rfl rfl rfl rfl (fun _ => rfl) ?_) rfl
      intro zs' l2 hzs' hO'
      refine K_nil ?_
      refine K_in ?_
      refine K_then ?_
      refine K_region ?_
      refine W_y (y_move rfl) rfl rfl rfl ?_
      refine W_y (y_add rfl rfl (by omega)) rfl rfl rfl ?_
      refine W_y (y_assign rfl) rfl rfl rfl ?_
      refine K_nil ?_
      refine K_thenA ?_
      exact K_back (k + 1, zs', l2) rfl (by repeat first | exact .nil _ | refine .cons rfl ?_) rfl ⟨by simp only; omega, by simp only; omega, hO'⟩ (by simp only; omega)
    ·
      refine K_exit ?_
      refine K_then_exit ?_
      refine K_then_exit ?_
      refine K_in_exit ?_
      refine K_out0 (.inr rfl) rfl ?_
      exact fun w hw => ⟨_, _, _, rfl, Imm.le.refl _, (hw.drop.old hO).drop, rfl, rfl⟩
theorem eqFault (x y : FaultV) (w : World) : (Op.equalIn 10000 44 (.agg (eFault.cells x).toArray) (.agg (eFault.cells y).toArray)).run Tryd.prog w = .ok (decide (x = y)) w := by
  rw [run_equalIn_struct w 9999 44 _ _ (by kernel_rfl) (by kernel_rfl)]
  simp only [Program.fieldsOf, Tryd.underlying44]
  refine (eqF_cons (by decide) (run_part_one tab rfl rfl) (run_part_one tab rfl rfl) (eqI_int tab rfl) (eqF_cons (by decide) (run_part_one tab rfl rfl) (run_part_one tab rfl rfl) (eqI_str tab rfl) (eqF_cons (by decide) (run_part_one tab rfl rfl) (run_part_one tab rfl rfl) (eqI_int tab rfl) (eqF_cons (by decide) (run_part_one tab rfl rfl) (run_part_one tab rfl rfl) (eqI_int tab rfl) eqF_nil)))).trans ?_
  congr 1
  obtain ⟨a, b, c, d⟩ := x
  obtain ⟨a', b', c', d'⟩ := y
  rw [Bool.eq_iff_iff]
  simp
end Go.Proofs.YtfnmcpgajjkemaaDoor
