/- KeptInts. Printed by wip/gen/g15.py. -/
import Derived.Test.YtfnmcpgajjkemaaDoorG14
namespace Go.Proofs.YtfnmcpgajjkemaaDoor
open Go Go.RowKit Go.Proofs.YtfnmcpgajjkemaaDoor.SW
set_option maxRecDepth 100000
set_option maxHeartbeats 400000
theorem f15_ok {I : Imm} {l : List Itm} {u v : Value} {xs : List Int} (hr : RowI eInt I v xs) (hm : (xs.length + 2) * 8 ≤ 140737488355328) :
    Ct Tryd.prog 15 [cutv 1 u 0 xs.length, v] I (row eInt 3 u (xs ++ [-77, -77]) :: l) (fun r J m => r = .bool true ∧ I = J ∧ ∃ zs, m = row eInt 3 u zs :: l) := by
  refine Ct_enter Tryd.func15 rfl rfl rfl ?_
  have hc := hr.sc
  have hl2 : (xs ++ [-77, -77]).length = xs.length + 2 := by simp
  refine K_form .here (by omega) (fun b cap hu => ?_)
  refine K_sc .here (fun hcu => ?_)
  subst hu
  obtain ⟨_, c, e, hcap⟩ := hcu
  cases e
  rw [cutv0]
  have hlent : (xs ++ [-77, -77]).take xs.length = xs := by simp
  refine K_seq ?_
  refine K_region ?_
  refine W_y (y_assign rfl) rfl rfl rfl ?_
  refine K_nil ?_
  refine K_then ?_
  refine K_seq ?_
  refine K_region ?_
  refine W_y (y_move rfl) rfl rfl rfl ?_
  refine W_y (y_move rfl) rfl rfl rfl ?_
  refine W_y (y_lens tab rfl rfl) rfl rfl rfl ?_
  refine W_y (y_add rfl rfl (by omega)) rfl rfl rfl ?_
  refine W_y (Yv.to (.slice (some ⟨b, 0, none⟩) (xs.length + 2) cap) (y_slN 0 (xs.length + 2) (y_slv tab rfl rfl rfl rfl rfl (by omega)) (by omega)) cutv0) rfl rfl rfl ?_
  refine W_y (y_assign rfl) rfl rfl rfl ?_
  refine K_nil ?_
  refine K_then ?_
  refine K_seq ?_
  refine K_region ?_
  refine W_y (y_move rfl) rfl rfl rfl ?_
  refine W_y (y_move rfl) rfl rfl rfl ?_
  refine K_rdb .here (fun hrd => ?_)
  refine W_a (a_call (enters_of Tryd.func17 (by kernel_rfl) rfl) rfl (f17_ok (xs := xs) (ys := xs) (by have := hrd.sub (i := 0) (j := xs.length) (c' := cap) ⟨by omega, by omega⟩ (by omega); rw [hlent, List.drop_zero, Nat.sub_zero] at this; exact this) (Rdb.ofRowI hr)) rfl ?_) rfl
  rintro _ _ _ - ⟨rfl, rfl, rfl⟩
  rw [decide_eq_true (rfl : xs = xs)]
  refine W_y (y_move rfl) rfl rfl rfl ?_
  refine K_split 16 rfl (fun h1 => ?_) (fun h1 => ?_)
  ·
    refine W_y (y_move rfl) rfl rfl rfl ?_
    refine W_y (y_move rfl) rfl rfl rfl ?_
    refine W_y (by first | exact y_lenc tab (by assumption) rfl rfl | exact y_lens tab rfl rfl | exact y_lenstr tab rfl rfl) rfl rfl rfl ?_
    refine W_y (Yv.to (.slice (some ⟨b, xs.length, none⟩) 2 (cap - xs.length)) (y_slN xs.length (xs.length + 2) (y_slv tab rfl rfl rfl rfl rfl (by omega)) (by omega)) (by rw [show [Value.int .i64 0].length = 1 from rfl, cutv_at (by omega), Nat.mul_one, Nat.add_sub_cancel_left])) rfl rfl rfl ?_
    refine W_a (a_bs (e := eInt) (xs := [-77, -77]) (os := [.const (.int .i64 (-77)), .const (.int .i64 (-77))]) tab rfl rfl rfl rfl rfl rfl rfl rfl rfl ?_) rfl
    intro b21
    refine K_rdb (.there .here) (fun hrd2 => ?_)
    refine K_rdb .here (fun hrd3 => ?_)
    have hpart := hrd2.sub (i := xs.length) (j := xs.length + 2) (c' := cap - xs.length) ⟨by omega, by omega⟩ (by omega)
    have hpt : ((xs ++ [-77, -77]).take (xs.length + 2)).drop xs.length = [-77, -77] := by rw [← hl2, List.take_length]; simp
    rw [hpt, Nat.add_sub_cancel_left] at hpart
    refine W_a (a_call (enters_of Tryd.func17 (by kernel_rfl) rfl) rfl (f17_ok (xs := [-77, -77]) (ys := [-77, -77]) hpart hrd3) rfl ?_) rfl
    rintro _ _ _ - ⟨rfl, rfl, rfl⟩
    rw [decide_eq_true (rfl : ([-77, -77] : List Int) = [-77, -77])]
    refine K_drop ?_
    refine W_y (y_pick rfl rfl) rfl rfl rfl ?_
    refine W_y (y_assign rfl) rfl rfl rfl ?_
    refine K_nil ?_
    refine K_then ?_
    refine K_seq ?_
    refine K_seq ?_
    refine K_region ?_
    refine W_y (y_assign rfl) rfl rfl rfl ?_
    refine K_nil ?_
    refine K_then ?_
    refine K_block ?_
    refine K_lp (σ := Nat × List Int) (fun s => I) (fun s => [(5, .slice (some ⟨b, 0, none⟩) (xs.length + 2) cap), (6, .bool true), (7, .int .i64 s.1)]) (fun s => row eInt 3 (.slice (some ⟨b, 0, none⟩) (xs ++ [-77, -77]).length cap) s.2 :: l) (fun s => s.1 ≤ xs.length + 2 ∧ s.2.length = xs.length + 2) (fun s => xs.length + 2 - s.1) (0, xs ++ [-77, -77]) rfl (by repeat first | exact .nil _ | refine .cons rfl ?_) rfl ⟨Nat.zero_le _, hl2⟩ ?_
    rintro ⟨k, zs⟩ ⟨hk, hzl⟩
    simp only at hk hzl ⊢
    refine K_seq ?_
    refine K_seq ?_
    refine K_region ?_
    refine W_y (y_move rfl) rfl rfl rfl ?_
    refine W_y (y_move rfl) rfl rfl rfl ?_
    refine W_y (y_lens tab rfl rfl) rfl rfl rfl ?_
    refine W_y (y_lt rfl rfl) rfl rfl rfl ?_
    refine K_nil ?_
    refine K_then ?_
    first | refine K_if rfl (fun h2 => ?_) (fun h2 => ?_) | refine K_ifn rfl (fun h2 => ?_) (fun h2 => ?_) | refine K_cond rfl (fun h2 => ?_) (fun h2 => ?_)
    ·
      refine K_skip ?_
      refine K_then ?_
      refine K_seq ?_
      refine K_block ?_
      refine K_region ?_
      refine W_y (y_move rfl) rfl rfl rfl ?_
      refine W_y (y_move rfl) rfl rfl rfl ?_
      refine W_y (y_ixv tab rfl rfl rfl rfl (by omega) (by omega)) rfl rfl rfl ?_
      refine W_a (a_ste (e := eInt) (i := k) (a' := -77) tab rfl rfl rfl rfl rfl rfl (get_of 0 (by omega)) rfl rfl ?_) rfl
      refine K_nil ?_
      refine K_in ?_
      refine K_then ?_
      refine K_region ?_
      refine W_y (y_move rfl) rfl rfl rfl ?_
      refine W_y (y_add rfl rfl (by omega)) rfl rfl rfl ?_
      refine W_y (y_assign rfl) rfl rfl rfl ?_
      refine K_nil ?_
      refine K_thenA ?_
      exact K_back (k + 1, zs.set k (-77)) rfl (by repeat first | exact .nil _ | refine .cons rfl ?_) rfl ⟨by simp only; omega, by simp only; rw [List.length_set]; exact hzl⟩ (by simp only; omega)
    ·
      refine K_exit ?_
      refine K_then_exit ?_
      refine K_then_exit ?_
      refine K_in_exit ?_
      refine K_then ?_
      refine K_seq ?_
      refine K_region ?_
      refine W_y (y_move rfl) rfl rfl rfl ?_
      refine W_y (y_assign rfl) rfl rfl rfl ?_
      refine K_nil ?_
      refine K_then ?_
      refine K_ret ?_
      refine K_out1 rfl (.tmp rfl) ?_
      exact fun w hw => ⟨_, _, _, rfl, Imm.le.refl _, hw, rfl, rfl, _, rfl⟩
  ·
    cases h1
end Go.Proofs.YtfnmcpgajjkemaaDoor
