/- container/heap over items. Printed by wip/gen/g2.py. -/
import Derived.Test.YtfnmcpgajjkemaaDoorG1
namespace Go.Proofs.YtfnmcpgajjkemaaDoor
open Go Go.RowKit Go.Proofs.YtfnmcpgajjkemaaDoor.SW
set_option maxRecDepth 100000
set_option maxHeartbeats 400000
theorem mLen (a : Addr) (w : World) : (Go.method (Tryd.prog.types.size + Made.depth) 55 (.pointer (some a)) "Len").run Tryd.prog w = ((loadVar 57 a).run Tryd.prog w).andThen fun v w' => .ok (27, v) w' := method_valD (by kernel_rfl) (tab.sh_ok 55) w
theorem mLess (a : Addr) (w : World) : (Go.method (Tryd.prog.types.size + Made.depth) 55 (.pointer (some a)) "Less").run Tryd.prog w = ((loadVar 57 a).run Tryd.prog w).andThen fun v w' => .ok (117, v) w' := method_valD (by kernel_rfl) (tab.sh_ok 55) w
theorem mSwap (a : Addr) (w : World) : (Go.method (Tryd.prog.types.size + Made.depth) 55 (.pointer (some a)) "Swap").run Tryd.prog w = ((loadVar 57 a).run Tryd.prog w).andThen fun v w' => .ok (120, v) w' := method_valD (by kernel_rfl) (tab.sh_ok 55) w
theorem mPush (a : Addr) (w : World) : (Go.method (Tryd.prog.types.size + Made.depth) 55 (.pointer (some a)) "Push").run Tryd.prog w = .ok (119, .pointer (some a)) w := by kernel_rfl
theorem mPop (a : Addr) (w : World) : (Go.method (Tryd.prog.types.size + Made.depth) 55 (.pointer (some a)) "Pop").run Tryd.prog w = .ok (118, .pointer (some a)) w := by kernel_rfl
theorem f42_ok {I : Imm} {l : List Itm} {b : Nat} {v : Value} {xs : List (Int × Int)} {j : Nat} (hm : xs.length ≤ 140737488355328) (hj : j < xs.length) :
    Ct Tryd.prog 42 [.iface 55 (.pointer (some ⟨b, 0, none⟩)), .int .i64 j] I (blk b (.cells #[v] 57 (0, 0)) :: row ePair 60 v xs :: l) (fun _ J m => I = J ∧ m = blk b (.cells #[v] 57 (0, 0)) :: row ePair 60 v (up xs j) :: l) := by
  refine Ct_enter Tryd.func42 rfl rfl rfl ?_
  refine K_block ?_
  refine K_lp (σ := List (Int × Int) × Nat) (fun _ => I) (fun s => [(0, .iface 55 (.pointer (some ⟨b, 0, none⟩))), (1, .int .i64 s.2)]) (fun s => blk b (.cells #[v] 57 (0, 0)) :: row ePair 60 v s.1 :: l) (fun s => s.2 < s.1.length ∧ s.1.length = xs.length ∧ up s.1 s.2 = up xs j) (fun s => s.2) (xs, j) rfl (.cons rfl (.cons rfl (.nil _))) rfl ⟨hj, rfl, rfl⟩ ?_
  rintro ⟨ys, k⟩ ⟨hk, hl, hu⟩
  simp only at hk hl hu ⊢
  refine K_block ?_
  refine K_seq ?_
  refine K_region ?_
  refine W_y (y_move rfl) rfl rfl rfl ?_
  refine W_y (y_sub rfl rfl (by omega)) rfl rfl rfl ?_
  refine W_y (y_quot (r := (((k - 1) / 2 : Nat) : Int)) rfl rfl (by omega) ⟨half k, by omega, by omega⟩) rfl rfl rfl ?_
  refine W_y (y_assign rfl) rfl rfl rfl ?_
  refine K_nil ?_
  refine K_then ?_
  refine K_seq ?_
  refine K_seq ?_
  refine K_region ?_
  refine W_y (y_move rfl) rfl rfl rfl ?_
  refine W_y (y_move rfl) rfl rfl rfl ?_
  refine W_y (by first | exact y_eq rfl rfl | exact y_seq rfl rfl) rfl rfl rfl ?_
  refine W_y (y_move rfl) rfl rfl rfl ?_
  first | refine K_splitd 11 rfl (fun h1 => ?_) (fun h1 => ?_) | refine K_split 11 rfl (fun h1 => ?_) (fun h1 => ?_)
  ·
    have hs : up ys k = ys := by unfold up; rw [if_pos (by omega)]
    refine W_skip rfl rfl rfl ?_
    refine W_skip rfl rfl rfl ?_
    refine W_skip rfl rfl rfl ?_
    refine W_skip rfl rfl rfl ?_
    refine W_skip rfl rfl rfl ?_
    refine W_y (y_pick rfl rfl) rfl rfl rfl ?_
    refine K_nil ?_
    refine K_then ?_
    refine K_yes rfl ?_
    refine K_exit ?_
    refine K_then_exit ?_
    refine K_in_past rfl ?_
    refine K_then_exit ?_
    refine K_in_exit ?_
    refine K_out0 (.inr rfl) rfl ?_
    exact fun w hw => ⟨_, _, _, rfl, Imm.le.refl _, hw, rfl, by first | (rw [← hu, hs]; done) | (rw [← hu, hs]; rfl)⟩
  ·
    have hk1 : (k - 1) / 2 < k := by omega
    refine K_f1 ?_
    refine W_y (y_move rfl) rfl rfl rfl ?_
    refine W_y (y_move rfl) rfl rfl rfl ?_
    refine W_y (y_move rfl) rfl rfl rfl ?_
    refine W_a (a_inv (enters_of Tryd.func117 (by kernel_rfl) rfl) rfl rfl (inv_val (mLess _) (ld_cell tab rfl (rd_one (.there .here) rfl))) (f117_ok (i := k) (j := (k - 1) / 2) (get_of z2 (by omega)) (get_of z2 (by omega)) (by omega) (by omega)) rfl ?_) rfl
    rintro _ _ _ - ⟨rfl, rfl, rfl⟩
    refine K_f1 ?_
    refine W_y (y_not rfl) rfl rfl rfl ?_
    refine W_y (y_pick rfl rfl) rfl rfl rfl ?_
    refine K_nil ?_
    refine K_then ?_
    first | refine K_if rfl (fun h2 => ?_) (fun h2 => ?_) | refine K_ifn rfl (fun h2 => ?_) (fun h2 => ?_) | refine K_cond rfl (fun h2 => ?_) (fun h2 => ?_)
    ·
      have hs : up ys k = ys := by unfold up; rw [if_neg (by omega), if_neg (by simpa using h2)]
      refine K_exit ?_
      refine K_then_exit ?_
      refine K_in_past rfl ?_
      refine K_then_exit ?_
      refine K_in_exit ?_
      refine K_out0 (.inr rfl) rfl ?_
      exact fun w hw => ⟨_, _, _, rfl, Imm.le.refl _, hw, rfl, by first | (rw [← hu, hs]; done) | (rw [← hu, hs]; rfl)⟩
    ·
      have hq := h2
      rw [Bool.not_eq_false'] at hq
      refine K_skip ?_
      refine K_then ?_
      refine K_seq ?_
      refine K_region ?_
      refine K_f1 ?_
      refine W_y (y_move rfl) rfl rfl rfl ?_
      refine W_y (y_move rfl) rfl rfl rfl ?_
      refine W_y (y_move rfl) rfl rfl rfl ?_
      refine W_a (a_inv (enters_of Tryd.func120 (by kernel_rfl) rfl) rfl rfl (inv_val (mSwap _) (ld_cell tab rfl (rd_one (.there .here) rfl))) (f120_ok (i := (k - 1) / 2) (j := k) (get_of z2 (by omega)) (get_of z2 (by omega)) (by omega) (by omega)) rfl ?_) rfl
      rintro _ _ _ - ⟨rfl, rfl⟩
      refine K_f1 ?_
      refine K_nil ?_
      refine K_then ?_
      refine K_region ?_
      refine W_y (y_move rfl) rfl rfl rfl ?_
      refine W_y (y_assign rfl) rfl rfl rfl ?_
      refine K_nil ?_
      refine K_in ?_
      refine K_thenA ?_
      exact K_back (swp ys ((k - 1) / 2) k, (k - 1) / 2) rfl (.cons rfl (.cons rfl (.nil _))) rfl ⟨by rw [swp_length]; omega, by rw [swp_length]; exact hl, by rw [← hu]; conv => { rhs; unfold up }; rw [if_neg (by omega), if_pos hq]⟩ (by simp only; omega)
theorem f43_ok {I : Imm} {l : List Itm} {b : Nat} {v : Value} {xs : List (Int × Int)} {i n : Nat} (hm : xs.length ≤ 140737488355328) (hn : n ≤ xs.length) (hi : i ≤ n) :
    Ct Tryd.prog 43 [.iface 55 (.pointer (some ⟨b, 0, none⟩)), .int .i64 i, .int .i64 n] I (blk b (.cells #[v] 57 (0, 0)) :: row ePair 60 v xs :: l) (fun _ J m => I = J ∧ m = blk b (.cells #[v] 57 (0, 0)) :: row ePair 60 v (down xs i n) :: l) := by
  refine Ct_enter Tryd.func43 rfl rfl rfl ?_
  refine K_seq ?_
  refine K_region ?_
  refine W_y (y_assign rfl) rfl rfl rfl ?_
  refine K_nil ?_
  refine K_then ?_
  refine K_seq ?_
  refine K_region ?_
  refine W_y (y_move rfl) rfl rfl rfl ?_
  refine W_y (y_assign rfl) rfl rfl rfl ?_
  refine K_nil ?_
  refine K_then ?_
  refine K_seq ?_
  refine K_block ?_
  refine K_lp (σ := List (Int × Int) × Nat) (fun _ => I) (fun s => [(0, .iface 55 (.pointer (some ⟨b, 0, none⟩))), (1, .int .i64 i), (2, .int .i64 n), (7, .int .i64 s.2)]) (fun s => blk b (.cells #[v] 57 (0, 0)) :: row ePair 60 v s.1 :: l) (fun s => s.1.length = xs.length ∧ s.2 ≤ n ∧ down s.1 s.2 n = down xs i n) (fun s => n - s.2) (xs, i) rfl (.cons rfl (.cons rfl (.cons rfl (.cons rfl (.nil _))))) rfl ⟨rfl, hi, rfl⟩ ?_
  rintro ⟨ys, k⟩ ⟨hl, hk, hu⟩
  simp only at hl hk hu ⊢
  refine K_block ?_
  refine K_seq ?_
  refine K_region ?_
  refine W_y (y_move rfl) rfl rfl rfl ?_
  refine W_y (y_mul rfl rfl (by omega)) rfl rfl rfl ?_
  refine W_y (y_add rfl rfl (by omega)) rfl rfl rfl ?_
  refine W_y (y_assign rfl) rfl rfl rfl ?_
  refine K_nil ?_
  refine K_then ?_
  refine K_seq ?_
  refine K_seq ?_
  refine K_region ?_
  refine W_y (y_move rfl) rfl rfl rfl ?_
  refine W_y (y_move rfl) rfl rfl rfl ?_
  refine W_y (y_ge rfl rfl) rfl rfl rfl ?_
  refine W_y (y_move rfl) rfl rfl rfl ?_
  first | refine K_splitd 18 rfl (fun h1 => ?_) (fun h1 => ?_) | refine K_split 18 rfl (fun h1 => ?_) (fun h1 => ?_)
  ·
    have hs : down ys k n = ys := by unfold down; rw [dif_pos (by omega)]
    refine W_skip rfl rfl rfl ?_
    refine W_skip rfl rfl rfl ?_
    refine W_y (y_pick rfl rfl) rfl rfl rfl ?_
    refine K_nil ?_
    refine K_then ?_
    refine K_yes rfl ?_
    refine K_exit ?_
    refine K_then_exit ?_
    refine K_in_past rfl ?_
    refine K_then_exit ?_
    refine K_in_exit ?_
    refine K_then ?_
    refine K_seq ?_
    refine K_region ?_
    refine W_y (y_move rfl) rfl rfl rfl ?_
    refine W_y (y_move rfl) rfl rfl rfl ?_
    refine W_y (y_gt rfl rfl) rfl rfl rfl ?_
    refine W_y (y_assign rfl) rfl rfl rfl ?_
    refine K_nil ?_
    refine K_then ?_
    refine K_ret ?_
    refine K_out1 rfl (.tmp rfl) ?_
    exact fun w hw => ⟨_, _, _, rfl, Imm.le.refl _, hw, rfl, by first | (rw [← hu, hs]; done) | (rw [← hu, hs]; rfl)⟩
  ·
    refine W_y (y_move rfl) rfl rfl rfl ?_
    refine W_y (y_lt rfl rfl) rfl rfl rfl ?_
    refine W_y (y_pick rfl rfl) rfl rfl rfl ?_
    refine K_nil ?_
    refine K_then ?_
    first | refine K_if rfl (fun h2 => ?_) (fun h2 => ?_) | refine K_ifn rfl (fun h2 => ?_) (fun h2 => ?_) | refine K_cond rfl (fun h2 => ?_) (fun h2 => ?_)
    ·
      exfalso; omega
    ·
      refine K_skip ?_
      refine K_then ?_
      refine K_seq ?_
      refine K_region ?_
      refine W_y (y_move rfl) rfl rfl rfl ?_
      refine W_y (y_assign rfl) rfl rfl rfl ?_
      refine K_nil ?_
      refine K_then ?_
      refine K_cutS (σ := Nat) (fun _ => I) (fun q => [(0, .iface 55 (.pointer (some ⟨b, 0, none⟩))), (1, .int .i64 i), (2, .int .i64 n), (7, .int .i64 k), (9, .int .i64 q)]) (fun _ => blk b (.cells #[v] 57 (0, 0)) :: row ePair 60 v ys :: l) (fun q => q < n ∧ k < q ∧ down ys k n = if iless (ys.getD q z2) (ys.getD k z2) then down (swp ys k q) q n else ys) ?_ ?_
      ·
        refine K_seq ?_
        refine K_region ?_
        refine W_y (y_move rfl) rfl rfl rfl ?_
        refine W_y (y_add rfl rfl (by omega)) rfl rfl rfl ?_
        refine W_y (y_assign rfl) rfl rfl rfl ?_
        refine K_nil ?_
        refine K_then ?_
        refine K_seq ?_
        refine K_region ?_
        refine W_y (y_move rfl) rfl rfl rfl ?_
        refine W_y (y_move rfl) rfl rfl rfl ?_
        refine W_y (y_lt rfl rfl) rfl rfl rfl ?_
        refine W_y (y_move rfl) rfl rfl rfl ?_
        first | refine K_splitd 28 rfl (fun h3 => ?_) (fun h3 => ?_) | refine K_split 28 rfl (fun h3 => ?_) (fun h3 => ?_)
        ·
          refine K_f1 ?_
          refine W_y (y_move rfl) rfl rfl rfl ?_
          refine W_y (y_move rfl) rfl rfl rfl ?_
          refine W_y (y_move rfl) rfl rfl rfl ?_
          refine W_a (a_inv (enters_of Tryd.func117 (by kernel_rfl) rfl) rfl rfl (inv_val (mLess _) (ld_cell tab rfl (rd_one (.there .here) rfl))) (f117_ok (i := 2 * k + 2) (j := 2 * k + 1) (get_of z2 (by omega)) (get_of z2 (by omega)) (by omega) (by omega)) rfl ?_) rfl
          rintro _ _ _ - ⟨rfl, rfl, rfl⟩
          refine K_f1 ?_
          refine W_y (y_pick rfl rfl) rfl rfl rfl ?_
          refine K_nil ?_
          refine K_then ?_
          first | refine K_if rfl (fun h4 => ?_) (fun h4 => ?_) | refine K_ifn rfl (fun h4 => ?_) (fun h4 => ?_) | refine K_cond rfl (fun h4 => ?_) (fun h4 => ?_)
          ·
            obtain ⟨q, hqe⟩ : ∃ q, q = 2 * k + 2 := ⟨_, rfl⟩
            have hD := down_of (ys := ys) (k := k) (n := n) (q := q) (by omega) (by unfold kid; rw [if_pos ⟨by omega, h4⟩, hqe])
            refine K_region ?_
            refine W_y (y_move rfl) rfl rfl rfl ?_
            refine W_y (y_assign rfl) rfl rfl rfl ?_
            refine K_nil ?_
            refine K_thenA ?_
            exact K_mid q rfl (.cons rfl (.cons rfl (.cons rfl (.cons rfl (.cons (by subst hqe; rfl) (.nil _)))))) rfl ⟨by omega, by omega, hD⟩
          ·
            obtain ⟨q, hqe⟩ : ∃ q, q = 2 * k + 1 := ⟨_, rfl⟩
            have hD := down_of (ys := ys) (k := k) (n := n) (q := q) (by omega) (by unfold kid; rw [if_neg (fun h => absurd h.2 (by rw [show iless (ys.getD (2 * k + 2) z2) (ys.getD (2 * k + 1) z2) = false from h4]; decide)), hqe])
            refine K_skip ?_
            refine K_thenA ?_
            exact K_mid q rfl (.cons rfl (.cons rfl (.cons rfl (.cons rfl (.cons (by subst hqe; rfl) (.nil _)))))) rfl ⟨by omega, by omega, hD⟩
        ·
          obtain ⟨q, hqe⟩ : ∃ q, q = 2 * k + 1 := ⟨_, rfl⟩
          have hD := down_of (ys := ys) (k := k) (n := n) (q := q) (by omega) (by unfold kid; rw [if_neg (fun h => absurd h.1 (by omega)), hqe])
          refine W_skip rfl rfl rfl ?_
          refine W_skip rfl rfl rfl ?_
          refine W_skip rfl rfl rfl ?_
          refine W_skip rfl rfl rfl ?_
          refine W_y (y_pick rfl rfl) rfl rfl rfl ?_
          refine K_nil ?_
          refine K_then ?_
          refine K_no rfl ?_
          refine K_skip ?_
          refine K_thenA ?_
          exact K_mid q rfl (.cons rfl (.cons rfl (.cons rfl (.cons rfl (.cons (by subst hqe; rfl) (.nil _)))))) rfl ⟨by omega, by omega, hD⟩
      ·
        rintro q ⟨hqn, hkq, hD⟩
        refine K_seq ?_
        refine K_seq ?_
        refine K_region ?_
        refine K_f1 ?_
        refine W_y (y_move rfl) rfl rfl rfl ?_
        refine W_y (y_move rfl) rfl rfl rfl ?_
        refine W_y (y_move rfl) rfl rfl rfl ?_
        refine W_a (a_inv (enters_of Tryd.func117 (by kernel_rfl) rfl) rfl rfl (inv_val (mLess _) (ld_cell tab rfl (rd_one (.there .here) rfl))) (f117_ok (i := q) (j := k) (get_of z2 (by omega)) (get_of z2 (by omega)) (by omega) (by omega)) rfl ?_) rfl
        rintro _ _ _ - ⟨rfl, rfl, rfl⟩
        refine K_f1 ?_
        refine W_y (y_not rfl) rfl rfl rfl ?_
        refine K_nil ?_
        refine K_then ?_
        first | refine K_if rfl (fun h5 => ?_) (fun h5 => ?_) | refine K_ifn rfl (fun h5 => ?_) (fun h5 => ?_) | refine K_cond rfl (fun h5 => ?_) (fun h5 => ?_)
        ·
          have hs : down ys k n = ys := by rw [hD, if_neg (by simpa using h5)]
          refine K_exit ?_
          refine K_then_exit ?_
          refine K_in_past rfl ?_
          refine K_then_exit ?_
          refine K_in_exit ?_
          refine K_then ?_
          refine K_seq ?_
          refine K_region ?_
          refine W_y (y_move rfl) rfl rfl rfl ?_
          refine W_y (y_move rfl) rfl rfl rfl ?_
          refine W_y (y_gt rfl rfl) rfl rfl rfl ?_
          refine W_y (y_assign rfl) rfl rfl rfl ?_
          refine K_nil ?_
          refine K_then ?_
          refine K_ret ?_
          refine K_out1 rfl (.tmp rfl) ?_
          exact fun w hw => ⟨_, _, _, rfl, Imm.le.refl _, hw, rfl, by first | (rw [← hu, hs]; done) | (rw [← hu, hs]; rfl)⟩
        ·
          have hq := h5
          rw [Bool.not_eq_false'] at hq
          refine K_skip ?_
          refine K_then ?_
          refine K_seq ?_
          refine K_region ?_
          refine K_f1 ?_
          refine W_y (y_move rfl) rfl rfl rfl ?_
          refine W_y (y_move rfl) rfl rfl rfl ?_
          refine W_y (y_move rfl) rfl rfl rfl ?_
          refine W_a (a_inv (enters_of Tryd.func120 (by kernel_rfl) rfl) rfl rfl (inv_val (mSwap _) (ld_cell tab rfl (rd_one (.there .here) rfl))) (f120_ok (i := k) (j := q) (get_of z2 (by omega)) (get_of z2 (by omega)) (by omega) (by omega)) rfl ?_) rfl
          rintro _ _ _ - ⟨rfl, rfl⟩
          refine K_f1 ?_
          refine K_nil ?_
          refine K_then ?_
          refine K_region ?_
          refine W_y (y_move rfl) rfl rfl rfl ?_
          refine W_y (y_assign rfl) rfl rfl rfl ?_
          refine K_nil ?_
          refine K_in ?_
          refine K_thenA ?_
          exact K_back (swp ys k q, q) rfl (.cons rfl (.cons rfl (.cons rfl (.cons rfl (.nil _))))) rfl ⟨by rw [swp_length]; exact hl, Nat.le_of_lt hqn, by rw [← hu, hD, if_pos hq]⟩ (by simp only; omega)
theorem f26_ok {I : Imm} {l : List Itm} {b : Nat} {v : Value} {xs : List (Int × Int)} {x : Int × Int} (hm : (xs.length + 1) * 16 ≤ 140737488355328) :
    Ct Tryd.prog 26 [.iface 55 (.pointer (some ⟨b, 0, none⟩)), .iface 60 (.agg #[.int .i64 x.1, .int .i64 x.2])] I (blk b (.cells #[v] 57 (0, 0)) :: row ePair 60 v xs :: l) (fun _ J m => ∃ v', v'.oneCell' = true ∧ I = J ∧ m = blk b (.cells #[v'] 57 (0, 0)) :: row ePair 60 v' (hpush xs x) :: l) := by
  refine Ct_enter Tryd.func26 rfl rfl rfl ?_
  refine K_seq ?_
  refine K_region ?_
  refine W_y (y_move rfl) rfl rfl rfl ?_
  refine W_y (y_move rfl) rfl rfl rfl ?_
  refine W_a (a_inv (enters_of Tryd.func119 (by kernel_rfl) rfl) rfl rfl (fun w _ => mPush _ w) (f119_ok hm) rfl ?_) rfl
  rintro _ _ _ - ⟨v', ho, rfl, rfl⟩
  refine K_sc (.there .here) (fun hc => ?_)
  refine K_nil ?_
  refine K_then ?_
  refine K_region ?_
  refine W_y (y_move rfl) rfl rfl rfl ?_
  refine W_y (y_move rfl) rfl rfl rfl ?_
  refine W_a (a_inv (enters_of Tryd.func27 (by kernel_rfl) rfl) rfl rfl (inv_val (mLen _) (ld_cell tab rfl (rd_one .here rfl))) (f27_ok hc) rfl ?_) rfl
  rintro _ _ _ - ⟨rfl, rfl, rfl⟩
  have hL : (xs ++ [x]).length = xs.length + 1 := by simp
  refine W_y (Yv.to (.int .i64 xs.length) (y_sub rfl rfl (by omega)) (by rw [List.length_append]; simp)) rfl rfl rfl ?_
  refine W_a (a_call (enters_of Tryd.func42 (by kernel_rfl) rfl) rfl (f42_ok (j := xs.length) (by rw [List.length_append, List.length_singleton]; omega) (by rw [List.length_append, List.length_singleton]; omega)) rfl ?_) rfl
  rintro _ _ _ - ⟨rfl, rfl⟩
  refine K_nil ?_
  refine K_out0 (.inr rfl) rfl ?_
  exact fun w hw => ⟨_, _, _, rfl, Imm.le.refl _, hw, v', ho, rfl, rfl⟩
theorem f28_ok {I : Imm} {l : List Itm} {b : Nat} {v : Value} {xs : List (Int × Int)} (hm : xs.length ≤ 140737488355328) (h0 : 0 < xs.length) :
    Ct Tryd.prog 28 [.iface 55 (.pointer (some ⟨b, 0, none⟩))] I (blk b (.cells #[v] 57 (0, 0)) :: row ePair 60 v xs :: l) (fun r J m => ∃ v', r = .iface 60 (.agg #[.int .i64 (xs.getD 0 z2).1, .int .i64 (xs.getD 0 z2).2]) ∧ v'.oneCell' = true ∧ I = J ∧ m = blk b (.cells #[v'] 57 (0, 0)) :: row ePair 60 v' (hpop xs) :: l) := by
  refine Ct_enter Tryd.func28 rfl rfl rfl ?_
  obtain ⟨n, hn⟩ : ∃ n, xs.length = n + 1 := ⟨xs.length - 1, by omega⟩
  have hlp : (hpop xs).length = n := by have := (hpop_perm h0).length_eq; simp at this; omega
  refine K_sc (.there .here) (fun hc => ?_)
  refine K_seq ?_
  refine K_region ?_
  refine W_y (y_assign rfl) rfl rfl rfl ?_
  refine K_nil ?_
  refine K_then ?_
  refine K_seq ?_
  refine K_region ?_
  refine W_y (y_move rfl) rfl rfl rfl ?_
  refine W_a (a_inv (enters_of Tryd.func27 (by kernel_rfl) rfl) rfl rfl (inv_val (mLen _) (ld_cell tab rfl (rd_one .here rfl))) (f27_ok hc) rfl ?_) rfl
  rintro _ _ _ - ⟨rfl, rfl, rfl⟩
  refine W_y (Yv.to (.int .i64 n) (y_sub rfl rfl (by omega)) (by rw [hn]; simp)) rfl rfl rfl ?_
  refine W_y (y_assign rfl) rfl rfl rfl ?_
  refine K_nil ?_
  refine K_then ?_
  refine K_seq ?_
  refine K_region ?_
  refine K_f1 ?_
  refine W_y (y_move rfl) rfl rfl rfl ?_
  refine W_y (y_move rfl) rfl rfl rfl ?_
  refine W_a (a_inv (enters_of Tryd.func120 (by kernel_rfl) rfl) rfl rfl (inv_val (mSwap _) (ld_cell tab rfl (rd_one (.there .here) rfl))) (f120_ok (i := 0) (j := n) (get_of z2 (by omega)) (get_of z2 (by omega)) (by omega) (by omega)) rfl ?_) rfl
  rintro _ _ _ - ⟨rfl, rfl⟩
  refine K_f1 ?_
  refine K_nil ?_
  refine K_then ?_
  refine K_seq ?_
  refine K_region ?_
  refine W_y (y_move rfl) rfl rfl rfl ?_
  refine W_y (y_move rfl) rfl rfl rfl ?_
  refine W_a (a_call (enters_of Tryd.func43 (by kernel_rfl) rfl) rfl (f43_ok (xs := swp xs 0 n) (i := 0) (n := n) (by rw [swp_length]; exact hm) (by rw [swp_length]; omega) (by omega)) rfl ?_) rfl
  rintro _ _ _ - ⟨rfl, rfl⟩
  rw [down_last hn]
  refine K_nil ?_
  refine K_then ?_
  refine K_seq ?_
  refine K_region ?_
  refine W_y (y_move rfl) rfl rfl rfl ?_
  refine W_a (a_inv (enters_of Tryd.func118 (by kernel_rfl) rfl) rfl rfl (fun w _ => mPop _ w) (f118_ok (xs := hpop xs) (x := xs.getD 0 z2) (by omega)) rfl ?_) rfl
  rintro _ _ _ - ⟨v', rfl, ho, rfl, rfl⟩
  refine W_y (y_assign rfl) rfl rfl rfl ?_
  refine K_nil ?_
  refine K_then ?_
  refine K_ret ?_
  refine K_out1 rfl (.tmp rfl) ?_
  exact fun w hw => ⟨_, _, _, rfl, Imm.le.refl _, hw, v', rfl, ho, rfl, rfl⟩
end Go.Proofs.YtfnmcpgajjkemaaDoor
