/- The heap of items. Printed by wip/gen/g1.py. -/
import Derived.Test.YtfnmcpgajjkemaaDoorEnc
import Derived.Test.YtfnmcpgajjkemaaDoorTab
import Derived.Test.YtfnmcpgajjkemaaDoorHeapP
namespace Go.Proofs.YtfnmcpgajjkemaaDoor
open Go Go.RowKit Go.Proofs.YtfnmcpgajjkemaaDoor.SW
set_option maxRecDepth 100000
set_option maxHeartbeats 400000
theorem f27_ok {I : Imm} {l : List Itm} {v : Value} {k : Nat} (hs : Sc v k) : Ct Tryd.prog 27 [v] I l (fun r J m => r = .int .i64 k ∧ I = J ∧ l = m) := by
  refine Ct_enter Tryd.func27 rfl rfl rfl ?_
  refine K_seq ?_
  refine K_region ?_
  refine W_y (y_assign rfl) rfl rfl rfl ?_
  refine K_nil ?_
  refine K_then ?_
  refine K_seq ?_
  refine K_region ?_
  refine W_y (y_move rfl) rfl rfl rfl ?_
  refine W_y (by first | exact y_lenc tab (by assumption) rfl rfl | exact y_lens tab rfl rfl | exact y_lenstr tab rfl rfl) rfl rfl rfl ?_
  refine W_y (y_assign rfl) rfl rfl rfl ?_
  refine K_nil ?_
  refine K_then ?_
  refine K_ret ?_
  refine K_out1 rfl (.tmp rfl) ?_
  exact fun w hw => ⟨_, _, _, rfl, Imm.le.refl _, hw, rfl, rfl, rfl⟩
theorem f117_ok {I : Imm} {l : List Itm} {v : Value} {xs : List (Int × Int)} {i j : Nat} {a b : Int × Int} (ha : xs[i]? = some a) (hb : xs[j]? = some b) (hi : i < xs.length) (hj : j < xs.length) :
    Ct Tryd.prog 117 [v, .int .i64 i, .int .i64 j] I (row ePair 60 v xs :: l) (fun r J m => r = .bool (iless a b) ∧ I = J ∧ m = row ePair 60 v xs :: l) := by
  refine Ct_enter Tryd.func117 rfl rfl rfl ?_
  refine K_sl .here (by omega) (fun hs => ?_)
  refine K_seq ?_
  refine K_region ?_
  refine W_y (y_assign rfl) rfl rfl rfl ?_
  refine K_nil ?_
  refine K_then ?_
  refine K_seq ?_
  refine K_draw [(0, 3, []), (1, 3, []), (2, 3, []), (3, 3, []), (4, 0, []), (5, 3, []), (6, 3, []), (7, 3, []), (8, 3, []), (9, 0, []), (10, 3, []), (11, 3, []), (12, 3, []), (13, 3, []), (14, 3, []), (15, 3, []), (16, 0, []), (17, 3, []), (18, 3, []), (19, 3, []), (20, 3, []), (21, 0, []), (22, 3, []), (23, 3, []), (24, 3, []), (25, 3, []), (26, 3, []), (27, 3, []), (28, 0, []), (29, 3, []), (30, 3, []), (31, 3, []), (32, 3, []), (33, 0, []), (34, 3, []), (35, 3, []), (36, 3, []), (37, 3, [])] [] (row ePair 60 v xs :: l) rfl (by kernel_rfl) (by intro c a d v w h; cases d <;> exact h) ?_
  refine D_f rfl (fun _ _ => y_move rfl) rfl rfl rfl ?_
  refine D_f rfl (fun _ _ => y_move rfl) rfl rfl rfl ?_
  refine D_f rfl (fun _ _ => y_ixs tab hs rfl rfl rfl rfl (by omega)) rfl rfl rfl ?_
  refine D_f rfl (fun _ _ => by first | exact y_fa tab rfl rfl rfl rfl rfl | exact y_fae tab (by assumption) rfl rfl rfl rfl rfl) rfl rfl rfl ?_
  refine D_y rfl (y_load rfl (by first | exact ld_row (e := ePair) tab .here rfl rfl ha rfl | exact ld_row (e := ePair) tab .here rfl rfl hb rfl)) rfl rfl rfl ?_
  refine D_f rfl (fun _ _ => y_move rfl) rfl rfl rfl ?_
  refine D_f rfl (fun _ _ => y_move rfl) rfl rfl rfl ?_
  refine D_f rfl (fun _ _ => y_ixs tab hs rfl rfl rfl rfl (by omega)) rfl rfl rfl ?_
  refine D_f rfl (fun _ _ => by first | exact y_fa tab rfl rfl rfl rfl rfl | exact y_fae tab (by assumption) rfl rfl rfl rfl rfl) rfl rfl rfl ?_
  refine D_y rfl (y_load rfl (by first | exact ld_row (e := ePair) tab .here rfl rfl ha rfl | exact ld_row (e := ePair) tab .here rfl rfl hb rfl)) rfl rfl rfl ?_
  refine D_f rfl (fun _ _ => y_lt rfl rfl) rfl rfl rfl ?_
  refine D_f rfl (fun _ _ => y_move rfl) rfl rfl rfl ?_
  first | refine K_splitd 18 rfl (fun h1 => ?_) (fun h1 => ?_) | refine K_split 18 rfl (fun h1 => ?_) (fun h1 => ?_)
  ·
    refine D_skip3 rfl rfl rfl rfl ?_
    refine D_skip3 rfl rfl rfl rfl ?_
    refine D_skip3 rfl rfl rfl rfl ?_
    refine D_skip3 rfl rfl rfl rfl ?_
    refine D_skip rfl rfl rfl rfl ?_
    refine D_skip3 rfl rfl rfl rfl ?_
    refine D_skip3 rfl rfl rfl rfl ?_
    refine D_skip3 rfl rfl rfl rfl ?_
    refine D_skip3 rfl rfl rfl rfl ?_
    refine D_skip rfl rfl rfl rfl ?_
    refine D_skip3 rfl rfl rfl rfl ?_
    refine D_skip3 rfl rfl rfl rfl ?_
    refine D_skip3 rfl rfl rfl rfl ?_
    refine D_skip3 rfl rfl rfl rfl ?_
    refine D_skip3 rfl rfl rfl rfl ?_
    refine D_skip3 rfl rfl rfl rfl ?_
    refine D_skip rfl rfl rfl rfl ?_
    refine D_skip3 rfl rfl rfl rfl ?_
    refine D_skip3 rfl rfl rfl rfl ?_
    refine D_skip3 rfl rfl rfl rfl ?_
    refine D_skip3 rfl rfl rfl rfl ?_
    refine D_skip rfl rfl rfl rfl ?_
    refine D_skip3 rfl rfl rfl rfl ?_
    refine D_skip3 rfl rfl rfl rfl ?_
    refine D_f rfl (fun _ _ => y_pick rfl rfl) rfl rfl rfl ?_
    refine D_f rfl (fun _ _ => y_assign rfl) rfl rfl rfl ?_
    refine D_nil (fun _ h => h.sublist (by repeat first | exact List.nil_sublist _ | exact List.Sublist.refl _ | apply List.Sublist.cons_cons | apply List.Sublist.cons)) ?_
    refine K_then ?_
    refine K_ret ?_
    refine K_out1 rfl (.tmp rfl) ?_
    exact fun w hw => ⟨_, _, _, rfl, Imm.le.refl _, hw, by simp [iless, *], rfl, rfl⟩
  ·
    refine D_f rfl (fun _ _ => y_move rfl) rfl rfl rfl ?_
    refine D_f rfl (fun _ _ => y_move rfl) rfl rfl rfl ?_
    refine D_f rfl (fun _ _ => y_ixs tab hs rfl rfl rfl rfl (by omega)) rfl rfl rfl ?_
    refine D_f rfl (fun _ _ => by first | exact y_fa tab rfl rfl rfl rfl rfl | exact y_fae tab (by assumption) rfl rfl rfl rfl rfl) rfl rfl rfl ?_
    refine D_y rfl (y_load rfl (by first | exact ld_row (e := ePair) tab .here rfl rfl ha rfl | exact ld_row (e := ePair) tab .here rfl rfl hb rfl)) rfl rfl rfl ?_
    refine D_f rfl (fun _ _ => y_move rfl) rfl rfl rfl ?_
    refine D_f rfl (fun _ _ => y_move rfl) rfl rfl rfl ?_
    refine D_f rfl (fun _ _ => y_ixs tab hs rfl rfl rfl rfl (by omega)) rfl rfl rfl ?_
    refine D_f rfl (fun _ _ => by first | exact y_fa tab rfl rfl rfl rfl rfl | exact y_fae tab (by assumption) rfl rfl rfl rfl rfl) rfl rfl rfl ?_
    refine D_y rfl (y_load rfl (by first | exact ld_row (e := ePair) tab .here rfl rfl ha rfl | exact ld_row (e := ePair) tab .here rfl rfl hb rfl)) rfl rfl rfl ?_
    refine D_f rfl (fun _ _ => by first | exact y_eq rfl rfl | exact y_seq rfl rfl) rfl rfl rfl ?_
    refine D_f rfl (fun _ _ => y_move rfl) rfl rfl rfl ?_
    first | refine K_splitd 30 rfl (fun h2 => ?_) (fun h2 => ?_) | refine K_split 30 rfl (fun h2 => ?_) (fun h2 => ?_)
    ·
      refine D_f rfl (fun _ _ => y_move rfl) rfl rfl rfl ?_
      refine D_f rfl (fun _ _ => y_move rfl) rfl rfl rfl ?_
      refine D_f rfl (fun _ _ => y_ixs tab hs rfl rfl rfl rfl (by omega)) rfl rfl rfl ?_
      refine D_f rfl (fun _ _ => by first | exact y_fa tab rfl rfl rfl rfl rfl | exact y_fae tab (by assumption) rfl rfl rfl rfl rfl) rfl rfl rfl ?_
      refine D_y rfl (y_load rfl (by first | exact ld_row (e := ePair) tab .here rfl rfl ha rfl | exact ld_row (e := ePair) tab .here rfl rfl hb rfl)) rfl rfl rfl ?_
      refine D_f rfl (fun _ _ => y_move rfl) rfl rfl rfl ?_
      refine D_f rfl (fun _ _ => y_move rfl) rfl rfl rfl ?_
      refine D_f rfl (fun _ _ => y_ixs tab hs rfl rfl rfl rfl (by omega)) rfl rfl rfl ?_
      refine D_f rfl (fun _ _ => by first | exact y_fa tab rfl rfl rfl rfl rfl | exact y_fae tab (by assumption) rfl rfl rfl rfl rfl) rfl rfl rfl ?_
      refine D_y rfl (y_load rfl (by first | exact ld_row (e := ePair) tab .here rfl rfl ha rfl | exact ld_row (e := ePair) tab .here rfl rfl hb rfl)) rfl rfl rfl ?_
      refine D_f rfl (fun _ _ => y_lt rfl rfl) rfl rfl rfl ?_
      refine D_f rfl (fun _ _ => y_pick rfl rfl) rfl rfl rfl ?_
      refine D_f rfl (fun _ _ => y_pick rfl rfl) rfl rfl rfl ?_
      refine D_f rfl (fun _ _ => y_assign rfl) rfl rfl rfl ?_
      refine D_nil (fun _ h => h.sublist (by repeat first | exact List.nil_sublist _ | exact List.Sublist.refl _ | apply List.Sublist.cons_cons | apply List.Sublist.cons)) ?_
      refine K_then ?_
      refine K_ret ?_
      refine K_out1 rfl (.tmp rfl) ?_
      exact fun w hw => ⟨_, _, _, rfl, Imm.le.refl _, hw, by simp [iless, *], rfl, rfl⟩
    ·
      refine D_skip3 rfl rfl rfl rfl ?_
      refine D_skip3 rfl rfl rfl rfl ?_
      refine D_skip3 rfl rfl rfl rfl ?_
      refine D_skip3 rfl rfl rfl rfl ?_
      refine D_skip rfl rfl rfl rfl ?_
      refine D_skip3 rfl rfl rfl rfl ?_
      refine D_skip3 rfl rfl rfl rfl ?_
      refine D_skip3 rfl rfl rfl rfl ?_
      refine D_skip3 rfl rfl rfl rfl ?_
      refine D_skip rfl rfl rfl rfl ?_
      refine D_skip3 rfl rfl rfl rfl ?_
      refine D_f rfl (fun _ _ => y_pick rfl rfl) rfl rfl rfl ?_
      refine D_f rfl (fun _ _ => y_pick rfl rfl) rfl rfl rfl ?_
      refine D_f rfl (fun _ _ => y_assign rfl) rfl rfl rfl ?_
      refine D_nil (fun _ h => h.sublist (by repeat first | exact List.nil_sublist _ | exact List.Sublist.refl _ | apply List.Sublist.cons_cons | apply List.Sublist.cons)) ?_
      refine K_then ?_
      refine K_ret ?_
      refine K_out1 rfl (.tmp rfl) ?_
      exact fun w hw => ⟨_, _, _, rfl, Imm.le.refl _, hw, by simp [iless, *], rfl, rfl⟩
theorem f120_ok {I : Imm} {l : List Itm} {v : Value} {xs : List (Int × Int)} {i j : Nat} {a b : Int × Int} (ha : xs[i]? = some a) (hb : xs[j]? = some b) (hi : i < xs.length) (hj : j < xs.length) :
    Ct Tryd.prog 120 [v, .int .i64 i, .int .i64 j] I (row ePair 60 v xs :: l) (fun _ J m => I = J ∧ m = row ePair 60 v ((xs.set i b).set j a) :: l) := by
  refine Ct_enter Tryd.func120 rfl rfl rfl ?_
  refine K_sl .here (by omega) (fun hs => ?_)
  refine K_draw [(0, 3, []), (1, 3, []), (2, 3, []), (3, 3, []), (4, 3, []), (5, 3, []), (6, 3, []), (7, 0, []), (8, 3, []), (9, 3, []), (10, 3, []), (11, 0, []), (12, 3, []), (13, 2, [15]), (14, 3, []), (15, 2, [])] [13, 15] (row ePair 60 v xs :: l) rfl (by kernel_rfl) (by intro c a d v w h; cases d <;> exact h) ?_
  refine D_f rfl (fun _ _ => y_move rfl) rfl rfl rfl ?_
  refine D_f rfl (fun _ _ => y_move rfl) rfl rfl rfl ?_
  refine D_f rfl (fun _ _ => y_move rfl) rfl rfl rfl ?_
  refine D_f rfl (fun _ _ => y_move rfl) rfl rfl rfl ?_
  refine D_f rfl (fun _ _ => y_move rfl) rfl rfl rfl ?_
  refine D_f rfl (fun _ _ => y_move rfl) rfl rfl rfl ?_
  refine D_f rfl (fun _ _ => y_ixs tab hs rfl rfl rfl rfl (by omega)) rfl rfl rfl ?_
  refine D_y rfl (y_load rfl (by first | exact ld_rowa (e := ePair) tab .here rfl rfl rfl rfl ha | exact ld_rowa (e := ePair) tab .here rfl rfl rfl rfl hb)) rfl rfl rfl ?_
  refine D_f rfl (fun _ _ => y_move rfl) rfl rfl rfl ?_
  refine D_f rfl (fun _ _ => y_move rfl) rfl rfl rfl ?_
  refine D_f rfl (fun _ _ => y_ixs tab hs rfl rfl rfl rfl (by omega)) rfl rfl rfl ?_
  refine D_y rfl (y_load rfl (by first | exact ld_rowa (e := ePair) tab .here rfl rfl rfl rfl ha | exact ld_rowa (e := ePair) tab .here rfl rfl rfl rfl hb)) rfl rfl rfl ?_
  refine D_f rfl (fun _ _ => y_ixs tab hs rfl rfl rfl rfl (by omega)) rfl rfl rfl ?_
  refine D_a2 (fun _ h => h.sublist (by repeat first | exact List.nil_sublist _ | exact List.Sublist.refl _ | apply List.Sublist.cons_cons | apply List.Sublist.cons)) rfl (a_stea (e := ePair) (i := i) tab rfl rfl rfl rfl rfl hi rfl ?_) rfl
  refine D_t I [] ?_
  refine D_f rfl (fun _ _ => y_ixs tab hs rfl rfl rfl rfl (by omega)) rfl rfl rfl ?_
  refine D_a2 (fun _ h => h.sublist (by repeat first | exact List.nil_sublist _ | exact List.Sublist.refl _ | apply List.Sublist.cons_cons | apply List.Sublist.cons)) rfl (a_stea (e := ePair) (i := j) tab rfl rfl rfl rfl rfl (by rw [List.length_set]; exact hj) rfl ?_) rfl
  refine D_tz ?_
  refine K_out0 (.inr rfl) rfl ?_
  exact fun w hw => ⟨_, _, _, rfl, Imm.le.refl _, hw, rfl, rfl⟩
theorem f119_ok {I : Imm} {l : List Itm} {b : Nat} {v : Value} {xs : List (Int × Int)} {x : Int × Int} (hm : (xs.length + 1) * 16 ≤ 140737488355328) :
    Ct Tryd.prog 119 [.pointer (some ⟨b, 0, none⟩), .iface 60 (.agg #[.int .i64 x.1, .int .i64 x.2])] I (blk b (.cells #[v] 57 (0, 0)) :: row ePair 60 v xs :: l) (fun _ J m => ∃ v', v'.oneCell' = true ∧ I = J ∧ m = blk b (.cells #[v'] 57 (0, 0)) :: row ePair 60 v' (xs ++ [x]) :: l) := by
  refine Ct_enter Tryd.func119 rfl rfl rfl ?_
  refine K_draw [(0, 3, []), (1, 3, []), (2, 3, []), (3, 0, []), (4, 3, []), (5, 3, []), (6, 1, []), (7, 2, [9]), (8, 3, []), (9, 2, [])] [7, 9] [blk b (.cells #[v] 57 (0, 0))] rfl (by kernel_rfl) (by intro c a d v w h; cases d <;> exact h) ?_
  refine D_f rfl (fun _ _ => y_move rfl) rfl rfl rfl ?_
  refine D_f rfl (fun _ _ => y_move rfl) rfl rfl rfl ?_
  refine D_f rfl (fun _ _ => y_nil rfl) rfl rfl rfl ?_
  refine D_y rfl (y_load rfl (ld_cell tab rfl (rd_one .here rfl))) rfl rfl rfl ?_
  refine D_f rfl (fun _ _ => y_move rfl) rfl rfl rfl ?_
  refine D_f rfl (fun _ _ => y_tas tab rfl rfl) rfl rfl rfl ?_
  refine D_a1 (fun _ h => h.sublist (by repeat first | exact List.nil_sublist _ | exact List.Sublist.refl _ | apply List.Sublist.cons_cons | apply List.Sublist.cons)) rfl (a_bs (e := ePair) (xs := [x]) (os := [.tmp 9]) tab rfl rfl rfl rfl rfl rfl rfl rfl rfl ?_) rfl
  intro b10
  refine K_f2 ?_
  refine D_a2 (fun _ h => h.sublist (by repeat first | exact List.nil_sublist _ | exact List.Sublist.refl _ | apply List.Sublist.cons_cons | apply List.Sublist.cons)) rfl (a_app (e := ePair) (ys := [x]) tab rfl rfl rfl rfl rfl (rd_rowall .here) (by simp; omega) rfl ?_) rfl
  intro v11
  refine K_f1 (K_drop (K_f1 ?_))
  refine K_ocv (.there .here) (fun ho => ?_)
  refine D_t I [] ?_
  refine D_f rfl (fun _ _ => y_nil rfl) rfl rfl rfl ?_
  refine D_a2 (fun _ h => h.sublist (by repeat first | exact List.nil_sublist _ | exact List.Sublist.refl _ | apply List.Sublist.cons_cons | apply List.Sublist.cons)) rfl (a_st tab rfl rfl rfl rfl (by first | rfl | assumption) rfl ?_) rfl
  refine D_tz ?_
  refine K_out0 (.inr rfl) rfl ?_
  exact fun w hw => ⟨_, _, _, rfl, Imm.le.refl _, hw, v11, ho, rfl, rfl⟩
theorem f118_ok {I : Imm} {l : List Itm} {b : Nat} {v : Value} {xs : List (Int × Int)} {x : Int × Int} (hm : xs.length + 1 ≤ 140737488355328) :
    Ct Tryd.prog 118 [.pointer (some ⟨b, 0, none⟩)] I (blk b (.cells #[v] 57 (0, 0)) :: row ePair 60 v (xs ++ [x]) :: l) (fun r J m => ∃ v', r = .iface 60 (.agg #[.int .i64 x.1, .int .i64 x.2]) ∧ v'.oneCell' = true ∧ I = J ∧ m = blk b (.cells #[v'] 57 (0, 0)) :: row ePair 60 v' xs :: l) := by
  refine Ct_enter Tryd.func118 rfl rfl rfl ?_
  have hl : (xs ++ [x]).length = xs.length + 1 := by simp
  have hx : (xs ++ [x])[xs.length]? = some x := by simp
  have hy : (xs ++ [x]).take xs.length = xs := by simp
  refine K_sl (.there .here) (by omega) (fun hs => ?_)
  refine K_ocv (.there .here) (fun hv => ?_)
  refine K_sc (.there .here) (fun hc => ?_)
  refine K_seq ?_
  refine K_region ?_
  refine W_y (y_assign rfl) rfl rfl rfl ?_
  refine K_nil ?_
  refine K_then ?_
  refine K_seq ?_
  refine K_draw [(0, 3, []), (1, 3, []), (2, 0, []), (3, 3, []), (4, 3, []), (5, 0, []), (6, 3, []), (7, 3, []), (8, 3, []), (9, 0, []), (10, 1, []), (11, 2, [])] [11] (blk b (.cells #[v] 57 (0, 0)) :: row ePair 60 v (xs ++ [x]) :: l) rfl (by kernel_rfl) (by intro c a d v w h; cases d <;> exact h) ?_
  refine D_f rfl (fun _ _ => y_move rfl) rfl rfl rfl ?_
  refine D_f rfl (fun _ _ => y_nil rfl) rfl rfl rfl ?_
  refine D_y rfl (y_load rfl (by first | exact ld_cell tab rfl (rd_one .here rfl) | exact ld_rowa (e := ePair) tab (.there .here) rfl rfl rfl rfl hx)) rfl rfl rfl ?_
  refine D_f rfl (fun _ _ => y_move rfl) rfl rfl rfl ?_
  refine D_f rfl (fun _ _ => y_nil rfl) rfl rfl rfl ?_
  refine D_y rfl (y_load rfl (by first | exact ld_cell tab rfl (rd_one .here rfl) | exact ld_rowa (e := ePair) tab (.there .here) rfl rfl rfl rfl hx)) rfl rfl rfl ?_
  refine D_f rfl (fun _ _ => by first | exact y_lenc tab (by assumption) rfl rfl | exact y_lens tab rfl rfl | exact y_lenstr tab rfl rfl) rfl rfl rfl ?_
  refine D_f rfl (fun _ _ => y_sub rfl rfl (by omega)) rfl rfl rfl ?_
  refine D_f rfl (fun _ _ => y_ixN xs.length (y_ixs tab hs rfl rfl rfl rfl (by omega)) (by omega)) rfl rfl rfl ?_
  refine D_y rfl (y_load rfl (by first | exact ld_cell tab rfl (rd_one .here rfl) | exact ld_rowa (e := ePair) tab (.there .here) rfl rfl rfl rfl hx)) rfl rfl rfl ?_
  refine D_a1 (fun _ h => h.sublist (by repeat first | exact List.nil_sublist _ | exact List.Sublist.refl _ | apply List.Sublist.cons_cons | apply List.Sublist.cons)) rfl (a_alloc tab rfl rfl ?_) rfl
  intro b3
  refine D_a2 (fun _ h => h.sublist (by repeat first | exact List.nil_sublist _ | exact List.Sublist.refl _ | apply List.Sublist.cons_cons | apply List.Sublist.cons)) rfl (a_sta (us := ePair.cells x) tab rfl rfl rfl rfl (ePair.one x) rfl ?_) rfl
  refine D_tz ?_
  refine K_then ?_
  refine K_seq ?_
  refine K_draw [(0, 3, []), (1, 3, []), (2, 3, []), (3, 0, []), (4, 3, []), (5, 3, []), (6, 0, []), (7, 3, []), (8, 3, []), (9, 3, []), (10, 3, []), (11, 2, [])] [11] [blk b (.cells #[v] 57 (0, 0))] rfl (by kernel_rfl) (by intro c a d v w h; cases d <;> exact h) ?_
  refine D_f rfl (fun _ _ => y_move rfl) rfl rfl rfl ?_
  refine D_f rfl (fun _ _ => y_move rfl) rfl rfl rfl ?_
  refine D_f rfl (fun _ _ => y_nil rfl) rfl rfl rfl ?_
  refine D_y rfl (y_load rfl (by first | exact ld_cell tab rfl (rd_one .here rfl) | exact ld_rowa (e := ePair) tab (.there .here) rfl rfl rfl rfl hx)) rfl rfl rfl ?_
  refine D_f rfl (fun _ _ => y_move rfl) rfl rfl rfl ?_
  refine D_f rfl (fun _ _ => y_nil rfl) rfl rfl rfl ?_
  refine D_y rfl (y_load rfl (by first | exact ld_cell tab rfl (rd_one .here rfl) | exact ld_rowa (e := ePair) tab (.there .here) rfl rfl rfl rfl hx)) rfl rfl rfl ?_
  refine D_f rfl (fun _ _ => by first | exact y_lenc tab (by assumption) rfl rfl | exact y_lens tab rfl rfl | exact y_lenstr tab rfl rfl) rfl rfl rfl ?_
  refine D_f rfl (fun _ _ => y_sub rfl rfl (by omega)) rfl rfl rfl ?_
  refine D_f rfl (fun _ _ => y_slN 0 xs.length (y_slc tab hc rfl rfl rfl rfl rfl (by omega)) (by omega)) rfl rfl rfl ?_
  refine D_f rfl (fun _ _ => y_nil rfl) rfl rfl rfl ?_
  refine K_f2 (K_cutrow (j := xs.length) (by omega) (K_f2 ?_))
  rw [hy]
  have ho := cutv_one (sz := 2) (i := 0) (j := xs.length) hv
  refine D_a2 (fun _ h => h.sublist (by repeat first | exact List.nil_sublist _ | exact List.Sublist.refl _ | apply List.Sublist.cons_cons | apply List.Sublist.cons)) rfl (a_st tab rfl rfl rfl rfl (by first | rfl | assumption) rfl ?_) rfl
  refine D_tz ?_
  refine K_then ?_
  refine K_seq ?_
  refine K_region ?_
  refine W_y (y_load rfl (ld_agg tab rfl rfl rfl (rd_all (.there (.there .here))))) rfl rfl rfl ?_
  refine K_f2 (K_drop ?_)
  refine W_y (y_mkif tab rfl rfl) rfl rfl rfl ?_
  refine W_y (y_assign rfl) rfl rfl rfl ?_
  refine K_nil ?_
  refine K_then ?_
  refine K_ret ?_
  refine K_out1 rfl (.tmp rfl) ?_
  exact fun w hw => ⟨_, _, _, rfl, Imm.le.refl _, hw, _, rfl, ho, rfl, rfl⟩
end Go.Proofs.YtfnmcpgajjkemaaDoor
