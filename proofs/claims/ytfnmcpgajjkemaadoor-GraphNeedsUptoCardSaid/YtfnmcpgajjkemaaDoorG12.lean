/- CopyLists, SameLists. Printed by wip/gen/g12.py. -/
import Derived.Test.YtfnmcpgajjkemaaDoorG11
namespace Go.Proofs.YtfnmcpgajjkemaaDoor
open Go Go.RowKit Go.Proofs.YtfnmcpgajjkemaaDoor.SW
set_option maxRecDepth 100000
set_option maxHeartbeats 400000
theorem f11_ok {I : Imm} {l : List Itm} {v : Value} {vs : List SV} {xss : List (List Int)} (hr : RowII eInt I v vs xss) (hm : xss.length * 24 ≤ 140737488355328) (hm2 : ∀ i, i < xss.length → (xss.getD i []).length * 8 ≤ 140737488355328) :
    Ct Tryd.prog 11 [v] I l (fun r J m => (∃ vs', RowII eInt J r vs' xss) ∧ l = m) := by
  refine Ct_enter Tryd.func11 rfl rfl rfl ?_
  have hl := hr.len
  have hc := hr.top.sc
  rw [hl] at hc
  refine K_seq ?_
  refine K_region ?_
  refine W_y (y_assign rfl) rfl rfl rfl ?_
  refine K_nil ?_
  refine K_then ?_
  refine K_seq ?_
  refine K_region ?_
  refine W_y (y_assign rfl) rfl rfl rfl ?_
  refine K_nil ?_
  refine K_then ?_
  refine K_seq ?_
  refine K_seq ?_
  refine K_region ?_
  refine W_y (y_assign rfl) rfl rfl rfl ?_
  refine K_nil ?_
  refine K_then ?_
  refine K_block ?_
  refine K_nilrow eVal 23 ?_
  refine K_lp (σ := Nat × Value × List SV × Imm) (fun s => s.2.2.2) (fun s => [(0, v), (3, s.2.1), (4, .int .i64 s.1)]) (fun s => row eVal 23 s.2.1 s.2.2.1 :: l) (fun s => s.1 ≤ xss.length ∧ I.le s.2.2.2 ∧ s.2.2.1.length = s.1 ∧ ∀ i, i < s.1 → RowI eInt s.2.2.2 (s.2.2.1.getD i svnil).1 (xss.getD i [])) (fun s => xss.length - s.1) (0, .slice none 0 0, [], I) rfl (by repeat first | exact .nil _ | refine .cons rfl ?_) rfl ⟨Nat.zero_le _, Imm.le.refl _, rfl, fun i h => absurd h (Nat.not_lt_zero i)⟩ ?_
  rintro ⟨k, pv, pvs, J⟩ ⟨hk, hJ, hpl, hrows⟩
  simp only at hk hJ hpl hrows ⊢
  refine K_seq ?_
  refine K_seq ?_
  refine K_region ?_
  refine W_y (y_move rfl) rfl rfl rfl ?_
  refine W_y (y_move rfl) rfl rfl rfl ?_
  refine W_y (by first | exact y_lenc tab (by assumption) rfl rfl | exact y_lens tab rfl rfl | exact y_lenstr tab rfl rfl) rfl rfl rfl ?_
  refine W_y (y_lt rfl rfl) rfl rfl rfl ?_
  refine K_nil ?_
  refine K_then ?_
  first | refine K_if rfl (fun h1 => ?_) (fun h1 => ?_) | refine K_ifn rfl (fun h1 => ?_) (fun h1 => ?_) | refine K_cond rfl (fun h1 => ?_) (fun h1 => ?_)
  ·
    refine K_skip ?_
    refine K_then ?_
    refine K_seq ?_
    refine K_block ?_
    refine K_region ?_
    refine W_y (y_move rfl) rfl rfl rfl ?_
    refine W_y (y_move rfl) rfl rfl rfl ?_
    refine W_y (y_move rfl) rfl rfl rfl ?_
    refine W_y (y_ixi tab hr.top rfl rfl rfl rfl (by omega)) rfl rfl rfl ?_
    refine W_y (y_load rfl (ld_vi (i := k) tab (hr.top.mono hJ) rfl (by omega))) rfl rfl rfl ?_
    refine W_a (a_call (enters_of Tryd.func16 (by kernel_rfl) rfl) rfl (f16_ok ((hr.at_ k (by omega)).mono hJ) (hm2 k (by omega))) rfl ?_) rfl
    rintro u _ _ - ⟨rfl, rfl⟩
    refine K_ocv .here (fun hou => ?_)
    refine K_give (fun J2 hJ2 hou2 => ?_)
    refine W_a (a_bs (e := eVal) (xs := [⟨u, hou⟩]) (os := [.tmp 16]) tab rfl rfl rfl rfl rfl rfl rfl (congrArg (fun c : Array Value => [c.toList]) (cells_one hou)) rfl ?_) rfl
    intro b17
    refine K_f1 ?_
    refine W_a (a_app (e := eVal) (ys := [⟨u, hou⟩]) tab rfl rfl rfl rfl rfl (rd_rowall .here) (by simp only [List.length_singleton]; omega) rfl ?_) rfl
    intro v18
    refine K_f1 (K_drop ?_)
    refine W_y (y_assign rfl) rfl rfl rfl ?_
    refine K_nil ?_
    refine K_in ?_
    refine K_then ?_
    refine K_region ?_
    refine W_y (y_move rfl) rfl rfl rfl ?_
    refine W_y (y_add rfl rfl (by omega)) rfl rfl rfl ?_
    refine W_y (y_assign rfl) rfl rfl rfl ?_
    refine K_nil ?_
    refine K_thenA ?_
    exact K_back (k + 1, v18, pvs ++ [⟨u, hou⟩], J2) rfl (by repeat first | exact .nil _ | refine .cons rfl ?_) rfl ⟨by simp only; omega, hJ.trans hJ2, by simp only [List.length_append, List.length_singleton]; omega, rows_snoc hpl (fun i hi' => (hrows i hi').mono hJ2) hou2⟩ (by simp only; omega)
  ·
    have hke : k = xss.length := by omega
    subst hke
    refine K_give (fun J3 hJ3 htop => ?_)
    refine K_exit ?_
    refine K_then_exit ?_
    refine K_then_exit ?_
    refine K_in_exit ?_
    refine K_then ?_
    refine K_seq ?_
    refine K_region ?_
    refine W_y (y_move rfl) rfl rfl rfl ?_
    refine W_y (y_assign rfl) rfl rfl rfl ?_
    refine K_nil ?_
    refine K_then ?_
    refine K_ret ?_
    refine K_out1 rfl (.tmp rfl) ?_
    exact fun w hw => ⟨_, _, _, rfl, hJ.trans hJ3, hw, ⟨pvs, htop, hpl, fun i hi => (hrows i hi).mono hJ3⟩, rfl⟩
theorem f14_ok {I : Imm} {l : List Itm} {v u : Value} {vs us : List SV} {xss yss : List (List Int)} (hx : RowII eInt I v vs xss) (hy : RowII eInt I u us yss) :
    Ct Tryd.prog 14 [v, u] I l (fun r J m => r = .bool (decide (xss = yss)) ∧ I = J ∧ l = m) := by
  refine Ct_enter Tryd.func14 rfl rfl rfl ?_
  have hlx := hx.len
  have hly := hy.len
  have hcx := hx.top.sc
  have hcy := hy.top.sc
  rw [hlx] at hcx
  rw [hly] at hcy
  have hmx := hx.top.max
  simp only [maxLen] at hmx
  refine K_seq ?_
  refine K_region ?_
  refine W_y (y_assign rfl) rfl rfl rfl ?_
  refine K_nil ?_
  refine K_then ?_
  refine K_seq ?_
  refine K_seq ?_
  refine K_region ?_
  refine W_y (y_move rfl) rfl rfl rfl ?_
  refine W_y (by first | exact y_lenc tab (by assumption) rfl rfl | exact y_lens tab rfl rfl | exact y_lenstr tab rfl rfl) rfl rfl rfl ?_
  refine W_y (y_move rfl) rfl rfl rfl ?_
  refine W_y (by first | exact y_lenc tab (by assumption) rfl rfl | exact y_lens tab rfl rfl | exact y_lenstr tab rfl rfl) rfl rfl rfl ?_
  refine W_y (by first | exact y_ne rfl rfl | exact y_sne rfl rfl) rfl rfl rfl ?_
  refine K_nil ?_
  refine K_then ?_
  first | refine K_if rfl (fun h1 => ?_) (fun h1 => ?_) | refine K_ifn rfl (fun h1 => ?_) (fun h1 => ?_) | refine K_cond rfl (fun h1 => ?_) (fun h1 => ?_)
  ·
    have hres : decide (xss = yss) = false := decide_eq_false (fun e => h1 (by rw [e]))
    refine K_seq ?_
    refine K_region ?_
    refine W_y (y_assign rfl) rfl rfl rfl ?_
    refine K_nil ?_
    refine K_then ?_
    refine K_ret ?_
    refine K_then_ret ?_
    refine K_out1 rfl (.tmp rfl) ?_
    exact fun w hw => ⟨_, _, _, rfl, Imm.le.refl _, hw, by rw [hres], rfl, rfl⟩
  ·
    have hlen : xss.length = yss.length := by have h' := h1; omega
    refine K_skip ?_
    refine K_then ?_
    refine K_seq ?_
    refine K_seq ?_
    refine K_region ?_
    refine W_y (y_assign rfl) rfl rfl rfl ?_
    refine K_nil ?_
    refine K_then ?_
    refine K_block ?_
    refine K_lp (σ := Nat) (fun s => I) (fun s => [(0, v), (1, u), (5, .int .i64 s)]) (fun s => l) (fun s => s ≤ xss.length ∧ ∀ i, i < s → xss.getD i [] = yss.getD i []) (fun s => xss.length - s) 0 rfl (by repeat first | exact .nil _ | refine .cons rfl ?_) rfl ⟨Nat.zero_le _, fun i h => absurd h (Nat.not_lt_zero i)⟩ ?_
    rintro k ⟨hk, hin⟩
    refine K_seq ?_
    refine K_seq ?_
    refine K_region ?_
    refine W_y (y_move rfl) rfl rfl rfl ?_
    refine W_y (y_move rfl) rfl rfl rfl ?_
    refine W_y (by first | exact y_lenc tab (by assumption) rfl rfl | exact y_lens tab rfl rfl | exact y_lenstr tab rfl rfl) rfl rfl rfl ?_
    refine W_y (y_lt rfl rfl) rfl rfl rfl ?_
    refine K_nil ?_
    refine K_then ?_
    first | refine K_if rfl (fun h2 => ?_) (fun h2 => ?_) | refine K_ifn rfl (fun h2 => ?_) (fun h2 => ?_) | refine K_cond rfl (fun h2 => ?_) (fun h2 => ?_)
    ·
      refine K_skip ?_
      refine K_then ?_
      refine K_seq ?_
      refine K_block ?_
      refine K_seq ?_
      refine K_draw [(0, 3, []), (1, 3, []), (2, 3, []), (3, 0, []), (4, 3, []), (5, 3, []), (6, 3, []), (7, 0, []), (8, 2, []), (9, 3, [])] [8] [] rfl (by kernel_rfl) (by intro c a d v w h; cases d <;> exact h) ?_
      refine D_f rfl (fun _ _ => y_move rfl) rfl rfl rfl ?_
      refine D_f rfl (fun _ _ => y_move rfl) rfl rfl rfl ?_
      refine D_f rfl (fun _ _ => y_ixi tab hx.top rfl rfl rfl rfl (by omega)) rfl rfl rfl ?_
      refine D_y rfl (y_load rfl (ld_vi (i := k) tab hx.top rfl (by omega))) rfl rfl rfl ?_
      refine D_f rfl (fun _ _ => y_move rfl) rfl rfl rfl ?_
      refine D_f rfl (fun _ _ => y_move rfl) rfl rfl rfl ?_
      refine D_f rfl (fun _ _ => y_ixi tab hy.top rfl rfl rfl rfl (by omega)) rfl rfl rfl ?_
      refine D_y rfl (y_load rfl (ld_vi (i := k) tab hy.top rfl (by omega))) rfl rfl rfl ?_
      refine D_a2 (fun _ h => h.sublist (by repeat first | exact List.nil_sublist _ | exact List.Sublist.refl _ | apply List.Sublist.cons_cons | apply List.Sublist.cons)) rfl (a_call (enters_of Tryd.func17 (by kernel_rfl) rfl) rfl (f17_ok (Rdb.ofRowI (hx.at_ k (by omega))) (Rdb.ofRowI (hy.at_ k (by omega)))) rfl ?_) rfl
      rintro _ _ _ - ⟨rfl, rfl, rfl⟩
      refine D_t I [] ?_
      refine D_f rfl (fun _ _ => y_not rfl) rfl rfl rfl ?_
      refine D_nil (fun _ h => h.sublist (by repeat first | exact List.nil_sublist _ | exact List.Sublist.refl _ | apply List.Sublist.cons_cons | apply List.Sublist.cons)) ?_
      refine K_then ?_
      first | refine K_if rfl (fun h3 => ?_) (fun h3 => ?_) | refine K_ifn rfl (fun h3 => ?_) (fun h3 => ?_) | refine K_cond rfl (fun h3 => ?_) (fun h3 => ?_)
      ·
        have hres : decide (xss = yss) = false := decide_eq_false (fun e => h3 (by rw [e]))
        refine K_seq ?_
        refine K_region ?_
        refine W_y (y_assign rfl) rfl rfl rfl ?_
        refine K_nil ?_
        refine K_then ?_
        refine K_ret ?_
        refine K_in_ret ?_
        refine K_then_ret ?_
        refine K_then_ret ?_
        refine K_in_ret ?_
        refine K_then_ret ?_
        refine K_out1 rfl (.tmp rfl) ?_
        exact fun w hw => ⟨_, _, _, rfl, Imm.le.refl _, hw, by rw [hres], rfl, rfl⟩
      ·
        have heq := h3
        refine K_skip ?_
        refine K_in ?_
        refine K_then ?_
        refine K_region ?_
        refine W_y (y_move rfl) rfl rfl rfl ?_
        refine W_y (y_add rfl rfl (by omega)) rfl rfl rfl ?_
        refine W_y (y_assign rfl) rfl rfl rfl ?_
        refine K_nil ?_
        refine K_thenA ?_
        exact K_back (k + 1) rfl (by repeat first | exact .nil _ | refine .cons rfl ?_) rfl ⟨by omega, all_succ hin heq⟩ (by first | omega | (simp only; omega))
    ·
      have hres : decide (xss = yss) = true := decide_eq_true (getD_ext [] hlen (fun i hi => hin i (by omega)))
      refine K_exit ?_
      refine K_then_exit ?_
      refine K_then_exit ?_
      refine K_in_exit ?_
      refine K_then ?_
      refine K_seq ?_
      refine K_region ?_
      refine W_y (y_assign rfl) rfl rfl rfl ?_
      refine K_nil ?_
      refine K_then ?_
      refine K_ret ?_
      refine K_out1 rfl (.tmp rfl) ?_
      exact fun w hw => ⟨_, _, _, rfl, Imm.le.refl _, hw, by rw [hres], rfl, rfl⟩
end Go.Proofs.YtfnmcpgajjkemaaDoor
