/- shuttleref16.form; CopyInts, SameInts, has. Printed by wip/gen/g11.py. -/
import Derived.Test.YtfnmcpgajjkemaaDoorG10
namespace Go.Proofs.YtfnmcpgajjkemaaDoor
open Go Go.RowKit Go.Proofs.YtfnmcpgajjkemaaDoor.SW
set_option maxRecDepth 100000
set_option maxHeartbeats 400000
theorem getD_ext {α : Type} {xs ys : List α} (d : α) (hl : xs.length = ys.length) (h : ∀ i, i < xs.length → xs.getD i d = ys.getD i d) : xs = ys := by
  refine List.ext_getElem hl fun i h1 h2 => ?_
  have := h i h1
  rwa [List.getD_eq_getElem?_getD, List.getD_eq_getElem?_getD, List.getElem?_eq_getElem h1, List.getElem?_eq_getElem h2] at this
theorem f24_ok {I : Imm} {l : List Itm} {v : Value} {vs : List SV} {xss : List (List Int)} (hr : RowII eInt I v vs xss) (hm : xss.length ≤ 140737488355328) :
    Ct Tryd.prog 24 [v] I l (fun r J m => r = .bool (decide (formOk xss)) ∧ I = J ∧ l = m) := by
  refine Ct_enter Tryd.func24 rfl rfl rfl ?_
  have hl := hr.len
  have hc := hr.top.sc
  rw [hl] at hc
  refine K_seq ?_
  refine K_region ?_
  refine W_y (y_assign rfl) rfl rfl rfl ?_
  refine K_nil ?_
  refine K_then ?_
  refine K_seq ?_
  refine K_seq ?_
  refine K_region ?_
  refine W_y (y_assign rfl) rfl rfl rfl ?_
  refine K_nil ?_
  refine K_then ?_
  refine K_block ?_
  refine K_lp (σ := Nat) (fun s => I) (fun s => [(0, v), (3, .int .i64 s)]) (fun s => l) (fun s => s ≤ xss.length ∧ ∀ i, i < s → ∀ k, k < (xss.getD i []).length → badAt xss.length (xss.getD i []) k = false) (fun s => xss.length - s) 0 rfl (by repeat first | exact .nil _ | refine .cons rfl ?_) rfl ⟨Nat.zero_le _, fun i h => absurd h (Nat.not_lt_zero i)⟩ ?_
  rintro i ⟨hi, hpre⟩
  refine K_seq ?_
  refine K_seq ?_
  refine K_region ?_
  refine W_y (y_move rfl) rfl rfl rfl ?_
  refine W_y (y_move rfl) rfl rfl rfl ?_
  refine W_y (by first | exact y_lenc tab (by assumption) rfl rfl | exact y_lens tab rfl rfl | exact y_lenstr tab rfl rfl) rfl rfl rfl ?_
  refine W_y (y_lt rfl rfl) rfl rfl rfl ?_
  refine K_nil ?_
  refine K_then ?_
  first | refine K_if rfl (fun h1 => ?_) (fun h1 => ?_) | refine K_ifn rfl (fun h1 => ?_) (fun h1 => ?_) | refine K_cond rfl (fun h1 => ?_) (fun h1 => ?_)
  ·
    refine K_skip ?_
    refine K_then ?_
    refine K_seq ?_
    refine K_block ?_
    refine K_seq ?_
    refine K_region ?_
    refine W_y (y_assign rfl) rfl rfl rfl ?_
    refine K_nil ?_
    refine K_then ?_
    refine K_block ?_
    have hri := hr.at_ i (by omega)
    obtain ⟨u, hu⟩ : ∃ u, u = (vs.getD i svnil).1 := ⟨_, rfl⟩
    rw [← hu] at hri
    have hci := hri.sc
    have hmi := hri.max
    simp only [maxLen] at hmi
    refine K_lp (σ := Nat) (fun s => I) (fun s => [(0, v), (3, .int .i64 i), (4, .int .i64 s)]) (fun s => l) (fun s => s ≤ (xss.getD i []).length ∧ ∀ k, k < s → badAt xss.length (xss.getD i []) k = false) (fun s => (xss.getD i []).length - s) 0 rfl (by repeat first | exact .nil _ | refine .cons rfl ?_) rfl ⟨Nat.zero_le _, fun k h => absurd h (Nat.not_lt_zero k)⟩ ?_
    rintro k ⟨hk, hin⟩
    refine K_seq ?_
    refine K_seq ?_
    refine K_region ?_
    refine W_y (y_move rfl) rfl rfl rfl ?_
    refine W_y (y_move rfl) rfl rfl rfl ?_
    refine W_y (y_move rfl) rfl rfl rfl ?_
    refine W_y (y_ixi tab hr.top rfl rfl rfl rfl (by omega)) rfl rfl rfl ?_
    refine W_y (hu ▸ y_load rfl (ld_vi (i := i) tab hr.top rfl (by omega))) rfl rfl rfl ?_
    refine W_y (by first | exact y_lenc tab (by assumption) rfl rfl | exact y_lens tab rfl rfl | exact y_lenstr tab rfl rfl) rfl rfl rfl ?_
    refine W_y (y_lt rfl rfl) rfl rfl rfl ?_
    refine K_nil ?_
    refine K_then ?_
    first | refine K_if rfl (fun h2 => ?_) (fun h2 => ?_) | refine K_ifn rfl (fun h2 => ?_) (fun h2 => ?_) | refine K_cond rfl (fun h2 => ?_) (fun h2 => ?_)
    ·
      refine K_skip ?_
      refine K_then ?_
      refine K_seq ?_
      refine K_block ?_
      refine K_seq ?_
      refine K_region ?_
      refine W_y (y_move rfl) rfl rfl rfl ?_
      refine W_y (y_move rfl) rfl rfl rfl ?_
      refine W_y (y_ixi tab hr.top rfl rfl rfl rfl (by omega)) rfl rfl rfl ?_
      refine W_y (hu ▸ y_load rfl (ld_vi (i := i) tab hr.top rfl (by omega))) rfl rfl rfl ?_
      refine W_y (y_move rfl) rfl rfl rfl ?_
      refine W_y (y_ixi tab hri rfl rfl rfl rfl (by omega)) rfl rfl rfl ?_
      refine W_y (y_load rfl (ld_ii (i := k) tab hri rfl (by omega))) rfl rfl rfl ?_
      refine W_y (y_assign rfl) rfl rfl rfl ?_
      refine K_nil ?_
      refine K_then ?_
      refine K_seq ?_
      refine K_region ?_
      refine W_y (y_move rfl) rfl rfl rfl ?_
      refine W_y (y_lt rfl rfl) rfl rfl rfl ?_
      refine W_y (y_move rfl) rfl rfl rfl ?_
      first | refine K_splitd 30 rfl (fun h3 => ?_) (fun h3 => ?_) | refine K_split 30 rfl (fun h3 => ?_) (fun h3 => ?_)
      ·
        have hres : decide (formOk xss) = false := decide_eq_false (fun hf => by
          have := hf i (by omega) k (by omega)
          simp only [badAt, Bool.or_eq_false_iff, Bool.and_eq_false_iff, decide_eq_false_iff_not] at this
          omega)
        refine W_skip rfl rfl rfl ?_
        refine W_skip rfl rfl rfl ?_
        refine W_skip rfl rfl rfl ?_
        refine W_skip rfl rfl rfl ?_
        refine W_y (y_pick rfl rfl) rfl rfl rfl ?_
        refine W_y (y_move rfl) rfl rfl rfl ?_
        refine W_skip rfl rfl rfl ?_
        refine W_skip rfl rfl rfl ?_
        refine W_skip rfl rfl rfl ?_
        refine W_skip rfl rfl rfl ?_
        refine W_skip rfl rfl rfl ?_
        refine W_skip rfl rfl rfl ?_
        refine W_skip rfl rfl rfl ?_
        refine W_skip rfl rfl rfl ?_
        refine W_skip rfl rfl rfl ?_
        refine W_skip rfl rfl rfl ?_
        refine W_skip rfl rfl rfl ?_
        refine W_skip rfl rfl rfl ?_
        refine W_skip rfl rfl rfl ?_
        refine W_skip rfl rfl rfl ?_
        refine W_y (y_pick rfl rfl) rfl rfl rfl ?_
        refine K_nil ?_
        refine K_then ?_
        refine K_yes rfl ?_
        refine K_seq ?_
        refine K_region ?_
        refine W_y (y_assign rfl) rfl rfl rfl ?_
        refine K_nil ?_
        refine K_then ?_
        refine K_ret ?_
        refine K_in_ret ?_
        refine K_then_ret ?_
        refine K_then_ret ?_
        refine K_in_ret ?_
        refine K_in_ret ?_
        refine K_then_ret ?_
        refine K_then_ret ?_
        refine K_in_ret ?_
        refine K_then_ret ?_
        refine K_out1 rfl (.tmp rfl) ?_
        exact fun w hw => ⟨_, _, _, rfl, Imm.le.refl _, hw, by rw [hres], rfl, rfl⟩
      ·
        refine W_y (y_move rfl) rfl rfl rfl ?_
        refine W_y (y_move rfl) rfl rfl rfl ?_
        refine W_y (by first | exact y_lenc tab (by assumption) rfl rfl | exact y_lens tab rfl rfl | exact y_lenstr tab rfl rfl) rfl rfl rfl ?_
        refine W_y (y_ge rfl rfl) rfl rfl rfl ?_
        refine W_y (y_pick rfl rfl) rfl rfl rfl ?_
        refine W_y (y_move rfl) rfl rfl rfl ?_
        first | refine K_splitd 36 rfl (fun h4 => ?_) (fun h4 => ?_) | refine K_split 36 rfl (fun h4 => ?_) (fun h4 => ?_)
        ·
          have hres : decide (formOk xss) = false := decide_eq_false (fun hf => by
            have := hf i (by omega) k (by omega)
            simp only [badAt, Bool.or_eq_false_iff, Bool.and_eq_false_iff, decide_eq_false_iff_not] at this
            omega)
          refine W_skip rfl rfl rfl ?_
          refine W_skip rfl rfl rfl ?_
          refine W_skip rfl rfl rfl ?_
          refine W_skip rfl rfl rfl ?_
          refine W_skip rfl rfl rfl ?_
          refine W_skip rfl rfl rfl ?_
          refine W_skip rfl rfl rfl ?_
          refine W_skip rfl rfl rfl ?_
          refine W_skip rfl rfl rfl ?_
          refine W_skip rfl rfl rfl ?_
          refine W_skip rfl rfl rfl ?_
          refine W_skip rfl rfl rfl ?_
          refine W_skip rfl rfl rfl ?_
          refine W_skip rfl rfl rfl ?_
          refine W_y (y_pick rfl rfl) rfl rfl rfl ?_
          refine K_nil ?_
          refine K_then ?_
          refine K_yes rfl ?_
          refine K_seq ?_
          refine K_region ?_
          refine W_y (y_assign rfl) rfl rfl rfl ?_
          refine K_nil ?_
          refine K_then ?_
          refine K_ret ?_
          refine K_in_ret ?_
          refine K_then_ret ?_
          refine K_then_ret ?_
          refine K_in_ret ?_
          refine K_in_ret ?_
          refine K_then_ret ?_
          refine K_then_ret ?_
          refine K_in_ret ?_
          refine K_then_ret ?_
          refine K_out1 rfl (.tmp rfl) ?_
          exact fun w hw => ⟨_, _, _, rfl, Imm.le.refl _, hw, by rw [hres], rfl, rfl⟩
        ·
          refine W_y (y_move rfl) rfl rfl rfl ?_
          refine W_y (y_gt rfl rfl) rfl rfl rfl ?_
          refine W_y (y_move rfl) rfl rfl rfl ?_
          first | refine K_splitd 39 rfl (fun h5 => ?_) (fun h5 => ?_) | refine K_split 39 rfl (fun h5 => ?_) (fun h5 => ?_)
          ·
            refine W_y (y_move rfl) rfl rfl rfl ?_
            refine W_y (y_move rfl) rfl rfl rfl ?_
            refine W_y (y_move rfl) rfl rfl rfl ?_
            refine W_y (y_ixi tab hr.top rfl rfl rfl rfl (by omega)) rfl rfl rfl ?_
            refine W_y (hu ▸ y_load rfl (ld_vi (i := i) tab hr.top rfl (by omega))) rfl rfl rfl ?_
            refine W_y (y_move rfl) rfl rfl rfl ?_
            refine W_y (y_sub rfl rfl (by omega)) rfl rfl rfl ?_
            refine W_y (y_ixN (k - 1) (y_ixi tab hri rfl rfl rfl rfl (by omega)) (by omega)) rfl rfl rfl ?_
            refine W_y (y_load rfl (ld_ii (i := k - 1) tab hri rfl (by omega))) rfl rfl rfl ?_
            refine W_y (y_le rfl rfl) rfl rfl rfl ?_
            refine W_y (y_pick rfl rfl) rfl rfl rfl ?_
            refine W_y (y_pick rfl rfl) rfl rfl rfl ?_
            refine K_nil ?_
            refine K_then ?_
            first | refine K_if rfl (fun h6 => ?_) (fun h6 => ?_) | refine K_ifn rfl (fun h6 => ?_) (fun h6 => ?_) | refine K_cond rfl (fun h6 => ?_) (fun h6 => ?_)
            ·
              have hres : decide (formOk xss) = false := decide_eq_false (fun hf => by
                have := hf i (by omega) k (by omega)
                simp only [badAt, Bool.or_eq_false_iff, Bool.and_eq_false_iff, decide_eq_false_iff_not] at this
                omega)
              refine K_seq ?_
              refine K_region ?_
              refine W_y (y_assign rfl) rfl rfl rfl ?_
              refine K_nil ?_
              refine K_then ?_
              refine K_ret ?_
              refine K_in_ret ?_
              refine K_then_ret ?_
              refine K_then_ret ?_
              refine K_in_ret ?_
              refine K_in_ret ?_
              refine K_then_ret ?_
              refine K_then_ret ?_
              refine K_in_ret ?_
              refine K_then_ret ?_
              refine K_out1 rfl (.tmp rfl) ?_
              exact fun w hw => ⟨_, _, _, rfl, Imm.le.refl _, hw, by rw [hres], rfl, rfl⟩
            ·
              refine K_skip ?_
              refine K_in ?_
              refine K_then ?_
              refine K_region ?_
              refine W_y (y_move rfl) rfl rfl rfl ?_
              refine W_y (y_add rfl rfl (by omega)) rfl rfl rfl ?_
              refine W_y (y_assign rfl) rfl rfl rfl ?_
              refine K_nil ?_
              refine K_thenA ?_
              have hb : badAt xss.length (xss.getD i []) k = false := by
                simp only [badAt, Bool.or_eq_false_iff, Bool.and_eq_false_iff, decide_eq_false_iff_not]
                omega
              exact K_back (k + 1) rfl (by repeat first | exact .nil _ | refine .cons rfl ?_) rfl ⟨by omega, all_succ hin hb⟩ (by first | omega | (simp only; omega))
          ·
            refine W_skip rfl rfl rfl ?_
            refine W_skip rfl rfl rfl ?_
            refine W_skip rfl rfl rfl ?_
            refine W_skip rfl rfl rfl ?_
            refine W_skip rfl rfl rfl ?_
            refine W_skip rfl rfl rfl ?_
            refine W_skip rfl rfl rfl ?_
            refine W_skip rfl rfl rfl ?_
            refine W_skip rfl rfl rfl ?_
            refine W_skip rfl rfl rfl ?_
            refine W_y (y_pick rfl rfl) rfl rfl rfl ?_
            refine W_y (y_pick rfl rfl) rfl rfl rfl ?_
            refine K_nil ?_
            refine K_then ?_
            refine K_no rfl ?_
            refine K_skip ?_
            refine K_in ?_
            refine K_then ?_
            refine K_region ?_
            refine W_y (y_move rfl) rfl rfl rfl ?_
            refine W_y (y_add rfl rfl (by omega)) rfl rfl rfl ?_
            refine W_y (y_assign rfl) rfl rfl rfl ?_
            refine K_nil ?_
            refine K_thenA ?_
            have hb : badAt xss.length (xss.getD i []) k = false := by
              simp only [badAt, Bool.or_eq_false_iff, Bool.and_eq_false_iff, decide_eq_false_iff_not]
              omega
            exact K_back (k + 1) rfl (by repeat first | exact .nil _ | refine .cons rfl ?_) rfl ⟨by omega, all_succ hin hb⟩ (by first | omega | (simp only; omega))
    ·
      have hnext : ∀ i', i' < i + 1 → ∀ k, k < (xss.getD i' []).length → badAt xss.length (xss.getD i' []) k = false := all_succ hpre (fun k' hk' => hin k' (by omega))
      refine K_exit ?_
      refine K_then_exit ?_
      refine K_then_exit ?_
      refine K_in_exit ?_
      refine K_in ?_
      refine K_then ?_
      refine K_region ?_
      refine W_y (y_move rfl) rfl rfl rfl ?_
      refine W_y (y_add rfl rfl (by omega)) rfl rfl rfl ?_
      refine W_y (y_assign rfl) rfl rfl rfl ?_
      refine K_nil ?_
      refine K_thenA ?_
      exact K_back (i + 1) rfl (by repeat first | exact .nil _ | refine .cons rfl ?_) rfl ⟨by omega, hnext⟩ (by first | omega | (simp only; omega))
  ·
    have hres : decide (formOk xss) = true := decide_eq_true (fun i' hi' => hpre i' (by omega))
    refine K_exit ?_
    refine K_then_exit ?_
    refine K_then_exit ?_
    refine K_in_exit ?_
    refine K_then ?_
    refine K_seq ?_
    refine K_region ?_
    refine W_y (y_assign rfl) rfl rfl rfl ?_
    refine K_nil ?_
    refine K_then ?_
    refine K_ret ?_
    refine K_out1 rfl (.tmp rfl) ?_
    exact fun w hw => ⟨_, _, _, rfl, Imm.le.refl _, hw, by rw [hres], rfl, rfl⟩
theorem f16_ok {I : Imm} {l : List Itm} {v : Value} {xs : List Int} (hr : RowI eInt I v xs) (hm : xs.length * 8 ≤ 140737488355328) :
    Ct Tryd.prog 16 [v] I l (fun r J m => I = J ∧ m = row eInt 3 r xs :: l) := by
  refine Ct_enter Tryd.func16 rfl rfl rfl ?_
  refine K_seq ?_
  refine K_region ?_
  refine W_y (y_assign rfl) rfl rfl rfl ?_
  refine K_nil ?_
  refine K_then ?_
  refine K_seq ?_
  refine K_region ?_
  refine W_a (a_bs0 (e := eInt) tab rfl rfl rfl ?_) rfl
  intro b3
  refine W_y (y_move rfl) rfl rfl rfl ?_
  refine W_a (a_appi (e := eInt) tab hr rfl rfl rfl rfl rfl (by simp only [List.length_nil]; omega) rfl ?_) rfl
  intro v5
  rw [List.nil_append]
  refine W_y (y_assign rfl) rfl rfl rfl ?_
  refine K_nil ?_
  refine K_then ?_
  refine K_ret ?_
  refine K_out1 rfl (.tmp rfl) ?_
  exact fun w hw => ⟨_, _, _, rfl, Imm.le.refl _, hw, rfl, rfl⟩
theorem f17_ok {I : Imm} {l : List Itm} {v u : Value} {xs ys : List Int} (hx : Rdb I l v xs) (hy : Rdb I l u ys) :
    Ct Tryd.prog 17 [v, u] I l (fun r J m => r = .bool (decide (xs = ys)) ∧ I = J ∧ l = m) := by
  refine Ct_enter Tryd.func17 rfl rfl rfl ?_
  have hcx := hx.sc
  have hcy := hy.sc
  have hmx := hx.max
  simp only [maxLen] at hmx
  refine K_seq ?_
  refine K_region ?_
  refine W_y (y_assign rfl) rfl rfl rfl ?_
  refine K_nil ?_
  refine K_then ?_
  refine K_seq ?_
  refine K_seq ?_
  refine K_region ?_
  refine W_y (y_move rfl) rfl rfl rfl ?_
  refine W_y (by first | exact y_lenc tab (by assumption) rfl rfl | exact y_lens tab rfl rfl | exact y_lenstr tab rfl rfl) rfl rfl rfl ?_
  refine W_y (y_move rfl) rfl rfl rfl ?_
  refine W_y (by first | exact y_lenc tab (by assumption) rfl rfl | exact y_lens tab rfl rfl | exact y_lenstr tab rfl rfl) rfl rfl rfl ?_
  refine W_y (by first | exact y_ne rfl rfl | exact y_sne rfl rfl) rfl rfl rfl ?_
  refine K_nil ?_
  refine K_then ?_
  first | refine K_if rfl (fun h1 => ?_) (fun h1 => ?_) | refine K_ifn rfl (fun h1 => ?_) (fun h1 => ?_) | refine K_cond rfl (fun h1 => ?_) (fun h1 => ?_)
  ·
    have hres : decide (xs = ys) = false := decide_eq_false (fun e => h1 (by rw [e]))
    refine K_seq ?_
    refine K_region ?_
    refine W_y (y_assign rfl) rfl rfl rfl ?_
    refine K_nil ?_
    refine K_then ?_
    refine K_ret ?_
    refine K_then_ret ?_
    refine K_out1 rfl (.tmp rfl) ?_
    exact fun w hw => ⟨_, _, _, rfl, Imm.le.refl _, hw, by rw [hres], rfl, rfl⟩
  ·
    have hlen : xs.length = ys.length := by have h' := h1; omega
    refine K_skip ?_
    refine K_then ?_
    refine K_seq ?_
    refine K_seq ?_
    refine K_region ?_
    refine W_y (y_assign rfl) rfl rfl rfl ?_
    refine K_nil ?_
    refine K_then ?_
    refine K_block ?_
    refine K_lp (σ := Nat) (fun s => I) (fun s => [(0, v), (1, u), (5, .int .i64 s)]) (fun s => l) (fun s => s ≤ xs.length ∧ ∀ i, i < s → xs.getD i 0 = ys.getD i 0) (fun s => xs.length - s) 0 rfl (by repeat first | exact .nil _ | refine .cons rfl ?_) rfl ⟨Nat.zero_le _, fun i h => absurd h (Nat.not_lt_zero i)⟩ ?_
    rintro k ⟨hk, hin⟩
    refine K_seq ?_
    refine K_seq ?_
    refine K_region ?_
    refine W_y (y_move rfl) rfl rfl rfl ?_
    refine W_y (y_move rfl) rfl rfl rfl ?_
    refine W_y (by first | exact y_lenc tab (by assumption) rfl rfl | exact y_lens tab rfl rfl | exact y_lenstr tab rfl rfl) rfl rfl rfl ?_
    refine W_y (y_lt rfl rfl) rfl rfl rfl ?_
    refine K_nil ?_
    refine K_then ?_
    first | refine K_if rfl (fun h2 => ?_) (fun h2 => ?_) | refine K_ifn rfl (fun h2 => ?_) (fun h2 => ?_) | refine K_cond rfl (fun h2 => ?_) (fun h2 => ?_)
    ·
      refine K_skip ?_
      refine K_then ?_
      refine K_seq ?_
      refine K_block ?_
      refine K_seq ?_
      refine K_draw [(0, 3, []), (1, 3, []), (2, 3, []), (3, 0, []), (4, 3, []), (5, 3, []), (6, 3, []), (7, 0, []), (8, 3, [])] [] l rfl (by kernel_rfl) (by intro c a d v w h; cases d <;> exact h) ?_
      refine D_f rfl (fun _ _ => y_move rfl) rfl rfl rfl ?_
      refine D_f rfl (fun _ _ => y_move rfl) rfl rfl rfl ?_
      refine D_f rfl (fun _ _ => y_ixs tab (hx.sl (by omega)) rfl rfl rfl rfl (by omega)) rfl rfl rfl ?_
      refine D_y rfl (y_load rfl (ld_rdb (i := k) tab hx rfl (by omega))) rfl rfl rfl ?_
      refine D_f rfl (fun _ _ => y_move rfl) rfl rfl rfl ?_
      refine D_f rfl (fun _ _ => y_move rfl) rfl rfl rfl ?_
      refine D_f rfl (fun _ _ => y_ixs tab (hy.sl (by omega)) rfl rfl rfl rfl (by omega)) rfl rfl rfl ?_
      refine D_y rfl (y_load rfl (ld_rdb (i := k) tab hy rfl (by omega))) rfl rfl rfl ?_
      refine D_f rfl (fun _ _ => by first | exact y_ne rfl rfl | exact y_sne rfl rfl) rfl rfl rfl ?_
      refine D_nil (fun _ h => h.sublist (by repeat first | exact List.nil_sublist _ | exact List.Sublist.refl _ | apply List.Sublist.cons_cons | apply List.Sublist.cons)) ?_
      refine K_then ?_
      first | refine K_if rfl (fun h3 => ?_) (fun h3 => ?_) | refine K_ifn rfl (fun h3 => ?_) (fun h3 => ?_) | refine K_cond rfl (fun h3 => ?_) (fun h3 => ?_)
      ·
        have hres : decide (xs = ys) = false := decide_eq_false (fun e => h3 (by rw [e]))
        refine K_seq ?_
        refine K_region ?_
        refine W_y (y_assign rfl) rfl rfl rfl ?_
        refine K_nil ?_
        refine K_then ?_
        refine K_ret ?_
        refine K_in_ret ?_
        refine K_then_ret ?_
        refine K_then_ret ?_
        refine K_in_ret ?_
        refine K_then_ret ?_
        refine K_out1 rfl (.tmp rfl) ?_
        exact fun w hw => ⟨_, _, _, rfl, Imm.le.refl _, hw, by rw [hres], rfl, rfl⟩
      ·
        refine K_skip ?_
        refine K_in ?_
        refine K_then ?_
        refine K_region ?_
        refine W_y (y_move rfl) rfl rfl rfl ?_
        refine W_y (y_add rfl rfl (by omega)) rfl rfl rfl ?_
        refine W_y (y_assign rfl) rfl rfl rfl ?_
        refine K_nil ?_
        refine K_thenA ?_
        exact K_back (k + 1) rfl (by repeat first | exact .nil _ | refine .cons rfl ?_) rfl ⟨by omega, all_succ hin (by assumption)⟩ (by first | omega | (simp only; omega))
    ·
      have hres : decide (xs = ys) = true := decide_eq_true (getD_ext 0 hlen (fun i hi => hin i (by omega)))
      refine K_exit ?_
      refine K_then_exit ?_
      refine K_then_exit ?_
      refine K_in_exit ?_
      refine K_then ?_
      refine K_seq ?_
      refine K_region ?_
      refine W_y (y_assign rfl) rfl rfl rfl ?_
      refine K_nil ?_
      refine K_then ?_
      refine K_ret ?_
      refine K_out1 rfl (.tmp rfl) ?_
      exact fun w hw => ⟨_, _, _, rfl, Imm.le.refl _, hw, by rw [hres], rfl, rfl⟩
theorem f21_ok {I : Imm} {l : List Itm} {v : Value} {xs : List Int} {x : Int} (hx : Rdb I l v xs) :
    Ct Tryd.prog 21 [v, .int .i64 x] I l (fun r J m => r = .bool (decide (x ∈ xs)) ∧ I = J ∧ l = m) := by
  refine Ct_enter Tryd.func21 rfl rfl rfl ?_
  have hcx := hx.sc
  have hmx := hx.max
  simp only [maxLen] at hmx
  refine K_seq ?_
  refine K_region ?_
  refine W_y (y_assign rfl) rfl rfl rfl ?_
  refine K_nil ?_
  refine K_then ?_
  refine K_seq ?_
  refine K_seq ?_
  refine K_region ?_
  refine W_y (y_assign rfl) rfl rfl rfl ?_
  refine K_nil ?_
  refine K_then ?_
  refine K_block ?_
  refine K_lp (σ := Nat) (fun s => I) (fun s => [(0, v), (1, .int .i64 x), (5, .int .i64 s)]) (fun s => l) (fun s => s ≤ xs.length ∧ ∀ i, i < s → ¬ xs.getD i 0 = x) (fun s => xs.length - s) 0 rfl (by repeat first | exact .nil _ | refine .cons rfl ?_) rfl ⟨Nat.zero_le _, fun i h => absurd h (Nat.not_lt_zero i)⟩ ?_
  rintro k ⟨hk, hin⟩
  refine K_seq ?_
  refine K_seq ?_
  refine K_region ?_
  refine W_y (y_move rfl) rfl rfl rfl ?_
  refine W_y (y_move rfl) rfl rfl rfl ?_
  refine W_y (by first | exact y_lenc tab (by assumption) rfl rfl | exact y_lens tab rfl rfl | exact y_lenstr tab rfl rfl) rfl rfl rfl ?_
  refine W_y (y_lt rfl rfl) rfl rfl rfl ?_
  refine K_nil ?_
  refine K_then ?_
  first | refine K_if rfl (fun h1 => ?_) (fun h1 => ?_) | refine K_ifn rfl (fun h1 => ?_) (fun h1 => ?_) | refine K_cond rfl (fun h1 => ?_) (fun h1 => ?_)
  ·
    refine K_skip ?_
    refine K_then ?_
    refine K_seq ?_
    refine K_block ?_
    refine K_seq ?_
    refine K_region ?_
    refine W_y (y_move rfl) rfl rfl rfl ?_
    refine W_y (y_move rfl) rfl rfl rfl ?_
    refine W_y (y_ixs tab (hx.sl (by omega)) rfl rfl rfl rfl (by omega)) rfl rfl rfl ?_
    refine W_y (y_load rfl (ld_rdb (i := k) tab hx rfl (by omega))) rfl rfl rfl ?_
    refine W_y (y_move rfl) rfl rfl rfl ?_
    refine W_y (by first | exact y_eq rfl rfl | exact y_seq rfl rfl) rfl rfl rfl ?_
    refine K_nil ?_
    refine K_then ?_
    first | refine K_if rfl (fun h2 => ?_) (fun h2 => ?_) | refine K_ifn rfl (fun h2 => ?_) (fun h2 => ?_) | refine K_cond rfl (fun h2 => ?_) (fun h2 => ?_)
    ·
      have hres : decide (x ∈ xs) = true := decide_eq_true (by have h' := h2; rw [← h']; exact getD_mem 0 (by omega))
      refine K_seq ?_
      refine K_region ?_
      refine W_y (y_assign rfl) rfl rfl rfl ?_
      refine K_nil ?_
      refine K_then ?_
      refine K_ret ?_
      refine K_in_ret ?_
      refine K_then_ret ?_
      refine K_then_ret ?_
      refine K_in_ret ?_
      refine K_then_ret ?_
      refine K_out1 rfl (.tmp rfl) ?_
      exact fun w hw => ⟨_, _, _, rfl, Imm.le.refl _, hw, by rw [hres], rfl, rfl⟩
    ·
      have hne := h2
      refine K_skip ?_
      refine K_in ?_
      refine K_then ?_
      refine K_region ?_
      refine W_y (y_move rfl) rfl rfl rfl ?_
      refine W_y (y_add rfl rfl (by omega)) rfl rfl rfl ?_
      refine W_y (y_assign rfl) rfl rfl rfl ?_
      refine K_nil ?_
      refine K_thenA ?_
      exact K_back (k + 1) rfl (by repeat first | exact .nil _ | refine .cons rfl ?_) rfl ⟨by omega, all_succ hin hne⟩ (by first | omega | (simp only; omega))
  ·
    have hres : decide (x ∈ xs) = false := decide_eq_false (fun e => by
      obtain ⟨i, hi, he⟩ := List.mem_iff_getElem.1 e
      refine hin i (by omega) ?_
      rw [List.getD_eq_getElem?_getD, List.getElem?_eq_getElem hi, Option.getD_some, he])
    refine K_exit ?_
    refine K_then_exit ?_
    refine K_then_exit ?_
    refine K_in_exit ?_
    refine K_then ?_
    refine K_seq ?_
    refine K_region ?_
    refine W_y (y_assign rfl) rfl rfl rfl ?_
    refine K_nil ?_
    refine K_then ?_
    refine K_ret ?_
    refine K_out1 rfl (.tmp rfl) ?_
    exact fun w hw => ⟨_, _, _, rfl, Imm.le.refl _, hw, by rw [hres], rfl, rfl⟩
end Go.Proofs.YtfnmcpgajjkemaaDoor
