/- GraphSorted. Printed by wip/gen/g19.py. -/
import Derived.Test.YtfnmcpgajjkemaaDoorG18
import Derived.Test.YtfnmcpgajjkemaaDoorSortP
import Derived.Test.YtfnmcpgajjkemaaDoorEqb
namespace Go.Proofs.YtfnmcpgajjkemaaDoor
open Go Go.RowKit Go.Proofs.YtfnmcpgajjkemaaDoor.SW
set_option maxRecDepth 100000
set_option maxHeartbeats 400000
theorem orderRes_160 {preds : List (List Int)} {ranks : List Int} (h : (orderRes preds ranks).2 = 160) : (orderRes preds ranks).1 = [] := by
  unfold orderRes at h ⊢
  split at h
  · simp only at h; split at h <;> cases h
  · rename_i hc; rw [if_neg hc]
theorem orderRes_form {preds : List (List Int)} {ranks : List Int} (h : (orderRes preds ranks).2 ≠ 160) : formOk preds ∧ ranks.length = preds.length ∧ (orderRes preds ranks).1 = orderL preds ranks ∧ ((orderRes preds ranks).2 = 0 ↔ (orderL preds ranks).length = preds.length) ∧ ((orderRes preds ranks).2 = 163 ↔ (orderL preds ranks).length < preds.length) := by
  have hle := (orderL_onWay (preds := preds) (ranks := ranks)).1.le
  unfold orderRes at h ⊢
  split at h
  · rename_i hc
    rw [if_pos hc]
    refine ⟨hc.2, hc.1, rfl, ?_, ?_⟩
    · simp only; split <;> constructor <;> intro h1 <;> first | omega | cases h1
    · simp only; split <;> constructor <;> intro h1 <;> first | omega | cases h1
  · exact absurd rfl h
theorem f4_ok {I : Imm} {l : List Itm} {v rv : Value} {vs : List SV} {preds : List (List Int)} {ranks : List Int} (hg : GlobI I) (hr : RowII eInt I v vs preds) (hk : RowI eInt I rv ranks) (hF : Few preds) (hG : ranks.length ≤ 1048576) :
    Ct Tryd.prog 4 [v, rv] I l (fun r _ _ => r = .bool true) := by
  refine Ct_enter Tryd.func4 rfl rfl rfl ?_
  have hl1 := hF.len
  have hl := hr.len
  have hc := hr.top.sc
  rw [hl] at hc
  have hol := orderRes_len preds ranks
  refine K_seq ?_
  refine K_region ?_
  refine W_y (y_assign rfl) rfl rfl rfl ?_
  refine K_nil ?_
  refine K_then ?_
  refine K_seq ?_
  refine K_region ?_
  refine W_y (y_move rfl) rfl rfl rfl ?_
  refine W_a (a_call (enters_of Tryd.func11 (by kernel_rfl) rfl) rfl (f11_ok hr (by omega) hF.rows) rfl ?_) rfl
  rintro xv J1 _ hJ1 ⟨⟨xvs, hxr⟩, rfl⟩
  refine W_y (y_move rfl) rfl rfl rfl ?_
  refine W_a (a_call (enters_of Tryd.func16 (by kernel_rfl) rfl) rfl (f16_ok (hk.mono hJ1) (by omega)) rfl ?_) rfl
  rintro kv _ _ - ⟨rfl, rfl⟩
  refine K_give (fun J2 hJ2 hkk => ?_)
  refine W_a (a_call (enters_of Tryd.func13 (by kernel_rfl) rfl) rfl (f13_ok (hxr.mono hJ2) hkk (by omega)) rfl ?_) rfl
  rintro _ J3 _ hJ3 ⟨ov, rfl, rfl⟩
  refine K_give (fun J4 hJ4 hor => ?_)
  have hJ := hJ1.trans (hJ2.trans (hJ3.trans hJ4))
  refine W_y (y_move rfl) rfl rfl rfl ?_
  refine W_y (y_extract rfl rfl) rfl rfl rfl ?_
  refine W_y (y_extract rfl rfl) rfl rfl rfl ?_
  refine W_y (y_assign rfl) rfl rfl rfl ?_
  refine W_y (y_assign rfl) rfl rfl rfl ?_
  refine K_nil ?_
  refine K_then ?_
  refine K_seq ?_
  refine K_seq ?_
  refine K_region ?_
  refine W_y (y_move rfl) rfl rfl rfl ?_
  refine W_y (by first | exact y_eq rfl rfl | exact y_seq rfl rfl) rfl rfl rfl ?_
  refine K_nil ?_
  refine K_then ?_
  first | refine K_if rfl (fun h1 => ?_) (fun h1 => ?_) | refine K_ifn rfl (fun h1 => ?_) (fun h1 => ?_) | refine K_cond rfl (fun h1 => ?_) (fun h1 => ?_)
  ·
    have h0 := orderRes_160 h1
    rw [h0] at hor
    refine K_seq ?_
    have hoc := hor.sc
    refine K_region ?_
    refine W_y (y_move rfl) rfl rfl rfl ?_
    refine W_y (by first | exact y_lenc tab (by assumption) rfl rfl | exact y_lens tab rfl rfl | exact y_lenstr tab rfl rfl) rfl rfl rfl ?_
    refine W_y (by first | exact y_eq rfl rfl | exact y_seq rfl rfl) rfl rfl rfl ?_
    refine W_y (y_move rfl) rfl rfl rfl ?_
    first | refine K_splitd 26 rfl (fun h2 => ?_) (fun h2 => ?_) | refine K_split 26 rfl (fun h2 => ?_) (fun h2 => ?_)
    ·
      refine W_a (a_call (enters_of Tryd.func19 (by kernel_rfl) rfl) rfl (f19_ok (hg.mono hJ)) rfl ?_) rfl
      rintro _ J6 _ hJ6 ⟨rfl, rfl⟩
      refine W_y (y_pick rfl rfl) rfl rfl rfl ?_
      refine W_y (y_assign rfl) rfl rfl rfl ?_
      refine K_nil ?_
      refine K_then ?_
      refine K_ret ?_
      refine K_then_ret ?_
      refine K_out1 rfl (.tmp rfl) ?_
      exact fun w hw => ⟨_, _, _, rfl, hJ.trans hJ6, hw, rfl⟩
    ·
      exact absurd rfl h2
  ·
    obtain ⟨hf, hln, ho, hcode, _⟩ := orderRes_form h1
    rw [ho] at hor
    have how := (orderL_onWay (preds := preds) (ranks := ranks)).1
    have hnd := how.nodup
    have hole := how.le
    refine K_skip ?_
    refine K_then ?_
    refine K_seq ?_
    have hoc := hor.sc
    refine K_region ?_
    refine W_y (y_move rfl) rfl rfl rfl ?_
    refine W_y (by first | exact y_lenc tab (by assumption) rfl rfl | exact y_lens tab rfl rfl | exact y_lenstr tab rfl rfl) rfl rfl rfl ?_
    refine W_a (a_mk (e := eInt) (z0 := 0) tab rfl rfl rfl rfl rfl (by omega) rfl ?_) rfl
    intro b31
    refine W_y (y_assign rfl) rfl rfl rfl ?_
    refine K_nil ?_
    refine K_then ?_
    refine K_seq ?_
    refine K_seq ?_
    refine K_region ?_
    refine W_y (y_assign rfl) rfl rfl rfl ?_
    refine K_nil ?_
    refine K_then ?_
    refine K_block ?_
    rw [tb_const (n := preds.length) (0 : Int), show (fun _ => (0 : Int)) = posAt (orderL preds ranks) 0 from posAt_nil.symm]
    refine K_lp (σ := Nat) (fun s => J4) (fun s => [(0, v), (5, ov), (7, .slice (some ⟨b31, 0, none⟩) preds.length preds.length), (6, .int .i64 (orderRes preds ranks).2), (8, .int .i64 s)]) (fun s => row eInt 3 (.slice (some ⟨b31, 0, none⟩) preds.length preds.length) (tb preds.length (posAt (orderL preds ranks) s)) :: l) (fun s => s ≤ (orderL preds ranks).length) (fun s => (orderL preds ranks).length - s) 0 rfl (by repeat first | exact .nil _ | refine .cons rfl ?_) rfl (Nat.zero_le _) ?_
    intro k hk
    refine K_seq ?_
    refine K_seq ?_
    refine K_region ?_
    refine W_y (y_move rfl) rfl rfl rfl ?_
    refine W_y (y_move rfl) rfl rfl rfl ?_
    refine W_y (by first | exact y_lenc tab (by assumption) rfl rfl | exact y_lens tab rfl rfl | exact y_lenstr tab rfl rfl) rfl rfl rfl ?_
    refine W_y (y_lt rfl rfl) rfl rfl rfl ?_
    refine K_nil ?_
    refine K_then ?_
    first | refine K_if rfl (fun h3 => ?_) (fun h3 => ?_) | refine K_ifn rfl (fun h3 => ?_) (fun h3 => ?_) | refine K_cond rfl (fun h3 => ?_) (fun h3 => ?_)
    ·
      have hkl : k < (orderL preds ranks).length := by omega
      obtain ⟨q, hq, hbest⟩ := orderL_good (preds := preds) (ranks := ranks) k hkl
      have hqn := hbest.1
      refine K_skip ?_
      refine K_then ?_
      refine K_seq ?_
      refine K_block ?_
      refine K_seq ?_
      refine K_seq ?_
      refine K_region ?_
      refine W_y (y_move rfl) rfl rfl rfl ?_
      refine W_y (y_move rfl) rfl rfl rfl ?_
      refine W_y (y_ixi tab hor rfl rfl rfl rfl (by omega)) rfl rfl rfl ?_
      refine W_y (y_load rfl (ld_ii (i := k) tab hor rfl hkl)) rfl rfl rfl ?_
      rw [hq]
      refine W_y (y_lt rfl rfl) rfl rfl rfl ?_
      refine W_y (y_move rfl) rfl rfl rfl ?_
      first | refine K_splitd 43 rfl (fun h4 => ?_) (fun h4 => ?_) | refine K_split 43 rfl (fun h4 => ?_) (fun h4 => ?_)
      ·
        exfalso; omega
      ·
        refine W_y (y_move rfl) rfl rfl rfl ?_
        refine W_y (y_move rfl) rfl rfl rfl ?_
        refine W_y (y_ixi tab hor rfl rfl rfl rfl (by omega)) rfl rfl rfl ?_
        refine W_y (y_load rfl (ld_ii (i := k) tab hor rfl hkl)) rfl rfl rfl ?_
        rw [hq]
        refine W_y (y_move rfl) rfl rfl rfl ?_
        refine W_y (by first | exact y_lenc tab (by assumption) rfl rfl | exact y_lens tab rfl rfl | exact y_lenstr tab rfl rfl) rfl rfl rfl ?_
        refine W_y (y_ge rfl rfl) rfl rfl rfl ?_
        refine W_y (y_pick rfl rfl) rfl rfl rfl ?_
        refine W_y (y_move rfl) rfl rfl rfl ?_
        first | refine K_splitd 52 rfl (fun h5 => ?_) (fun h5 => ?_) | refine K_split 52 rfl (fun h5 => ?_) (fun h5 => ?_)
        ·
          exfalso; omega
        ·
          refine W_y (y_move rfl) rfl rfl rfl ?_
          refine W_y (y_move rfl) rfl rfl rfl ?_
          refine W_y (y_move rfl) rfl rfl rfl ?_
          refine W_y (y_ixi tab hor rfl rfl rfl rfl (by omega)) rfl rfl rfl ?_
          refine W_y (y_load rfl (ld_ii (i := k) tab hor rfl hkl)) rfl rfl rfl ?_
          rw [hq]
          refine W_y (y_ixv tab rfl rfl rfl rfl (by omega) (by omega)) rfl rfl rfl ?_
          refine W_y (y_load rfl (ld_ri (i := q) tab .here rfl (by rw [tb_len]; omega))) rfl rfl rfl ?_
          rw [tb_get 0 hqn, posAt_new hnd hkl hq]
          refine W_y (by first | exact y_ne rfl rfl | exact y_sne rfl rfl) rfl rfl rfl ?_
          refine W_y (y_pick rfl rfl) rfl rfl rfl ?_
          refine K_nil ?_
          refine K_then ?_
          first | refine K_if rfl (fun h6 => ?_) (fun h6 => ?_) | refine K_ifn rfl (fun h6 => ?_) (fun h6 => ?_) | refine K_cond rfl (fun h6 => ?_) (fun h6 => ?_)
          ·
            exact absurd rfl h6
          ·
            refine K_skip ?_
            refine K_then ?_
            refine K_region ?_
            refine W_y (y_move rfl) rfl rfl rfl ?_
            refine W_y (y_move rfl) rfl rfl rfl ?_
            refine W_y (y_move rfl) rfl rfl rfl ?_
            refine W_y (y_ixi tab hor rfl rfl rfl rfl (by omega)) rfl rfl rfl ?_
            refine W_y (y_load rfl (ld_ii (i := k) tab hor rfl hkl)) rfl rfl rfl ?_
            rw [hq]
            refine W_y (y_move rfl) rfl rfl rfl ?_
            refine W_y (y_add rfl rfl (by omega)) rfl rfl rfl ?_
            refine W_y (y_ixv tab rfl rfl rfl rfl (by omega) (by omega)) rfl rfl rfl ?_
            refine W_a (a_ste (e := eInt) (i := q) (a' := (k : Int) + 1) tab rfl rfl rfl rfl rfl rfl (get_of 0 (by rw [tb_len]; omega)) rfl rfl ?_) rfl
            rw [posAt_step hnd hkl hq]
            refine K_nil ?_
            refine K_in ?_
            refine K_then ?_
            refine K_region ?_
            refine W_y (y_move rfl) rfl rfl rfl ?_
            refine W_y (y_add rfl rfl (by omega)) rfl rfl rfl ?_
            refine W_y (y_assign rfl) rfl rfl rfl ?_
            refine K_nil ?_
            refine K_thenA ?_
            exact K_back (k + 1) rfl (by repeat first | exact .nil _ | refine .cons rfl ?_) rfl (by omega) (by first | omega | (simp only; omega))
    ·
      have hke : k = (orderL preds ranks).length := by omega
      subst hke
      refine K_exit ?_
      refine K_then_exit ?_
      refine K_then_exit ?_
      refine K_in_exit ?_
      refine K_then ?_
      refine K_seq ?_
      refine K_seq ?_
      refine K_region ?_
      refine W_y (y_move rfl) rfl rfl rfl ?_
      refine W_y (by first | exact y_eq rfl rfl | exact y_seq rfl rfl) rfl rfl rfl ?_
      refine W_y (y_move rfl) rfl rfl rfl ?_
      refine W_y (by first | exact y_lenc tab (by assumption) rfl rfl | exact y_lens tab rfl rfl | exact y_lenstr tab rfl rfl) rfl rfl rfl ?_
      refine W_y (y_move rfl) rfl rfl rfl ?_
      refine W_y (by first | exact y_lenc tab (by assumption) rfl rfl | exact y_lens tab rfl rfl | exact y_lenstr tab rfl rfl) rfl rfl rfl ?_
      refine W_y (by first | exact y_eq rfl rfl | exact y_seq rfl rfl) rfl rfl rfl ?_
      refine W_y (y_bne tab rfl rfl rfl) rfl rfl rfl ?_
      refine K_nil ?_
      refine K_then ?_
      first | refine K_if rfl (fun h7 => ?_) (fun h7 => ?_) | refine K_ifn rfl (fun h7 => ?_) (fun h7 => ?_) | refine K_cond rfl (fun h7 => ?_) (fun h7 => ?_)
      ·
        exact absurd (decide_eq_decide.2 (hcode.trans ⟨fun h => by omega, fun h => by omega⟩)) h7
      ·
        refine K_skip ?_
        refine K_then ?_
        refine K_seq ?_
        refine K_seq ?_
        refine K_region ?_
        refine W_y (y_assign rfl) rfl rfl rfl ?_
        refine K_nil ?_
        refine K_then ?_
        refine K_block ?_
        refine K_lp (σ := Nat) (fun s => J4) (fun s => [(0, v), (5, ov), (7, .slice (some ⟨b31, 0, none⟩) preds.length preds.length), (9, .int .i64 s)]) (fun s => row eInt 3 (.slice (some ⟨b31, 0, none⟩) preds.length preds.length) (tb preds.length (posAt (orderL preds ranks) (orderL preds ranks).length)) :: l) (fun s => s ≤ preds.length) (fun s => preds.length - s) 0 rfl (by repeat first | exact .nil _ | refine .cons rfl ?_) rfl (Nat.zero_le _) ?_
        intro i hi
        refine K_seq ?_
        refine K_seq ?_
        refine K_region ?_
        refine W_y (y_move rfl) rfl rfl rfl ?_
        refine W_y (y_move rfl) rfl rfl rfl ?_
        refine W_y (by first | exact y_lenc tab (by assumption) rfl rfl | exact y_lens tab rfl rfl | exact y_lenstr tab rfl rfl) rfl rfl rfl ?_
        refine W_y (y_lt rfl rfl) rfl rfl rfl ?_
        refine K_nil ?_
        refine K_then ?_
        first | refine K_if rfl (fun h8 => ?_) (fun h8 => ?_) | refine K_ifn rfl (fun h8 => ?_) (fun h8 => ?_) | refine K_cond rfl (fun h8 => ?_) (fun h8 => ?_)
        ·
          have hin : i < preds.length := by omega
          obtain ⟨u, hu⟩ : ∃ u, u = (vs.getD i svnil).1 := ⟨_, rfl⟩
          have hru := (hr.at_ i hin).mono hJ
          rw [← hu] at hru
          have hcu := hru.sc
          have hrow := hf.row hin
          have hml := ints_le hrow.1 hrow.2
          have hiz : posAt (orderL preds ranks) (orderL preds ranks).length i = 0 ↔ (i : Int) ∉ (orderL preds ranks) := by rw [posAt_zero, List.take_length]
          refine K_skip ?_
          refine K_then ?_
          refine K_seq ?_
          refine K_block ?_
          refine K_seq ?_
          refine K_region ?_
          refine W_y (y_assign rfl) rfl rfl rfl ?_
          refine K_nil ?_
          refine K_then ?_
          refine K_seq ?_
          refine K_seq ?_
          refine K_region ?_
          refine W_y (y_assign rfl) rfl rfl rfl ?_
          refine K_nil ?_
          refine K_then ?_
          refine K_block ?_
          refine K_lp (σ := Nat) (fun s => J4) (fun s => [(0, v), (5, ov), (7, .slice (some ⟨b31, 0, none⟩) preds.length preds.length), (9, .int .i64 i), (10, .bool (allK (orderL preds ranks) (preds.getD i []) s)), (11, .int .i64 s)]) (fun s => row eInt 3 (.slice (some ⟨b31, 0, none⟩) preds.length preds.length) (tb preds.length (posAt (orderL preds ranks) (orderL preds ranks).length)) :: l) (fun s => s ≤ (preds.getD i []).length) (fun s => (preds.getD i []).length - s) 0 rfl (by repeat first | exact .nil _ | refine .cons rfl ?_) rfl (Nat.zero_le _) ?_
          intro k hkk
          refine K_seq ?_
          refine K_seq ?_
          refine K_region ?_
          refine W_y (y_move rfl) rfl rfl rfl ?_
          refine W_y (y_move rfl) rfl rfl rfl ?_
          refine W_y (y_move rfl) rfl rfl rfl ?_
          refine W_y (y_ixi tab hr.top rfl rfl rfl rfl (by omega)) rfl rfl rfl ?_
          refine W_y (hu ▸ y_load rfl (ld_vi (i := i) tab (hr.top.mono hJ) rfl (by omega))) rfl rfl rfl ?_
          refine W_y (by first | exact y_lenc tab (by assumption) rfl rfl | exact y_lens tab rfl rfl | exact y_lenstr tab rfl rfl) rfl rfl rfl ?_
          refine W_y (y_lt rfl rfl) rfl rfl rfl ?_
          refine K_nil ?_
          refine K_then ?_
          first | refine K_if rfl (fun h9 => ?_) (fun h9 => ?_) | refine K_ifn rfl (fun h9 => ?_) (fun h9 => ?_) | refine K_cond rfl (fun h9 => ?_) (fun h9 => ?_)
          ·
            have hkl : k < (preds.getD i []).length := by omega
            refine K_skip ?_
            refine K_then ?_
            refine K_seq ?_
            refine K_block ?_
            refine K_seq ?_
            refine K_region ?_
            refine W_y (y_move rfl) rfl rfl rfl ?_
            refine W_y (y_move rfl) rfl rfl rfl ?_
            refine W_y (y_move rfl) rfl rfl rfl ?_
            refine W_y (y_ixi tab hr.top rfl rfl rfl rfl (by omega)) rfl rfl rfl ?_
            refine W_y (hu ▸ y_load rfl (ld_vi (i := i) tab (hr.top.mono hJ) rfl (by omega))) rfl rfl rfl ?_
            refine W_y (y_move rfl) rfl rfl rfl ?_
            refine W_y (y_ixi tab hru rfl rfl rfl rfl (by omega)) rfl rfl rfl ?_
            refine W_y (y_load rfl (ld_ii (i := k) tab hru rfl (by omega))) rfl rfl rfl ?_
            have hp := hrow.2 _ (getD_mem (i := k) 0 hkl)
            obtain ⟨q, hq⟩ : ∃ q : Nat, (q : Int) = (preds.getD i []).getD k 0 := ⟨((preds.getD i []).getD k 0).toNat, by omega⟩
            have hqm : (q : Int) ∈ preds.getD i [] := by rw [hq]; exact getD_mem 0 hkl
            have hqz : posAt (orderL preds ranks) (orderL preds ranks).length q = 0 ↔ (q : Int) ∉ (orderL preds ranks) := by rw [posAt_zero, List.take_length]
            have hnext : allK (orderL preds ranks) (preds.getD i []) (k + 1) = (allK (orderL preds ranks) (preds.getD i []) k && decide ((q : Int) ∈ (orderL preds ranks))) := by rw [allK_succ hkl, hq]
            rw [← hq] at hp ⊢
            have hqn : q < preds.length := by omega
            refine W_y (y_ixv tab rfl rfl rfl rfl (by omega) (by omega)) rfl rfl rfl ?_
            refine W_y (y_load rfl (ld_ri (i := q) tab .here rfl (by rw [tb_len]; omega))) rfl rfl rfl ?_
            rw [tb_get 0 hqn]
            refine W_y (y_assign rfl) rfl rfl rfl ?_
            refine K_nil ?_
            refine K_then ?_
            refine K_seq ?_
            refine K_region ?_
            refine W_y (y_move rfl) rfl rfl rfl ?_
            refine W_y (y_move rfl) rfl rfl rfl ?_
            refine K_split 104 rfl (fun h10 => ?_) (fun h10 => ?_)
            ·
              have hnew : (!decide (posAt (orderL preds ranks) (orderL preds ranks).length q = 0)) = allK (orderL preds ranks) (preds.getD i []) (k + 1) := by
                rw [hnext, h10, Bool.true_and]
                by_cases hmm : (q : Int) ∈ (orderL preds ranks)
                · rw [decide_eq_true hmm, decide_eq_false (fun h0 => hqz.1 h0 hmm)]; rfl
                · rw [decide_eq_false hmm, decide_eq_true (hqz.2 hmm)]; rfl
              refine W_y (y_move rfl) rfl rfl rfl ?_
              refine W_y (by first | exact y_ne rfl rfl | exact y_sne rfl rfl) rfl rfl rfl ?_
              refine W_y (y_pick rfl rfl) rfl rfl rfl ?_
              refine W_y (y_assign rfl) rfl rfl rfl ?_
              refine K_nil ?_
              refine K_then ?_
              refine K_seq ?_
              refine K_region ?_
              refine W_y (y_move rfl) rfl rfl rfl ?_
              refine W_y (y_move rfl) rfl rfl rfl ?_
              refine W_y (y_ixv tab rfl rfl rfl rfl (by omega) (by omega)) rfl rfl rfl ?_
              refine W_y (y_load rfl (ld_ri (i := i) tab .here rfl (by rw [tb_len]; omega))) rfl rfl rfl ?_
              rw [tb_get 0 hin]
              refine W_y (by first | exact y_ne rfl rfl | exact y_sne rfl rfl) rfl rfl rfl ?_
              refine W_y (y_move rfl) rfl rfl rfl ?_
              first | refine K_splitd 113 rfl (fun h11 => ?_) (fun h11 => ?_) | refine K_split 113 rfl (fun h11 => ?_) (fun h11 => ?_)
              ·
                have hio : (i : Int) ∈ (orderL preds ranks) := Classical.byContradiction fun hc => by rw [decide_eq_true (hiz.2 hc)] at h11; cases h11
                have hbeh := orderL_behind hio hqm
                refine W_y (y_move rfl) rfl rfl rfl ?_
                refine W_y (by first | exact y_eq rfl rfl | exact y_seq rfl rfl) rfl rfl rfl ?_
                refine W_y (y_move rfl) rfl rfl rfl ?_
                first | refine K_splitd 116 rfl (fun h12 => ?_) (fun h12 => ?_) | refine K_split 116 rfl (fun h12 => ?_) (fun h12 => ?_)
                ·
                  exact absurd (hqz.1 h12) (fun hc => hc hbeh.1)
                ·
                  refine W_y (y_move rfl) rfl rfl rfl ?_
                  refine W_y (y_move rfl) rfl rfl rfl ?_
                  refine W_y (y_move rfl) rfl rfl rfl ?_
                  refine W_y (y_ixv tab rfl rfl rfl rfl (by omega) (by omega)) rfl rfl rfl ?_
                  refine W_y (y_load rfl (ld_ri (i := i) tab .here rfl (by rw [tb_len]; omega))) rfl rfl rfl ?_
                  rw [tb_get 0 hin]
                  refine W_y (y_gt rfl rfl) rfl rfl rfl ?_
                  refine W_y (y_pick rfl rfl) rfl rfl rfl ?_
                  refine W_y (y_pick rfl rfl) rfl rfl rfl ?_
                  refine K_nil ?_
                  refine K_then ?_
                  first | refine K_if rfl (fun h13 => ?_) (fun h13 => ?_) | refine K_ifn rfl (fun h13 => ?_) (fun h13 => ?_) | refine K_cond rfl (fun h13 => ?_) (fun h13 => ?_)
                  ·
                    exact absurd h13 hbeh.2
                  ·
                    refine K_skip ?_
                    refine K_in ?_
                    refine K_then ?_
                    refine K_region ?_
                    refine W_y (y_move rfl) rfl rfl rfl ?_
                    refine W_y (y_add rfl rfl (by omega)) rfl rfl rfl ?_
                    refine W_y (y_assign rfl) rfl rfl rfl ?_
                    refine K_nil ?_
                    refine K_thenA ?_
                    exact K_back (k + 1) rfl (.cons rfl (.cons rfl (.cons rfl (.cons rfl (.cons (by rw [← hnew]; rfl) (.cons rfl (.nil _))))))) rfl (by omega) (by first | omega | (simp only; omega))
              ·
                refine W_skip rfl rfl rfl ?_
                refine W_skip rfl rfl rfl ?_
                refine W_skip rfl rfl rfl ?_
                refine W_skip rfl rfl rfl ?_
                refine W_skip rfl rfl rfl ?_
                refine W_skip rfl rfl rfl ?_
                refine W_skip rfl rfl rfl ?_
                refine W_skip rfl rfl rfl ?_
                refine W_skip rfl rfl rfl ?_
                refine W_skip rfl rfl rfl ?_
                refine W_y (y_pick rfl rfl) rfl rfl rfl ?_
                refine K_nil ?_
                refine K_then ?_
                refine K_no rfl ?_
                refine K_skip ?_
                refine K_in ?_
                refine K_then ?_
                refine K_region ?_
                refine W_y (y_move rfl) rfl rfl rfl ?_
                refine W_y (y_add rfl rfl (by omega)) rfl rfl rfl ?_
                refine W_y (y_assign rfl) rfl rfl rfl ?_
                refine K_nil ?_
                refine K_thenA ?_
                exact K_back (k + 1) rfl (.cons rfl (.cons rfl (.cons rfl (.cons rfl (.cons (by rw [← hnew]; rfl) (.cons rfl (.nil _))))))) rfl (by omega) (by first | omega | (simp only; omega))
            ·
              have hnew : false = allK (orderL preds ranks) (preds.getD i []) (k + 1) := by rw [hnext, h10, Bool.false_and]
              refine W_skip rfl rfl rfl ?_
              refine W_skip rfl rfl rfl ?_
              refine W_y (y_pick rfl rfl) rfl rfl rfl ?_
              refine W_y (y_assign rfl) rfl rfl rfl ?_
              refine K_nil ?_
              refine K_then ?_
              refine K_seq ?_
              refine K_region ?_
              refine W_y (y_move rfl) rfl rfl rfl ?_
              refine W_y (y_move rfl) rfl rfl rfl ?_
              refine W_y (y_ixv tab rfl rfl rfl rfl (by omega) (by omega)) rfl rfl rfl ?_
              refine W_y (y_load rfl (ld_ri (i := i) tab .here rfl (by rw [tb_len]; omega))) rfl rfl rfl ?_
              rw [tb_get 0 hin]
              refine W_y (by first | exact y_ne rfl rfl | exact y_sne rfl rfl) rfl rfl rfl ?_
              refine W_y (y_move rfl) rfl rfl rfl ?_
              first | refine K_splitd 113 rfl (fun h14 => ?_) (fun h14 => ?_) | refine K_split 113 rfl (fun h14 => ?_) (fun h14 => ?_)
              ·
                have hio : (i : Int) ∈ (orderL preds ranks) := Classical.byContradiction fun hc => by rw [decide_eq_true (hiz.2 hc)] at h14; cases h14
                have hbeh := orderL_behind hio hqm
                refine W_y (y_move rfl) rfl rfl rfl ?_
                refine W_y (by first | exact y_eq rfl rfl | exact y_seq rfl rfl) rfl rfl rfl ?_
                refine W_y (y_move rfl) rfl rfl rfl ?_
                first | refine K_splitd 116 rfl (fun h15 => ?_) (fun h15 => ?_) | refine K_split 116 rfl (fun h15 => ?_) (fun h15 => ?_)
                ·
                  exact absurd (hqz.1 h15) (fun hc => hc hbeh.1)
                ·
                  refine W_y (y_move rfl) rfl rfl rfl ?_
                  refine W_y (y_move rfl) rfl rfl rfl ?_
                  refine W_y (y_move rfl) rfl rfl rfl ?_
                  refine W_y (y_ixv tab rfl rfl rfl rfl (by omega) (by omega)) rfl rfl rfl ?_
                  refine W_y (y_load rfl (ld_ri (i := i) tab .here rfl (by rw [tb_len]; omega))) rfl rfl rfl ?_
                  rw [tb_get 0 hin]
                  refine W_y (y_gt rfl rfl) rfl rfl rfl ?_
                  refine W_y (y_pick rfl rfl) rfl rfl rfl ?_
                  refine W_y (y_pick rfl rfl) rfl rfl rfl ?_
                  refine K_nil ?_
                  refine K_then ?_
                  first | refine K_if rfl (fun h16 => ?_) (fun h16 => ?_) | refine K_ifn rfl (fun h16 => ?_) (fun h16 => ?_) | refine K_cond rfl (fun h16 => ?_) (fun h16 => ?_)
                  ·
                    exact absurd h16 hbeh.2
                  ·
                    refine K_skip ?_
                    refine K_in ?_
                    refine K_then ?_
                    refine K_region ?_
                    refine W_y (y_move rfl) rfl rfl rfl ?_
                    refine W_y (y_add rfl rfl (by omega)) rfl rfl rfl ?_
                    refine W_y (y_assign rfl) rfl rfl rfl ?_
                    refine K_nil ?_
                    refine K_thenA ?_
                    exact K_back (k + 1) rfl (.cons rfl (.cons rfl (.cons rfl (.cons rfl (.cons (by rw [← hnew]; rfl) (.cons rfl (.nil _))))))) rfl (by omega) (by first | omega | (simp only; omega))
              ·
                refine W_skip rfl rfl rfl ?_
                refine W_skip rfl rfl rfl ?_
                refine W_skip rfl rfl rfl ?_
                refine W_skip rfl rfl rfl ?_
                refine W_skip rfl rfl rfl ?_
                refine W_skip rfl rfl rfl ?_
                refine W_skip rfl rfl rfl ?_
                refine W_skip rfl rfl rfl ?_
                refine W_skip rfl rfl rfl ?_
                refine W_skip rfl rfl rfl ?_
                refine W_y (y_pick rfl rfl) rfl rfl rfl ?_
                refine K_nil ?_
                refine K_then ?_
                refine K_no rfl ?_
                refine K_skip ?_
                refine K_in ?_
                refine K_then ?_
                refine K_region ?_
                refine W_y (y_move rfl) rfl rfl rfl ?_
                refine W_y (y_add rfl rfl (by omega)) rfl rfl rfl ?_
                refine W_y (y_assign rfl) rfl rfl rfl ?_
                refine K_nil ?_
                refine K_thenA ?_
                exact K_back (k + 1) rfl (.cons rfl (.cons rfl (.cons rfl (.cons rfl (.cons (by rw [← hnew]; rfl) (.cons rfl (.nil _))))))) rfl (by omega) (by first | omega | (simp only; omega))
          ·
            have hke : k = (preds.getD i []).length := by omega
            subst hke
            refine K_exit ?_
            refine K_then_exit ?_
            refine K_then_exit ?_
            refine K_in_exit ?_
            refine K_then ?_
            refine K_seq ?_
            refine K_region ?_
            refine W_y (y_move rfl) rfl rfl rfl ?_
            refine W_y (y_move rfl) rfl rfl rfl ?_
            refine W_y (y_ixv tab rfl rfl rfl rfl (by omega) (by omega)) rfl rfl rfl ?_
            refine W_y (y_load rfl (ld_ri (i := i) tab .here rfl (by rw [tb_len]; omega))) rfl rfl rfl ?_
            rw [tb_get 0 hin]
            refine W_y (by first | exact y_eq rfl rfl | exact y_seq rfl rfl) rfl rfl rfl ?_
            refine W_y (y_move rfl) rfl rfl rfl ?_
            first | refine K_splitd 130 rfl (fun h17 => ?_) (fun h17 => ?_) | refine K_split 130 rfl (fun h17 => ?_) (fun h17 => ?_)
            ·
              have hio : (i : Int) ∉ (orderL preds ranks) := hiz.1 h17
              refine W_y (y_move rfl) rfl rfl rfl ?_
              refine W_y (y_pick rfl rfl) rfl rfl rfl ?_
              refine K_nil ?_
              refine K_then ?_
              refine K_cond rfl (fun h18 => ?_) (fun h18 => ?_)
              ·
                exfalso
                obtain ⟨p, hp, hpn⟩ := orderL_left hin hio
                exact hpn (allK_len.1 h18 p hp)
              ·
                refine K_skip ?_
                refine K_in ?_
                refine K_then ?_
                refine K_region ?_
                refine W_y (y_move rfl) rfl rfl rfl ?_
                refine W_y (y_add rfl rfl (by omega)) rfl rfl rfl ?_
                refine W_y (y_assign rfl) rfl rfl rfl ?_
                refine K_nil ?_
                refine K_thenA ?_
                exact K_back (i + 1) rfl (by repeat first | exact .nil _ | refine .cons rfl ?_) rfl (by omega) (by first | omega | (simp only; omega))
            ·
              refine W_skip rfl rfl rfl ?_
              refine W_y (y_pick rfl rfl) rfl rfl rfl ?_
              refine K_nil ?_
              refine K_then ?_
              refine K_no rfl ?_
              refine K_skip ?_
              refine K_in ?_
              refine K_then ?_
              refine K_region ?_
              refine W_y (y_move rfl) rfl rfl rfl ?_
              refine W_y (y_add rfl rfl (by omega)) rfl rfl rfl ?_
              refine W_y (y_assign rfl) rfl rfl rfl ?_
              refine K_nil ?_
              refine K_thenA ?_
              exact K_back (i + 1) rfl (by repeat first | exact .nil _ | refine .cons rfl ?_) rfl (by omega) (by first | omega | (simp only; omega))
        ·
          refine K_exit ?_
          refine K_then_exit ?_
          refine K_then_exit ?_
          refine K_in_exit ?_
          refine K_then ?_
          refine K_seq ?_
          refine K_region ?_
          refine W_a (a_call (enters_of Tryd.func19 (by kernel_rfl) rfl) rfl (f19_ok (hg.mono hJ)) rfl ?_) rfl
          rintro _ J6 _ hJ6 ⟨rfl, rfl⟩
          refine W_y (y_assign rfl) rfl rfl rfl ?_
          refine K_nil ?_
          refine K_then ?_
          refine K_ret ?_
          refine K_out1 rfl (.tmp rfl) ?_
          exact fun w hw => ⟨_, _, _, rfl, hJ.trans hJ6, hw, rfl⟩
end Go.Proofs.YtfnmcpgajjkemaaDoor
