/- GraphLeast. Printed by wip/gen/g20.py. -/
import Derived.Test.YtfnmcpgajjkemaaDoorG19
namespace Go.Proofs.YtfnmcpgajjkemaaDoor
open Go Go.RowKit Go.Proofs.YtfnmcpgajjkemaaDoor.SW
set_option maxRecDepth 100000
set_option maxHeartbeats 400000
theorem rdyK_next {preds : List (List Int)} {out : List Int} {i k : Nat} (hk : k < (preds.getD i []).length) : rdyK preds out i (k + 1) = (rdyK preds out i k && decide ((preds.getD i []).getD k 0 ∈ out)) := by
  unfold rdyK
  rw [take_all_succ hk, Bool.and_assoc]
theorem take_snoc {xs : List Int} {k : Nat} {q : Int} (hk : k < xs.length) (hq : xs.getD k 0 = q) : xs.take k ++ [q] = xs.take (k + 1) := by
  rw [List.take_add_one, List.getElem?_eq_getElem hk, ← hq, List.getD_eq_getElem?_getD, List.getElem?_eq_getElem hk]; rfl
theorem f5_ok {I : Imm} {l : List Itm} {v rv : Value} {vs : List SV} {preds : List (List Int)} {ranks : List Int} (hg : GlobI I) (hr : RowII eInt I v vs preds) (hk : RowI eInt I rv ranks) (hF : Few preds) (hG : ranks.length ≤ 1048576) :
    Ct Tryd.prog 5 [v, rv] I l (fun r _ _ => r = .bool true) := by
  refine Ct_enter Tryd.func5 rfl rfl rfl ?_
  have hl1 := hF.len
  have hl := hr.len
  have hc := hr.top.sc
  rw [hl] at hc
  have hol := orderRes_len preds ranks
  refine K_seq ?_
  refine K_region ?_
  refine W_y (y_assign rfl) rfl rfl rfl ?_
  refine K_nil ?_
  refine K_then ?_
  refine K_seq ?_
  refine K_region ?_
  refine W_y (y_move rfl) rfl rfl rfl ?_
  refine W_a (a_call (enters_of Tryd.func11 (by kernel_rfl) rfl) rfl (f11_ok hr (by omega) hF.rows) rfl ?_) rfl
  rintro xv J1 _ hJ1 ⟨⟨xvs, hxr⟩, rfl⟩
  refine W_y (y_move rfl) rfl rfl rfl ?_
  refine W_a (a_call (enters_of Tryd.func16 (by kernel_rfl) rfl) rfl (f16_ok (hk.mono hJ1) (by omega)) rfl ?_) rfl
  rintro kv _ _ - ⟨rfl, rfl⟩
  refine K_give (fun J2 hJ2 hkk => ?_)
  refine W_a (a_call (enters_of Tryd.func13 (by kernel_rfl) rfl) rfl (f13_ok (hxr.mono hJ2) hkk (by omega)) rfl ?_) rfl
  rintro _ J3 _ hJ3 ⟨ov, rfl, rfl⟩
  refine K_give (fun J4 hJ4 hor => ?_)
  have hJ := hJ1.trans (hJ2.trans (hJ3.trans hJ4))
  refine W_y (y_move rfl) rfl rfl rfl ?_
  refine W_y (y_extract rfl rfl) rfl rfl rfl ?_
  refine W_y (y_extract rfl rfl) rfl rfl rfl ?_
  refine W_y (y_assign rfl) rfl rfl rfl ?_
  refine W_y (y_assign rfl) rfl rfl rfl ?_
  refine K_nil ?_
  refine K_then ?_
  refine K_seq ?_
  refine K_seq ?_
  refine K_region ?_
  refine W_y (y_move rfl) rfl rfl rfl ?_
  refine W_y (by first | exact y_eq rfl rfl | exact y_seq rfl rfl) rfl rfl rfl ?_
  refine K_nil ?_
  refine K_then ?_
  first | refine K_if rfl (fun h1 => ?_) (fun h1 => ?_) | refine K_ifn rfl (fun h1 => ?_) (fun h1 => ?_) | refine K_cond rfl (fun h1 => ?_) (fun h1 => ?_)
  ·
    refine K_seq ?_
    refine K_region ?_
    refine W_a (a_call (enters_of Tryd.func19 (by kernel_rfl) rfl) rfl (f19_ok (hg.mono hJ)) rfl ?_) rfl
    rintro _ J6 _ hJ6 ⟨rfl, rfl⟩
    refine W_y (y_assign rfl) rfl rfl rfl ?_
    refine K_nil ?_
    refine K_then ?_
    refine K_ret ?_
    refine K_then_ret ?_
    refine K_out1 rfl (.tmp rfl) ?_
    exact fun w hw => ⟨_, _, _, rfl, hJ.trans hJ6, hw, rfl⟩
  ·
    obtain ⟨hf, hln, ho, hcode, _⟩ := orderRes_form h1
    rw [ho] at hor
    have how := (orderL_onWay (preds := preds) (ranks := ranks)).1
    have hnd := how.nodup
    have hole := how.le
    refine K_skip ?_
    refine K_then ?_
    refine K_seq ?_
    have hoc := hor.sc
    refine K_region ?_
    refine W_y (y_move rfl) rfl rfl rfl ?_
    refine W_y (by first | exact y_lenc tab (by assumption) rfl rfl | exact y_lens tab rfl rfl | exact y_lenstr tab rfl rfl) rfl rfl rfl ?_
    refine W_a (a_mk (e := eBool) (z0 := false) tab rfl rfl rfl rfl rfl (by omega) rfl ?_) rfl
    intro b25
    refine W_y (y_assign rfl) rfl rfl rfl ?_
    refine K_nil ?_
    refine K_then ?_
    refine K_seq ?_
    refine K_seq ?_
    refine K_region ?_
    refine W_y (y_assign rfl) rfl rfl rfl ?_
    refine K_nil ?_
    refine K_then ?_
    refine K_block ?_
    rw [tb_const (n := preds.length) false, show (fun _ => false) = (fun (i : Nat) => decide ((i : Int) ∈ (orderL preds ranks).take 0)) from funext fun i => by simp]
    refine K_lp (σ := Nat) (fun s => J4) (fun s => [(0, v), (1, rv), (5, ov), (7, .slice (some ⟨b25, 0, none⟩) preds.length preds.length), (8, .int .i64 s)]) (fun s => row eBool 4 (.slice (some ⟨b25, 0, none⟩) preds.length preds.length) (inP preds.length ((orderL preds ranks).take s)) :: l) (fun s => s ≤ (orderL preds ranks).length) (fun s => (orderL preds ranks).length - s) 0 rfl (by repeat first | exact .nil _ | refine .cons rfl ?_) rfl (Nat.zero_le _) ?_
    intro k hkk
    refine K_seq ?_
    refine K_seq ?_
    refine K_region ?_
    refine W_y (y_move rfl) rfl rfl rfl ?_
    refine W_y (y_move rfl) rfl rfl rfl ?_
    refine W_y (by first | exact y_lenc tab (by assumption) rfl rfl | exact y_lens tab rfl rfl | exact y_lenstr tab rfl rfl) rfl rfl rfl ?_
    refine W_y (y_lt rfl rfl) rfl rfl rfl ?_
    refine K_nil ?_
    refine K_then ?_
    first | refine K_if rfl (fun h2 => ?_) (fun h2 => ?_) | refine K_ifn rfl (fun h2 => ?_) (fun h2 => ?_) | refine K_cond rfl (fun h2 => ?_) (fun h2 => ?_)
    ·
      have hkl : k < (orderL preds ranks).length := by omega
      obtain ⟨q, hq, hbest⟩ := orderL_good (preds := preds) (ranks := ranks) k hkl
      have hqn := hbest.1
      refine K_skip ?_
      refine K_then ?_
      refine K_seq ?_
      refine K_block ?_
      refine K_seq ?_
      refine K_seq ?_
      refine K_region ?_
      refine W_y (y_move rfl) rfl rfl rfl ?_
      refine W_y (y_move rfl) rfl rfl rfl ?_
      refine W_y (y_ixi tab hor rfl rfl rfl rfl (by omega)) rfl rfl rfl ?_
      refine W_y (y_load rfl (ld_ii (i := k) tab hor rfl hkl)) rfl rfl rfl ?_
      rw [hq]
      refine W_y (y_lt rfl rfl) rfl rfl rfl ?_
      refine W_y (y_move rfl) rfl rfl rfl ?_
      first | refine K_splitd 37 rfl (fun h3 => ?_) (fun h3 => ?_) | refine K_split 37 rfl (fun h3 => ?_) (fun h3 => ?_)
      ·
        exfalso; omega
      ·
        refine W_y (y_move rfl) rfl rfl rfl ?_
        refine W_y (y_move rfl) rfl rfl rfl ?_
        refine W_y (y_ixi tab hor rfl rfl rfl rfl (by omega)) rfl rfl rfl ?_
        refine W_y (y_load rfl (ld_ii (i := k) tab hor rfl hkl)) rfl rfl rfl ?_
        rw [hq]
        refine W_y (y_move rfl) rfl rfl rfl ?_
        refine W_y (by first | exact y_lenc tab (by assumption) rfl rfl | exact y_lens tab rfl rfl | exact y_lenstr tab rfl rfl) rfl rfl rfl ?_
        refine W_y (y_ge rfl rfl) rfl rfl rfl ?_
        refine W_y (y_pick rfl rfl) rfl rfl rfl ?_
        refine K_nil ?_
        refine K_then ?_
        first | refine K_if rfl (fun h4 => ?_) (fun h4 => ?_) | refine K_ifn rfl (fun h4 => ?_) (fun h4 => ?_) | refine K_cond rfl (fun h4 => ?_) (fun h4 => ?_)
        ·
          exfalso; omega
        ·
          refine K_skip ?_
          refine K_then ?_
          refine K_seq ?_
          refine K_seq ?_
          refine K_region ?_
          refine W_y (y_assign rfl) rfl rfl rfl ?_
          refine K_nil ?_
          refine K_then ?_
          refine K_block ?_
          refine K_lp (σ := Nat) (fun s => J4) (fun s => [(0, v), (1, rv), (5, ov), (7, .slice (some ⟨b25, 0, none⟩) preds.length preds.length), (8, .int .i64 k), (9, .int .i64 s)]) (fun s => row eBool 4 (.slice (some ⟨b25, 0, none⟩) preds.length preds.length) (inP preds.length ((orderL preds ranks).take k)) :: l) (fun s => s ≤ preds.length) (fun s => preds.length - s) 0 rfl (by repeat first | exact .nil _ | refine .cons rfl ?_) rfl (Nat.zero_le _) ?_
          intro i hi
          refine K_seq ?_
          refine K_seq ?_
          refine K_region ?_
          refine W_y (y_move rfl) rfl rfl rfl ?_
          refine W_y (y_move rfl) rfl rfl rfl ?_
          refine W_y (by first | exact y_lenc tab (by assumption) rfl rfl | exact y_lens tab rfl rfl | exact y_lenstr tab rfl rfl) rfl rfl rfl ?_
          refine W_y (y_lt rfl rfl) rfl rfl rfl ?_
          refine K_nil ?_
          refine K_then ?_
          first | refine K_if rfl (fun h5 => ?_) (fun h5 => ?_) | refine K_ifn rfl (fun h5 => ?_) (fun h5 => ?_) | refine K_cond rfl (fun h5 => ?_) (fun h5 => ?_)
          ·
            have hin : i < preds.length := by omega
            obtain ⟨u, hu⟩ : ∃ u, u = (vs.getD i svnil).1 := ⟨_, rfl⟩
            have hru := (hr.at_ i hin).mono hJ
            rw [← hu] at hru
            have hcu := hru.sc
            have hrow := hf.row hin
            have hml := ints_le hrow.1 hrow.2
            refine K_skip ?_
            refine K_then ?_
            refine K_seq ?_
            refine K_block ?_
            refine K_seq ?_
            refine K_region ?_
            refine W_y (y_move rfl) rfl rfl rfl ?_
            refine W_y (y_move rfl) rfl rfl rfl ?_
            refine W_y (y_ixv tab rfl rfl rfl rfl (by omega) (by omega)) rfl rfl rfl ?_
            refine W_y (y_load rfl (ld_rb (i := i) tab .here rfl (by rw [inP, tb_len]; omega))) rfl rfl rfl ?_
            rw [inP_get hin]
            refine W_y (y_not rfl) rfl rfl rfl ?_
            refine W_y (y_assign rfl) rfl rfl rfl ?_
            refine K_nil ?_
            refine K_then ?_
            refine K_seq ?_
            refine K_seq ?_
            refine K_region ?_
            refine W_y (y_assign rfl) rfl rfl rfl ?_
            refine K_nil ?_
            refine K_then ?_
            refine K_block ?_
            rw [show (!decide ((i : Int) ∈ ((orderL preds ranks).take k))) = rdyK preds ((orderL preds ranks).take k) i 0 by simp [rdyK]]
            refine K_lp (σ := Nat) (fun s => J4) (fun s => [(0, v), (1, rv), (5, ov), (7, .slice (some ⟨b25, 0, none⟩) preds.length preds.length), (8, .int .i64 k), (9, .int .i64 i), (10, .bool (rdyK preds ((orderL preds ranks).take k) i s)), (11, .int .i64 s)]) (fun s => row eBool 4 (.slice (some ⟨b25, 0, none⟩) preds.length preds.length) (inP preds.length ((orderL preds ranks).take k)) :: l) (fun s => s ≤ (preds.getD i []).length) (fun s => (preds.getD i []).length - s) 0 rfl (by repeat first | exact .nil _ | refine .cons rfl ?_) rfl (Nat.zero_le _) ?_
            intro j hjj
            refine K_seq ?_
            refine K_seq ?_
            refine K_region ?_
            refine W_y (y_move rfl) rfl rfl rfl ?_
            refine W_y (y_move rfl) rfl rfl rfl ?_
            refine W_y (y_move rfl) rfl rfl rfl ?_
            refine W_y (y_ixi tab hr.top rfl rfl rfl rfl (by omega)) rfl rfl rfl ?_
            refine W_y (hu ▸ y_load rfl (ld_vi (i := i) tab (hr.top.mono hJ) rfl (by omega))) rfl rfl rfl ?_
            refine W_y (by first | exact y_lenc tab (by assumption) rfl rfl | exact y_lens tab rfl rfl | exact y_lenstr tab rfl rfl) rfl rfl rfl ?_
            refine W_y (y_lt rfl rfl) rfl rfl rfl ?_
            refine K_nil ?_
            refine K_then ?_
            first | refine K_if rfl (fun h6 => ?_) (fun h6 => ?_) | refine K_ifn rfl (fun h6 => ?_) (fun h6 => ?_) | refine K_cond rfl (fun h6 => ?_) (fun h6 => ?_)
            ·
              have hjl : j < (preds.getD i []).length := by omega
              have hnext := rdyK_next (out := ((orderL preds ranks).take k)) hjl
              refine K_skip ?_
              refine K_then ?_
              refine K_seq ?_
              refine K_block ?_
              refine K_region ?_
              refine W_y (y_move rfl) rfl rfl rfl ?_
              refine W_y (y_move rfl) rfl rfl rfl ?_
              refine K_split 67 rfl (fun h7 => ?_) (fun h7 => ?_)
              ·
                rw [h7, Bool.true_and] at hnext
                refine W_y (y_move rfl) rfl rfl rfl ?_
                refine W_y (y_move rfl) rfl rfl rfl ?_
                refine W_y (y_move rfl) rfl rfl rfl ?_
                refine W_y (y_ixi tab hr.top rfl rfl rfl rfl (by omega)) rfl rfl rfl ?_
                refine W_y (hu ▸ y_load rfl (ld_vi (i := i) tab (hr.top.mono hJ) rfl (by omega))) rfl rfl rfl ?_
                refine W_y (y_move rfl) rfl rfl rfl ?_
                refine W_y (y_ixi tab hru rfl rfl rfl rfl (by omega)) rfl rfl rfl ?_
                refine W_y (y_load rfl (ld_ii (i := j) tab hru rfl (by omega))) rfl rfl rfl ?_
                have hp := hrow.2 _ (getD_mem (i := j) 0 hjl)
                obtain ⟨p, hpe⟩ : ∃ p : Nat, (p : Int) = (preds.getD i []).getD j 0 := ⟨((preds.getD i []).getD j 0).toNat, by omega⟩
                rw [← hpe] at hp hnext ⊢
                have hpn : p < preds.length := by omega
                refine W_y (y_ixv tab rfl rfl rfl rfl (by omega) (by omega)) rfl rfl rfl ?_
                refine W_y (y_load rfl (ld_rb (i := p) tab .here rfl (by rw [inP, tb_len]; omega))) rfl rfl rfl ?_
                first | rw [inP_get hpn] | skip
                refine W_y (y_pick rfl rfl) rfl rfl rfl ?_
                refine W_y (y_assign rfl) rfl rfl rfl ?_
                refine K_nil ?_
                refine K_in ?_
                refine K_then ?_
                refine K_region ?_
                refine W_y (y_move rfl) rfl rfl rfl ?_
                refine W_y (y_add rfl rfl (by omega)) rfl rfl rfl ?_
                refine W_y (y_assign rfl) rfl rfl rfl ?_
                refine K_nil ?_
                refine K_thenA ?_
                exact K_back (j + 1) rfl (.cons rfl (.cons rfl (.cons rfl (.cons rfl (.cons rfl (.cons rfl (.cons (by rw [hnext]; rfl) (.cons rfl (.nil _))))))))) rfl (by omega) (by first | omega | (simp only; omega))
              ·
                rw [h7, Bool.false_and] at hnext
                refine W_skip rfl rfl rfl ?_
                refine W_skip rfl rfl rfl ?_
                refine W_skip rfl rfl rfl ?_
                refine W_skip rfl rfl rfl ?_
                refine W_skip rfl rfl rfl ?_
                refine W_skip rfl rfl rfl ?_
                refine W_skip rfl rfl rfl ?_
                refine W_skip rfl rfl rfl ?_
                refine W_skip rfl rfl rfl ?_
                refine W_skip rfl rfl rfl ?_
                first | rw [inP_get hpn] | skip
                refine W_y (y_pick rfl rfl) rfl rfl rfl ?_
                refine W_y (y_assign rfl) rfl rfl rfl ?_
                refine K_nil ?_
                refine K_in ?_
                refine K_then ?_
                refine K_region ?_
                refine W_y (y_move rfl) rfl rfl rfl ?_
                refine W_y (y_add rfl rfl (by omega)) rfl rfl rfl ?_
                refine W_y (y_assign rfl) rfl rfl rfl ?_
                refine K_nil ?_
                refine K_thenA ?_
                exact K_back (j + 1) rfl (.cons rfl (.cons rfl (.cons rfl (.cons rfl (.cons rfl (.cons rfl (.cons (by rw [hnext]; rfl) (.cons rfl (.nil _))))))))) rfl (by omega) (by first | omega | (simp only; omega))
            ·
              have hje : j = (preds.getD i []).length := by omega
              subst hje
              rw [rdyK_len]
              refine K_exit ?_
              refine K_then_exit ?_
              refine K_then_exit ?_
              refine K_in_exit ?_
              refine K_then ?_
              refine K_seq ?_
              refine K_draw [(0, 3, []), (1, 3, []), (2, 3, []), (3, 3, []), (4, 3, []), (5, 0, []), (6, 3, []), (7, 3, []), (8, 3, []), (9, 3, []), (10, 0, []), (11, 3, []), (12, 0, []), (13, 3, []), (14, 3, []), (15, 3, []), (16, 3, []), (17, 3, []), (18, 0, []), (19, 3, []), (20, 3, []), (21, 3, []), (22, 3, []), (23, 0, []), (24, 3, []), (25, 0, []), (26, 3, []), (27, 3, []), (28, 3, []), (29, 3, []), (30, 3, []), (31, 3, []), (32, 0, []), (33, 3, []), (34, 3, []), (35, 3, []), (36, 3, [])] [] [] rfl (by kernel_rfl) (by intro c a d v w h; cases d <;> exact h) ?_
              refine D_f rfl (fun _ _ => y_move rfl) rfl rfl rfl ?_
              refine D_f rfl (fun _ _ => y_move rfl) rfl rfl rfl ?_
              refine K_split 80 rfl (fun h8 => ?_) (fun h8 => ?_)
              ·
                have hmin := hbest.2.2 i hin h8
                refine D_f rfl (fun _ _ => y_move rfl) rfl rfl rfl ?_
                refine D_f rfl (fun _ _ => y_move rfl) rfl rfl rfl ?_
                refine D_f rfl (fun _ _ => y_ixi tab hk rfl rfl rfl rfl (by omega)) rfl rfl rfl ?_
                refine D_y rfl (y_load rfl (ld_ii (i := i) tab (hk.mono hJ) rfl (by omega))) rfl rfl rfl ?_
                refine D_f rfl (fun _ _ => y_move rfl) rfl rfl rfl ?_
                refine D_f rfl (fun _ _ => y_move rfl) rfl rfl rfl ?_
                refine D_f rfl (fun _ _ => y_move rfl) rfl rfl rfl ?_
                refine D_f rfl (fun _ _ => y_ixi tab hor rfl rfl rfl rfl (by omega)) rfl rfl rfl ?_
                refine D_y rfl (y_load rfl (ld_ii (i := k) tab hor rfl hkl)) rfl rfl rfl ?_
                rw [hq]
                refine D_f rfl (fun _ _ => y_ixi tab hk rfl rfl rfl rfl (by omega)) rfl rfl rfl ?_
                refine D_y rfl (y_load rfl (ld_ii (i := q) tab (hk.mono hJ) rfl (by omega))) rfl rfl rfl ?_
                refine D_f rfl (fun _ _ => y_lt rfl rfl) rfl rfl rfl ?_
                refine D_f rfl (fun _ _ => y_move rfl) rfl rfl rfl ?_
                first | refine K_splitd 93 rfl (fun h9 => ?_) (fun h9 => ?_) | refine K_split 93 rfl (fun h9 => ?_) (fun h9 => ?_)
                ·
                  exfalso; omega
                ·
                  refine D_f rfl (fun _ _ => y_move rfl) rfl rfl rfl ?_
                  refine D_f rfl (fun _ _ => y_move rfl) rfl rfl rfl ?_
                  refine D_f rfl (fun _ _ => y_ixi tab hk rfl rfl rfl rfl (by omega)) rfl rfl rfl ?_
                  refine D_y rfl (y_load rfl (ld_ii (i := i) tab (hk.mono hJ) rfl (by omega))) rfl rfl rfl ?_
                  refine D_f rfl (fun _ _ => y_move rfl) rfl rfl rfl ?_
                  refine D_f rfl (fun _ _ => y_move rfl) rfl rfl rfl ?_
                  refine D_f rfl (fun _ _ => y_move rfl) rfl rfl rfl ?_
                  refine D_f rfl (fun _ _ => y_ixi tab hor rfl rfl rfl rfl (by omega)) rfl rfl rfl ?_
                  refine D_y rfl (y_load rfl (ld_ii (i := k) tab hor rfl hkl)) rfl rfl rfl ?_
                  rw [hq]
                  refine D_f rfl (fun _ _ => y_ixi tab hk rfl rfl rfl rfl (by omega)) rfl rfl rfl ?_
                  refine D_y rfl (y_load rfl (ld_ii (i := q) tab (hk.mono hJ) rfl (by omega))) rfl rfl rfl ?_
                  refine D_f rfl (fun _ _ => by first | exact y_eq rfl rfl | exact y_seq rfl rfl) rfl rfl rfl ?_
                  refine D_f rfl (fun _ _ => y_move rfl) rfl rfl rfl ?_
                  first | refine K_splitd 106 rfl (fun h10 => ?_) (fun h10 => ?_) | refine K_split 106 rfl (fun h10 => ?_) (fun h10 => ?_)
                  ·
                    refine D_f rfl (fun _ _ => y_move rfl) rfl rfl rfl ?_
                    refine D_f rfl (fun _ _ => y_move rfl) rfl rfl rfl ?_
                    refine D_f rfl (fun _ _ => y_move rfl) rfl rfl rfl ?_
                    refine D_f rfl (fun _ _ => y_ixi tab hor rfl rfl rfl rfl (by omega)) rfl rfl rfl ?_
                    refine D_y rfl (y_load rfl (ld_ii (i := k) tab hor rfl hkl)) rfl rfl rfl ?_
                    rw [hq]
                    refine D_f rfl (fun _ _ => y_lt rfl rfl) rfl rfl rfl ?_
                    refine D_f rfl (fun _ _ => y_pick rfl rfl) rfl rfl rfl ?_
                    refine D_f rfl (fun _ _ => y_pick rfl rfl) rfl rfl rfl ?_
                    refine D_f rfl (fun _ _ => y_pick rfl rfl) rfl rfl rfl ?_
                    refine D_nil (fun _ h => h.sublist (by repeat first | exact List.nil_sublist _ | exact List.Sublist.refl _ | apply List.Sublist.cons_cons | apply List.Sublist.cons)) ?_
                    refine K_then ?_
                    first | refine K_if rfl (fun h11 => ?_) (fun h11 => ?_) | refine K_ifn rfl (fun h11 => ?_) (fun h11 => ?_) | refine K_cond rfl (fun h11 => ?_) (fun h11 => ?_)
                    ·
                      exfalso; omega
                    ·
                      refine K_skip ?_
                      refine K_in ?_
                      refine K_then ?_
                      refine K_region ?_
                      refine W_y (y_move rfl) rfl rfl rfl ?_
                      refine W_y (y_add rfl rfl (by omega)) rfl rfl rfl ?_
                      refine W_y (y_assign rfl) rfl rfl rfl ?_
                      refine K_nil ?_
                      refine K_thenA ?_
                      exact K_back (i + 1) rfl (by repeat first | exact .nil _ | refine .cons rfl ?_) rfl (by omega) (by first | omega | (simp only; omega))
                  ·
                    refine D_skip3 rfl rfl rfl rfl ?_
                    refine D_skip3 rfl rfl rfl rfl ?_
                    refine D_skip3 rfl rfl rfl rfl ?_
                    refine D_skip3 rfl rfl rfl rfl ?_
                    refine D_skip rfl rfl rfl rfl ?_
                    refine D_skip3 rfl rfl rfl rfl ?_
                    refine D_f rfl (fun _ _ => y_pick rfl rfl) rfl rfl rfl ?_
                    refine D_f rfl (fun _ _ => y_pick rfl rfl) rfl rfl rfl ?_
                    refine D_f rfl (fun _ _ => y_pick rfl rfl) rfl rfl rfl ?_
                    refine D_nil (fun _ h => h.sublist (by repeat first | exact List.nil_sublist _ | exact List.Sublist.refl _ | apply List.Sublist.cons_cons | apply List.Sublist.cons)) ?_
                    refine K_then ?_
                    refine K_no rfl ?_
                    refine K_skip ?_
                    refine K_in ?_
                    refine K_then ?_
                    refine K_region ?_
                    refine W_y (y_move rfl) rfl rfl rfl ?_
                    refine W_y (y_add rfl rfl (by omega)) rfl rfl rfl ?_
                    refine W_y (y_assign rfl) rfl rfl rfl ?_
                    refine K_nil ?_
                    refine K_thenA ?_
                    exact K_back (i + 1) rfl (by repeat first | exact .nil _ | refine .cons rfl ?_) rfl (by omega) (by first | omega | (simp only; omega))
              ·
                refine D_skip3 rfl rfl rfl rfl ?_
                refine D_skip3 rfl rfl rfl rfl ?_
                refine D_skip3 rfl rfl rfl rfl ?_
                refine D_skip rfl rfl rfl rfl ?_
                refine D_skip3 rfl rfl rfl rfl ?_
                refine D_skip3 rfl rfl rfl rfl ?_
                refine D_skip3 rfl rfl rfl rfl ?_
                refine D_skip3 rfl rfl rfl rfl ?_
                refine D_skip rfl rfl rfl rfl ?_
                refine D_skip3 rfl rfl rfl rfl ?_
                refine D_skip rfl rfl rfl rfl ?_
                refine D_skip3 rfl rfl rfl rfl ?_
                refine D_skip3 rfl rfl rfl rfl ?_
                refine D_skip3 rfl rfl rfl rfl ?_
                refine D_skip3 rfl rfl rfl rfl ?_
                refine D_skip3 rfl rfl rfl rfl ?_
                refine D_skip rfl rfl rfl rfl ?_
                refine D_skip3 rfl rfl rfl rfl ?_
                refine D_skip3 rfl rfl rfl rfl ?_
                refine D_skip3 rfl rfl rfl rfl ?_
                refine D_skip3 rfl rfl rfl rfl ?_
                refine D_skip rfl rfl rfl rfl ?_
                refine D_skip3 rfl rfl rfl rfl ?_
                refine D_skip rfl rfl rfl rfl ?_
                refine D_skip3 rfl rfl rfl rfl ?_
                refine D_skip3 rfl rfl rfl rfl ?_
                refine D_skip3 rfl rfl rfl rfl ?_
                refine D_skip3 rfl rfl rfl rfl ?_
                refine D_skip3 rfl rfl rfl rfl ?_
                refine D_skip3 rfl rfl rfl rfl ?_
                refine D_skip rfl rfl rfl rfl ?_
                refine D_skip3 rfl rfl rfl rfl ?_
                refine D_skip3 rfl rfl rfl rfl ?_
                refine D_skip3 rfl rfl rfl rfl ?_
                refine D_f rfl (fun _ _ => y_pick rfl rfl) rfl rfl rfl ?_
                refine D_nil (fun _ h => h.sublist (by repeat first | exact List.nil_sublist _ | exact List.Sublist.refl _ | apply List.Sublist.cons_cons | apply List.Sublist.cons)) ?_
                refine K_then ?_
                refine K_no rfl ?_
                refine K_skip ?_
                refine K_in ?_
                refine K_then ?_
                refine K_region ?_
                refine W_y (y_move rfl) rfl rfl rfl ?_
                refine W_y (y_add rfl rfl (by omega)) rfl rfl rfl ?_
                refine W_y (y_assign rfl) rfl rfl rfl ?_
                refine K_nil ?_
                refine K_thenA ?_
                exact K_back (i + 1) rfl (by repeat first | exact .nil _ | refine .cons rfl ?_) rfl (by omega) (by first | omega | (simp only; omega))
          ·
            refine K_exit ?_
            refine K_then_exit ?_
            refine K_then_exit ?_
            refine K_in_exit ?_
            refine K_then ?_
            refine K_region ?_
            refine W_y (y_move rfl) rfl rfl rfl ?_
            refine W_y (y_move rfl) rfl rfl rfl ?_
            refine W_y (y_move rfl) rfl rfl rfl ?_
            refine W_y (y_ixi tab hor rfl rfl rfl rfl (by omega)) rfl rfl rfl ?_
            refine W_y (y_load rfl (ld_ii (i := k) tab hor rfl hkl)) rfl rfl rfl ?_
            rw [hq]
            refine W_y (y_ixv tab rfl rfl rfl rfl (by omega) (by omega)) rfl rfl rfl ?_
            refine W_a (a_ste (e := eBool) (i := q) (a' := true) tab rfl rfl rfl rfl rfl rfl (get_of false (by rw [inP, tb_len]; omega)) rfl rfl ?_) rfl
            rw [inP_set, take_snoc hkl hq]
            refine K_nil ?_
            refine K_in ?_
            refine K_then ?_
            refine K_region ?_
            refine W_y (y_move rfl) rfl rfl rfl ?_
            refine W_y (y_add rfl rfl (by omega)) rfl rfl rfl ?_
            refine W_y (y_assign rfl) rfl rfl rfl ?_
            refine K_nil ?_
            refine K_thenA ?_
            exact K_back (k + 1) rfl (by repeat first | exact .nil _ | refine .cons rfl ?_) rfl (by omega) (by first | omega | (simp only; omega))
    ·
      have hke : k = (orderL preds ranks).length := by omega
      subst hke
      refine K_exit ?_
      refine K_then_exit ?_
      refine K_then_exit ?_
      refine K_in_exit ?_
      refine K_then ?_
      refine K_seq ?_
      refine K_region ?_
      refine W_a (a_call (enters_of Tryd.func19 (by kernel_rfl) rfl) rfl (f19_ok (hg.mono hJ)) rfl ?_) rfl
      rintro _ J6 _ hJ6 ⟨rfl, rfl⟩
      refine W_y (y_assign rfl) rfl rfl rfl ?_
      refine K_nil ?_
      refine K_then ?_
      refine K_ret ?_
      refine K_out1 rfl (.tmp rfl) ?_
      exact fun w hw => ⟨_, _, _, rfl, hJ.trans hJ6, hw, rfl⟩
end Go.Proofs.YtfnmcpgajjkemaaDoor
