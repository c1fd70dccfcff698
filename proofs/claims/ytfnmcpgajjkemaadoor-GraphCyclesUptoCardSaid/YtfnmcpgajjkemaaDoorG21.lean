/- GraphCycles. Printed by wip/gen/g21.py. -/
import Derived.Test.YtfnmcpgajjkemaaDoorG19
namespace Go.Proofs.YtfnmcpgajjkemaaDoor
open Go Go.RowKit Go.Proofs.YtfnmcpgajjkemaaDoor.SW
set_option maxRecDepth 100000
set_option maxHeartbeats 400000
theorem f6_ok {I : Imm} {l : List Itm} {v : Value} {vs : List SV} {preds : List (List Int)} (hg : GlobI I) (hr : RowII eInt I v vs preds) (hF : Few preds) :
    Ct Tryd.prog 6 [v] I l (fun r _ _ => r = .bool true) := by
  refine Ct_enter Tryd.func6 rfl rfl rfl ?_
  have hl1 := hF.len
  have hl := hr.len
  have hc := hr.top.sc
  rw [hl] at hc
  refine K_seq ?_
  refine K_region ?_
  refine W_y (y_assign rfl) rfl rfl rfl ?_
  refine K_nil ?_
  refine K_then ?_
  refine K_seq ?_
  refine K_region ?_
  refine W_y (y_move rfl) rfl rfl rfl ?_
  refine W_a (a_call (enters_of Tryd.func11 (by kernel_rfl) rfl) rfl (f11_ok hr (by omega) hF.rows) rfl ?_) rfl
  rintro xv J1 _ hJ1 ⟨⟨xvs, hxr⟩, rfl⟩
  refine W_y (y_assign rfl) rfl rfl rfl ?_
  refine K_nil ?_
  refine K_then ?_
  refine K_seq ?_
  refine K_region ?_
  refine W_y (y_move rfl) rfl rfl rfl ?_
  refine W_a (a_call (enters_of Tryd.func20 (by kernel_rfl) rfl) rfl (f20_ok hxr (by omega)) rfl ?_) rfl
  rintro cv J2 _ hJ2 ⟨xs, hxs, rfl⟩
  refine K_give (fun J3 hJ3 hcr0 => ?_)
  refine W_y (y_assign rfl) rfl rfl rfl ?_
  refine K_nil ?_
  refine K_then ?_
  refine K_seq ?_
  refine K_region ?_
  refine W_y (y_move rfl) rfl rfl rfl ?_
  refine W_y (by first | exact y_lenc tab (by assumption) rfl rfl | exact y_lens tab rfl rfl | exact y_lenstr tab rfl rfl) rfl rfl rfl ?_
  refine W_a (a_mk (e := eInt) (z0 := 0) tab rfl rfl rfl rfl rfl (by omega) rfl ?_) rfl
  intro b16
  refine K_give (fun J4 hJ4 hz => ?_)
  have hJ14 := hJ1.trans (hJ2.trans (hJ3.trans hJ4))
  refine W_y (y_assign rfl) rfl rfl rfl ?_
  refine K_nil ?_
  refine K_then ?_
  refine K_seq ?_
  refine K_region ?_
  refine W_y (y_move rfl) rfl rfl rfl ?_
  refine W_a (a_call (enters_of Tryd.func11 (by kernel_rfl) rfl) rfl (f11_ok (hr.mono hJ14) (by omega) hF.rows) rfl ?_) rfl
  rintro xv2 J5 _ hJ5 ⟨⟨xvs2, hxr2⟩, rfl⟩
  refine W_y (y_move rfl) rfl rfl rfl ?_
  refine W_a (a_call (enters_of Tryd.func13 (by kernel_rfl) rfl) rfl (f13_ok hxr2 (hz.mono hJ5) (by omega)) rfl ?_) rfl
  rintro _ J6 _ hJ6 ⟨ov, rfl, rfl⟩
  refine K_drop ?_
  have hJ26 := hJ2.trans (hJ3.trans (hJ4.trans (hJ5.trans hJ6)))
  have hJ := hJ1.trans hJ26
  have hcr := hcr0.mono (hJ4.trans (hJ5.trans hJ6))
  have hcc := hcr.sc
  have hcm := hcr.max
  simp only [maxLen] at hcm
  refine W_y (y_move rfl) rfl rfl rfl ?_
  refine W_y (y_extract rfl rfl) rfl rfl rfl ?_
  refine W_y (y_extract rfl rfl) rfl rfl rfl ?_
  refine W_y (y_assign rfl) rfl rfl rfl ?_
  refine W_y (y_assign rfl) rfl rfl rfl ?_
  refine K_nil ?_
  refine K_then ?_
  refine K_seq ?_
  refine K_seq ?_
  refine K_region ?_
  refine W_y (y_move rfl) rfl rfl rfl ?_
  refine W_y (y_move rfl) rfl rfl rfl ?_
  refine W_a (a_call (enters_of Tryd.func14 (by kernel_rfl) rfl) rfl (f14_ok (hxr.mono hJ26) (hr.mono hJ)) rfl ?_) rfl
  rintro _ _ _ - ⟨rfl, rfl, rfl⟩
  rw [decide_eq_true (rfl : preds = preds)]
  refine W_y (y_not rfl) rfl rfl rfl ?_
  refine W_y (y_move rfl) rfl rfl rfl ?_
  refine K_split 28 rfl (fun h1 => ?_) (fun h1 => ?_)
  ·
    cases h1
  ·
    refine W_y (y_move rfl) rfl rfl rfl ?_
    refine W_y (by first | exact y_eq rfl rfl | exact y_seq rfl rfl) rfl rfl rfl ?_
    refine W_y (y_move rfl) rfl rfl rfl ?_
    refine W_y (by first | exact y_lenc tab (by assumption) rfl rfl | exact y_lens tab rfl rfl | exact y_lenstr tab rfl rfl) rfl rfl rfl ?_
    refine W_y (y_gt rfl rfl) rfl rfl rfl ?_
    refine W_y (y_bne tab rfl rfl rfl) rfl rfl rfl ?_
    refine W_y (y_pick rfl rfl) rfl rfl rfl ?_
    refine K_nil ?_
    refine K_then ?_
    first | refine K_if rfl (fun h2 => ?_) (fun h2 => ?_) | refine K_ifn rfl (fun h2 => ?_) (fun h2 => ?_) | refine K_cond rfl (fun h2 => ?_) (fun h2 => ?_)
    ·
      exact absurd (decide_eq_decide.2 ⟨fun h => (hxs.elim (fun h' => absurd h h'.1) (fun h' => by have := h'.2.ne; omega)), fun h => (hxs.elim (fun h' => by rw [h'.2] at h; simp at h) (fun h' => h'.1))⟩) h2
    ·
      refine K_skip ?_
      refine K_then ?_
      refine K_seq ?_
      refine K_seq ?_
      refine K_region ?_
      refine W_y (y_assign rfl) rfl rfl rfl ?_
      refine K_nil ?_
      refine K_then ?_
      refine K_block ?_
      refine K_lp (σ := Nat) (fun s => J6) (fun s => [(0, v), (4, cv), (8, .int .i64 s)]) (fun s => l) (fun s => s ≤ xs.length) (fun s => xs.length - s) 0 rfl (by repeat first | exact .nil _ | refine .cons rfl ?_) rfl (Nat.zero_le _) ?_
      intro k hk
      refine K_seq ?_
      refine K_seq ?_
      refine K_region ?_
      refine W_y (y_move rfl) rfl rfl rfl ?_
      refine W_y (y_move rfl) rfl rfl rfl ?_
      refine W_y (by first | exact y_lenc tab (by assumption) rfl rfl | exact y_lens tab rfl rfl | exact y_lenstr tab rfl rfl) rfl rfl rfl ?_
      refine W_y (y_lt rfl rfl) rfl rfl rfl ?_
      refine K_nil ?_
      refine K_then ?_
      first | refine K_if rfl (fun h3 => ?_) (fun h3 => ?_) | refine K_ifn rfl (fun h3 => ?_) (fun h3 => ?_) | refine K_cond rfl (fun h3 => ?_) (fun h3 => ?_)
      ·
        refine K_skip ?_
        refine K_then ?_
        refine K_seq ?_
        refine K_block ?_
        refine K_seq ?_
        refine K_region ?_
        refine W_y (y_move rfl) rfl rfl rfl ?_
        refine W_y (y_move rfl) rfl rfl rfl ?_
        refine W_y (y_add rfl rfl (by omega)) rfl rfl rfl ?_
        refine W_y (y_move rfl) rfl rfl rfl ?_
        refine W_y (by first | exact y_lenc tab (by assumption) rfl rfl | exact y_lens tab rfl rfl | exact y_lenstr tab rfl rfl) rfl rfl rfl ?_
        have hkl : k < xs.length := by omega
        have hcy : CycOk preds xs := hxs.elim (fun h => absurd h.2 (fun e => by subst e; simp at hkl)) (fun h => h.2)
        have hmod : (k + 1) % xs.length < xs.length := Nat.mod_lt _ (by omega)
        obtain ⟨m, hm⟩ : ∃ m : Nat, (m : Int) = xs.getD ((k + 1) % xs.length) 0 := ⟨(xs.getD ((k + 1) % xs.length) 0).toNat, by have := hcy.range _ hmod; omega⟩
        have hmr := hcy.range _ hmod
        have hkr := hcy.range _ hkl
        have hnx0 := hcy.next _ hkl
        rw [← hm] at hmr hnx0
        have hnx : xs.getD k 0 ∈ preds.getD m [] := hnx0
        have hmi : ((k : Int) + 1) % (xs.length : Int) = (((k + 1) % xs.length : Nat) : Int) := by simp
        have hmn : m < preds.length := by omega
        obtain ⟨u, hu⟩ : ∃ u, u = (vs.getD m svnil).1 := ⟨_, rfl⟩
        have hru := (hr.at_ m hmn).mono hJ
        rw [← hu] at hru
        have hcut := hcr.cut (i := 0) (j := k) ⟨Nat.zero_le _, by omega⟩
        rw [List.drop_zero] at hcut
        refine W_y (y_rem rfl rfl (by omega)) rfl rfl rfl ?_
        refine W_y (y_ixN ((k + 1) % xs.length) (y_ixi tab hcr rfl rfl rfl rfl ⟨by rw [hmi]; omega, by rw [hmi]; omega⟩) hmi) rfl rfl rfl ?_
        refine W_y (y_load rfl (ld_ii (i := (k + 1) % xs.length) tab hcr rfl hmod)) rfl rfl rfl ?_
        rw [← hm]
        refine W_y (y_assign rfl) rfl rfl rfl ?_
        refine K_nil ?_
        refine K_then ?_
        refine K_seq ?_
        refine K_draw [(0, 3, []), (1, 3, []), (2, 3, []), (3, 0, []), (4, 3, []), (5, 3, []), (6, 3, []), (7, 3, []), (8, 3, []), (9, 0, []), (10, 3, []), (11, 3, []), (12, 3, []), (13, 3, []), (14, 3, []), (15, 3, []), (16, 3, []), (17, 3, []), (18, 3, []), (19, 3, []), (20, 3, []), (21, 3, []), (22, 3, []), (23, 3, []), (24, 3, []), (25, 3, []), (26, 3, []), (27, 3, []), (28, 0, []), (29, 3, []), (30, 3, []), (31, 3, []), (32, 0, []), (33, 1, []), (34, 3, []), (35, 3, []), (36, 3, []), (37, 3, []), (38, 3, []), (39, 3, []), (40, 3, []), (41, 3, []), (42, 3, []), (43, 0, []), (44, 1, []), (45, 3, [])] [] [] rfl (by kernel_rfl) (by intro c a d v w h; cases d <;> exact h) ?_
        refine D_f rfl (fun _ _ => y_move rfl) rfl rfl rfl ?_
        refine D_f rfl (fun _ _ => y_move rfl) rfl rfl rfl ?_
        refine D_f rfl (fun _ _ => y_ixi tab hcr rfl rfl rfl rfl (by omega)) rfl rfl rfl ?_
        refine D_y rfl (y_load rfl (ld_ii (i := k) tab hcr rfl hkl)) rfl rfl rfl ?_
        refine D_f rfl (fun _ _ => y_lt rfl rfl) rfl rfl rfl ?_
        refine D_f rfl (fun _ _ => y_move rfl) rfl rfl rfl ?_
        first | refine K_splitd 55 rfl (fun h4 => ?_) (fun h4 => ?_) | refine K_split 55 rfl (fun h4 => ?_) (fun h4 => ?_)
        ·
          exfalso; omega
        ·
          refine D_f rfl (fun _ _ => y_move rfl) rfl rfl rfl ?_
          refine D_f rfl (fun _ _ => y_move rfl) rfl rfl rfl ?_
          refine D_f rfl (fun _ _ => y_ixi tab hcr rfl rfl rfl rfl (by omega)) rfl rfl rfl ?_
          refine D_y rfl (y_load rfl (ld_ii (i := k) tab hcr rfl hkl)) rfl rfl rfl ?_
          refine D_f rfl (fun _ _ => y_move rfl) rfl rfl rfl ?_
          refine D_f rfl (fun _ _ => by first | exact y_lenc tab (by assumption) rfl rfl | exact y_lens tab rfl rfl | exact y_lenstr tab rfl rfl) rfl rfl rfl ?_
          refine D_f rfl (fun _ _ => y_ge rfl rfl) rfl rfl rfl ?_
          refine D_f rfl (fun _ _ => y_pick rfl rfl) rfl rfl rfl ?_
          refine D_f rfl (fun _ _ => y_move rfl) rfl rfl rfl ?_
          first | refine K_splitd 64 rfl (fun h5 => ?_) (fun h5 => ?_) | refine K_split 64 rfl (fun h5 => ?_) (fun h5 => ?_)
          ·
            exfalso; omega
          ·
            refine D_f rfl (fun _ _ => y_move rfl) rfl rfl rfl ?_
            refine D_f rfl (fun _ _ => y_lt rfl rfl) rfl rfl rfl ?_
            refine D_f rfl (fun _ _ => y_pick rfl rfl) rfl rfl rfl ?_
            refine D_f rfl (fun _ _ => y_move rfl) rfl rfl rfl ?_
            first | refine K_splitd 68 rfl (fun h6 => ?_) (fun h6 => ?_) | refine K_split 68 rfl (fun h6 => ?_) (fun h6 => ?_)
            ·
              exfalso; omega
            ·
              refine D_f rfl (fun _ _ => y_move rfl) rfl rfl rfl ?_
              refine D_f rfl (fun _ _ => y_move rfl) rfl rfl rfl ?_
              refine D_f rfl (fun _ _ => by first | exact y_lenc tab (by assumption) rfl rfl | exact y_lens tab rfl rfl | exact y_lenstr tab rfl rfl) rfl rfl rfl ?_
              refine D_f rfl (fun _ _ => y_ge rfl rfl) rfl rfl rfl ?_
              refine D_f rfl (fun _ _ => y_pick rfl rfl) rfl rfl rfl ?_
              refine D_f rfl (fun _ _ => y_move rfl) rfl rfl rfl ?_
              first | refine K_splitd 74 rfl (fun h7 => ?_) (fun h7 => ?_) | refine K_split 74 rfl (fun h7 => ?_) (fun h7 => ?_)
              ·
                exfalso; omega
              ·
                refine D_f rfl (fun _ _ => y_move rfl) rfl rfl rfl ?_
                refine D_f rfl (fun _ _ => y_move rfl) rfl rfl rfl ?_
                refine D_f rfl (fun _ _ => y_ixi tab hr.top rfl rfl rfl rfl (by omega)) rfl rfl rfl ?_
                refine D_y rfl (hu ▸ y_load rfl (ld_vi (i := m) tab (hr.top.mono hJ) rfl (by omega))) rfl rfl rfl ?_
                refine D_f rfl (fun _ _ => y_move rfl) rfl rfl rfl ?_
                refine D_f rfl (fun _ _ => y_move rfl) rfl rfl rfl ?_
                refine D_f rfl (fun _ _ => y_ixi tab hcr rfl rfl rfl rfl (by omega)) rfl rfl rfl ?_
                refine D_y rfl (y_load rfl (ld_ii (i := k) tab hcr rfl hkl)) rfl rfl rfl ?_
                refine D_a1 (fun _ h => h.sublist (by repeat first | exact List.nil_sublist _ | exact List.Sublist.refl _ | apply List.Sublist.cons_cons | apply List.Sublist.cons)) rfl (a_call (enters_of Tryd.func21 (by kernel_rfl) rfl) rfl (f21_ok (Rdb.ofRowI hru)) rfl ?_) rfl
                rintro _ _ _ - ⟨rfl, rfl, rfl⟩
                rw [decide_eq_true hnx]
                refine D_f rfl (fun _ _ => y_not rfl) rfl rfl rfl ?_
                refine D_f rfl (fun _ _ => y_pick rfl rfl) rfl rfl rfl ?_
                refine D_f rfl (fun _ _ => y_move rfl) rfl rfl rfl ?_
                refine K_split 86 rfl (fun h8 => ?_) (fun h8 => ?_)
                ·
                  cases h8
                ·
                  refine D_f rfl (fun _ _ => y_move rfl) rfl rfl rfl ?_
                  refine D_f rfl (fun _ _ => y_move rfl) rfl rfl rfl ?_
                  refine D_f rfl (fun _ _ => y_slN 0 k (y_sli tab hcr rfl rfl rfl rfl rfl (by omega)) (by omega)) rfl rfl rfl ?_
                  refine D_f rfl (fun _ _ => y_move rfl) rfl rfl rfl ?_
                  refine D_f rfl (fun _ _ => y_move rfl) rfl rfl rfl ?_
                  refine D_f rfl (fun _ _ => y_ixi tab hcr rfl rfl rfl rfl (by omega)) rfl rfl rfl ?_
                  refine D_y rfl (y_load rfl (ld_ii (i := k) tab hcr rfl hkl)) rfl rfl rfl ?_
                  refine D_a1 (fun _ h => h.sublist (by repeat first | exact List.nil_sublist _ | exact List.Sublist.refl _ | apply List.Sublist.cons_cons | apply List.Sublist.cons)) rfl (a_call (enters_of Tryd.func21 (by kernel_rfl) rfl) rfl (f21_ok (Rdb.ofRowI hcut)) rfl ?_) rfl
                  rintro _ _ _ - ⟨rfl, rfl, rfl⟩
                  rw [decide_eq_false (not_mem_take hcy.nodup hkl)]
                  refine D_f rfl (fun _ _ => y_pick rfl rfl) rfl rfl rfl ?_
                  refine D_nil (fun _ h => h.sublist (by repeat first | exact List.nil_sublist _ | exact List.Sublist.refl _ | apply List.Sublist.cons_cons | apply List.Sublist.cons)) ?_
                  refine K_then ?_
                  refine K_cond rfl (fun h9 => ?_) (fun h9 => ?_)
                  ·
                    cases h9
                  ·
                    refine K_skip ?_
                    refine K_in ?_
                    refine K_then ?_
                    refine K_region ?_
                    refine W_y (y_move rfl) rfl rfl rfl ?_
                    refine W_y (y_add rfl rfl (by omega)) rfl rfl rfl ?_
                    refine W_y (y_assign rfl) rfl rfl rfl ?_
                    refine K_nil ?_
                    refine K_thenA ?_
                    exact K_back (k + 1) rfl (by repeat first | exact .nil _ | refine .cons rfl ?_) rfl (by omega) (by first | omega | (simp only; omega))
      ·
        have hke : k = xs.length := by omega
        subst hke
        refine K_exit ?_
        refine K_then_exit ?_
        refine K_then_exit ?_
        refine K_in_exit ?_
        refine K_then ?_
        refine K_seq ?_
        refine K_region ?_
        refine W_a (a_call (enters_of Tryd.func19 (by kernel_rfl) rfl) rfl (f19_ok (hg.mono hJ)) rfl ?_) rfl
        rintro _ J7 _ hJ7 ⟨rfl, rfl⟩
        refine W_y (y_assign rfl) rfl rfl rfl ?_
        refine K_nil ?_
        refine K_then ?_
        refine K_ret ?_
        refine K_out1 rfl (.tmp rfl) ?_
        exact fun w hw => ⟨_, _, _, rfl, hJ.trans hJ7, hw, rfl⟩
end Go.Proofs.YtfnmcpgajjkemaaDoor
