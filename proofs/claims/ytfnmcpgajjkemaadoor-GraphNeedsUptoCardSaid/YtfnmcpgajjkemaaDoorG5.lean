/- graph.Cycle. Printed by wip/gen/g5.py. -/
import Derived.Test.YtfnmcpgajjkemaaDoorG4
import Derived.Test.YtfnmcpgajjkemaaDoorLib
namespace Go.Proofs.YtfnmcpgajjkemaaDoor
open Go Go.RowKit Go.Proofs.YtfnmcpgajjkemaaDoor.SW
set_option maxRecDepth 100000
set_option maxHeartbeats 400000
theorem orderRes_163 {preds : List (List Int)} {ranks : List Int} (h : (orderRes preds ranks).2 = 163) : formOk preds ∧ (orderRes preds ranks).1 = orderL preds ranks ∧ (orderL preds ranks).length < preds.length := by
  unfold orderRes at h ⊢
  split at h
  · rename_i hc
    rw [if_pos hc]
    refine ⟨hc.2, rfl, ?_⟩
    simp only at h
    split at h
    · assumption
    · cases h
  · simp at h
theorem orderL_range {preds : List (List Int)} {ranks : List Int} : ∀ k, k < (orderL preds ranks).length → 0 ≤ (orderL preds ranks).getD k 0 ∧ (orderL preds ranks).getD k 0 < preds.length := fun _ hk =>
  (orderL_onWay (preds := preds) (ranks := ranks)).1.range _ (getD_mem 0 hk)
theorem f20_ok {I : Imm} {l : List Itm} {v : Value} {vs : List SV} {preds : List (List Int)} (hr : RowII eInt I v vs preds) (hm : preds.length * 32 ≤ 140737488355000) :
    Ct Tryd.prog 20 [v] I l (fun r _ m => ∃ xs, ((orderRes preds (List.replicate preds.length 0)).2 ≠ 163 ∧ xs = [] ∨ (orderRes preds (List.replicate preds.length 0)).2 = 163 ∧ CycOk preds xs) ∧ m = row eInt 3 r xs :: l) := by
  refine Ct_enter Tryd.func20 rfl rfl rfl ?_
  have hl := hr.len
  have hc := hr.top.sc
  rw [hl] at hc
  refine K_seq ?_
  refine K_region ?_
  refine W_y (y_assign rfl) rfl rfl rfl ?_
  refine K_nil ?_
  refine K_then ?_
  refine K_seq ?_
  refine K_region ?_
  refine W_y (y_move rfl) rfl rfl rfl ?_
  refine W_y (y_move rfl) rfl rfl rfl ?_
  refine W_y (by first | exact y_lenc tab (by assumption) rfl rfl | exact y_lens tab rfl rfl | exact y_lenstr tab rfl rfl) rfl rfl rfl ?_
  refine W_a (a_mk (e := eInt) (z0 := 0) tab rfl rfl rfl rfl rfl (by omega) rfl ?_) rfl
  intro b16
  refine K_give (fun J0 hJ0 hz => ?_)
  have hr0 := hr.mono hJ0
  refine W_a (a_call (enters_of Tryd.func13 (by kernel_rfl) rfl) rfl (f13_ok hr0 hz hm) rfl ?_) rfl
  rintro _ J1 _ hJ1 ⟨ov, rfl, rfl⟩
  refine W_y (y_move rfl) rfl rfl rfl ?_
  refine W_y (y_extract rfl rfl) rfl rfl rfl ?_
  refine W_y (y_extract rfl rfl) rfl rfl rfl ?_
  refine W_y (y_assign rfl) rfl rfl rfl ?_
  refine W_y (y_assign rfl) rfl rfl rfl ?_
  refine K_nil ?_
  refine K_then ?_
  refine K_seq ?_
  refine K_seq ?_
  refine K_region ?_
  refine W_y (y_move rfl) rfl rfl rfl ?_
  refine W_y (by first | exact y_ne rfl rfl | exact y_sne rfl rfl) rfl rfl rfl ?_
  refine K_nil ?_
  refine K_then ?_
  first | refine K_if rfl (fun h1 => ?_) (fun h1 => ?_) | refine K_ifn rfl (fun h1 => ?_) (fun h1 => ?_) | refine K_cond rfl (fun h1 => ?_) (fun h1 => ?_)
  ·
    have hne := h1
    refine K_seq ?_
    refine K_drop (K_nilrow eInt 3 ?_)
    refine K_region ?_
    refine W_y (y_assign rfl) rfl rfl rfl ?_
    refine K_nil ?_
    refine K_then ?_
    refine K_ret ?_
    refine K_then_ret ?_
    refine K_out1 rfl (.tmp rfl) ?_
    first
      | exact fun w hw => ⟨_, _, _, rfl, hJ0.trans hJ1, hw, [], .inl ⟨hne, rfl⟩, rfl⟩
      | exact fun w hw => ⟨_, _, _, rfl, hJ.trans hJ4, hw, _, .inr ⟨h163, hC.cyc rfl hil hix⟩, rfl⟩
  ·
    have h163 := h1
    obtain ⟨hf, hoe, hlt⟩ := orderRes_163 h163
    rw [hoe]
    refine K_skip ?_
    refine K_then ?_
    refine K_seq ?_
    refine K_give (fun J2 hJ2 ho => ?_)
    refine K_region ?_
    refine W_y (y_move rfl) rfl rfl rfl ?_
    refine W_y (by first | exact y_lenc tab (by assumption) rfl rfl | exact y_lens tab rfl rfl | exact y_lenstr tab rfl rfl) rfl rfl rfl ?_
    refine W_y (y_move rfl) rfl rfl rfl ?_
    refine W_a (a_call (enters_of Tryd.func29 (by kernel_rfl) rfl) rfl (f29_ok (n := preds.length) ho (by omega) orderL_range) rfl ?_) rfl
    rintro v25 _ _ - ⟨rfl, rfl⟩
    refine K_give (fun J3 hJ3 hrest => ?_)
    have hJ := hJ0.trans (hJ1.trans (hJ2.trans hJ3))
    have hr3 := hr.mono hJ
    have hR0 := leftP_ne hlt
    have hRn := leftK_len (orderL preds (List.replicate preds.length 0)) preds.length
    change (leftP preds.length (orderL preds (List.replicate preds.length 0))).length ≤ preds.length at hRn
    refine W_y (y_assign rfl) rfl rfl rfl ?_
    refine K_nil ?_
    refine K_then ?_
    refine K_seq ?_
    refine K_region ?_
    refine W_y (y_assign rfl) rfl rfl rfl ?_
    refine K_nil ?_
    refine K_then ?_
    refine K_seq ?_
    refine K_region ?_
    refine W_y (y_move rfl) rfl rfl rfl ?_
    refine W_y (y_ixi tab hrest rfl rfl rfl rfl ⟨by omega, by omega⟩) rfl rfl rfl ?_
    refine W_y (y_load rfl (ld_ii (i := 0) tab hrest rfl hR0)) rfl rfl rfl ?_
    refine W_y (y_assign rfl) rfl rfl rfl ?_
    refine K_nil ?_
    refine K_then ?_
    refine K_seq ?_
    refine K_block ?_
    refine K_nilrow eInt 3 ?_
    refine K_lp (σ := Value × List Int × Int) (fun s => J3) (fun s => [(0, v), (5, v25), (6, s.1), (7, .int .i64 s.2.2)]) (fun s => row eInt 3 s.1 s.2.1 :: l) (fun s => Chain preds (leftP preds.length (orderL preds (List.replicate preds.length 0))) s.2.1 s.2.2) (fun s => (leftP preds.length (orderL preds (List.replicate preds.length 0))).length - s.2.1.length) (.slice none 0 0, [], (leftP preds.length (orderL preds (List.replicate preds.length 0))).getD 0 0) rfl (by repeat first | exact .nil _ | refine .cons rfl ?_) rfl (Chain.start (getD_mem 0 hR0)) ?_
    rintro ⟨wv, way, x⟩ hC
    simp only at hC ⊢
    refine K_seq ?_
    refine K_seq ?_
    refine K_region ?_
    refine W_y (y_move rfl) rfl rfl rfl ?_
    refine W_y (y_move rfl) rfl rfl rfl ?_
    refine W_a (a_call (enters_of Tryd.func30 (by kernel_rfl) rfl) rfl (c_contains (Cl.ofRow .here)) rfl ?_) rfl
    rintro _ _ _ - ⟨rfl, rfl, rfl⟩
    refine W_y (y_not rfl) rfl rfl rfl ?_
    refine K_nil ?_
    refine K_then ?_
    first | refine K_if rfl (fun h2 => ?_) (fun h2 => ?_) | refine K_ifn rfl (fun h2 => ?_) (fun h2 => ?_) | refine K_cond rfl (fun h2 => ?_) (fun h2 => ?_)
    ·
      have hnin := h2
      have hx := leftP_mem.1 hC.here
      have hlen := hC.len hnin
      have hxn : x.toNat < preds.length := by omega
      obtain ⟨u, hu⟩ : ∃ u, u = (vs.getD x.toNat svnil).1 := ⟨_, rfl⟩
      have hru := hr3.at_ x.toNat hxn
      rw [← hu] at hru
      have hcu := hru.sc
      have hmu := hru.max
      simp only [maxLen] at hmu
      refine K_skip ?_
      refine K_then ?_
      refine K_block ?_
      refine K_seq ?_
      refine K_region ?_
      refine W_y (y_move rfl) rfl rfl rfl ?_
      refine W_y (y_move rfl) rfl rfl rfl ?_
      refine W_a (a_bs (e := eInt) (xs := [x]) (os := [.tmp 34]) tab rfl rfl rfl rfl rfl rfl rfl rfl rfl ?_) rfl
      intro b35
      refine K_f1 ?_
      refine W_a (a_app (e := eInt) (ys := [x]) tab rfl rfl rfl rfl rfl (rd_rowall .here) (by simp only [List.length_singleton]; omega) rfl ?_) rfl
      intro v36
      refine K_f1 (K_drop ?_)
      refine W_y (y_assign rfl) rfl rfl rfl ?_
      refine K_nil ?_
      refine K_then ?_
      refine K_seq ?_
      refine K_region ?_
      refine W_y (y_move rfl) rfl rfl rfl ?_
      refine W_y (y_move rfl) rfl rfl rfl ?_
      refine W_y (y_ixi tab hr3.top rfl rfl rfl rfl (by omega)) rfl rfl rfl ?_
      refine W_y (hu ▸ y_load rfl (ld_vi (i := x.toNat) tab hr3.top rfl (by omega))) rfl rfl rfl ?_
      refine W_y (by first | exact y_lenc tab (by assumption) rfl rfl | exact y_lens tab rfl rfl | exact y_lenstr tab rfl rfl) rfl rfl rfl ?_
      refine W_y (y_move rfl) rfl rfl rfl ?_
      refine K_nil ?_
      refine K_then ?_
      refine K_block ?_
      refine K_lp (σ := Nat) (fun s => J3) (fun s => [(0, v), (5, v25), (6, v36), (7, .int .i64 x), (40, u), (41, .int .i64 (preds.getD x.toNat []).length), (42, .int .i64 s)]) (fun s => row eInt 3 v36 (way ++ [x]) :: l) (fun s => s ≤ (preds.getD x.toNat []).length ∧ ∀ k, k < s → (preds.getD x.toNat []).getD k 0 ∉ leftP preds.length (orderL preds (List.replicate preds.length 0))) (fun s => (preds.getD x.toNat []).length - s) 0 rfl (by repeat first | exact .nil _ | refine .cons rfl ?_) rfl ⟨Nat.zero_le _, fun k h => absurd h (Nat.not_lt_zero k)⟩ ?_
      rintro j ⟨hj, hno⟩
      refine K_seq ?_
      refine K_region ?_
      refine W_y (y_lt rfl rfl) rfl rfl rfl ?_
      refine K_nil ?_
      refine K_then ?_
      refine K_seq ?_
      first | refine K_if rfl (fun h3 => ?_) (fun h3 => ?_) | refine K_ifn rfl (fun h3 => ?_) (fun h3 => ?_) | refine K_cond rfl (fun h3 => ?_) (fun h3 => ?_)
      ·
        refine K_skip ?_
        refine K_then ?_
        refine K_seq ?_
        refine K_block ?_
        refine K_seq ?_
        refine K_region ?_
        refine W_y (y_ixi tab hru rfl rfl rfl rfl (by omega)) rfl rfl rfl ?_
        refine W_y (y_load rfl (ld_ii (i := j) tab hru rfl (by omega))) rfl rfl rfl ?_
        obtain ⟨p, hp⟩ : ∃ p, p = (preds.getD x.toNat []).getD j 0 := ⟨_, rfl⟩
        rw [← hp]
        refine W_y (y_assign rfl) rfl rfl rfl ?_
        refine K_nil ?_
        refine K_then ?_
        refine K_seq ?_
        refine K_region ?_
        refine W_y (y_move rfl) rfl rfl rfl ?_
        refine W_y (y_move rfl) rfl rfl rfl ?_
        refine W_a (a_call (enters_of Tryd.func31 (by kernel_rfl) rfl) rfl (c_bsearch (Cl.ofRowI hrest) (leftP_sorted _ _) (by omega)) rfl ?_) rfl
        rintro _ _ _ - ⟨rfl, rfl, rfl⟩
        refine W_y (y_move rfl) rfl rfl rfl ?_
        refine W_y (y_extract rfl rfl) rfl rfl rfl ?_
        refine W_y (y_extract rfl rfl) rfl rfl rfl ?_
        refine W_y (y_assign rfl) rfl rfl rfl ?_
        refine W_y (y_assign rfl) rfl rfl rfl ?_
        refine K_nil ?_
        refine K_then ?_
        refine K_seq ?_
        refine K_region ?_
        refine W_y (y_move rfl) rfl rfl rfl ?_
        refine K_nil ?_
        refine K_then ?_
        first | refine K_if rfl (fun h4 => ?_) (fun h4 => ?_) | refine K_ifn rfl (fun h4 => ?_) (fun h4 => ?_) | refine K_cond rfl (fun h4 => ?_) (fun h4 => ?_)
        ·
          have hpr := h4
          refine K_seq ?_
          refine K_region ?_
          refine W_y (y_move rfl) rfl rfl rfl ?_
          refine W_y (y_assign rfl) rfl rfl rfl ?_
          refine K_nil ?_
          refine K_then ?_
          refine K_exit ?_
          refine K_in_past rfl ?_
          refine K_then_exit ?_
          refine K_then_exit ?_
          refine K_in_exit ?_
          refine K_in ?_
          refine K_thenA ?_
          exact K_back (v36, way ++ [x], p) rfl (by repeat first | exact .nil _ | refine .cons rfl ?_) rfl (hC.step hnin (by rw [hp]; exact getD_mem 0 (by omega)) hpr) (by simp only [List.length_append, List.length_singleton]; omega)
        ·
          have hpr := h4
          refine K_skip ?_
          refine K_in ?_
          refine K_then ?_
          refine K_region ?_
          refine W_y (y_add rfl rfl (by omega)) rfl rfl rfl ?_
          refine W_y (y_move rfl) rfl rfl rfl ?_
          refine K_nil ?_
          refine K_thenA ?_
          exact K_back (j + 1) rfl (by repeat first | exact .nil _ | refine .cons rfl ?_) rfl ⟨by omega, all_succ hno (by rw [← hp]; exact hpr)⟩ (by first | omega | (simp only; omega))
      ·
        exfalso
        obtain ⟨p, hp, hpr⟩ := left_waits hf hC.here
        obtain ⟨k, hk, hke⟩ := List.mem_iff_getElem.1 hp
        refine hno k (by omega) ?_
        rw [List.getD_eq_getElem?_getD, List.getElem?_eq_getElem hk, Option.getD_some, hke]; exact hpr
    ·
      have hin := h2
      refine K_exit ?_
      refine K_then_exit ?_
      refine K_then_exit ?_
      refine K_in_exit ?_
      refine K_then ?_
      refine K_seq ?_
      refine K_region ?_
      refine W_a (a_bs0 (e := eInt) tab rfl rfl rfl ?_) rfl
      intro b55
      refine K_f1 (K_give (fun J4 hJ4 hway => ?_))
      obtain ⟨i, hie, hil, hix⟩ := idxOf_mem hin
      have hcut := hway.cut (i := i) (j := way.length) ⟨by omega, Nat.le_refl _⟩
      rw [List.take_length] at hcut
      have hwl := nodup_le hC.nodup hC.mem
      refine W_y (y_move rfl) rfl rfl rfl ?_
      refine W_y (y_move rfl) rfl rfl rfl ?_
      refine W_y (y_move rfl) rfl rfl rfl ?_
      refine W_a (a_call (enters_of Tryd.func32 (by kernel_rfl) rfl) rfl (c_index (Cl.ofRowI hway)) rfl ?_) rfl
      rintro _ _ _ - ⟨rfl, rfl, rfl⟩
      rw [hie]
      refine W_y (y_slN i way.length (y_sli tab hway rfl rfl rfl rfl rfl (by omega)) (by omega)) rfl rfl rfl ?_
      refine W_a (a_appi (e := eInt) tab hcut rfl rfl rfl rfl rfl (by simp only [List.length_nil, List.length_drop]; omega) rfl ?_) rfl
      intro v61
      rw [List.nil_append]
      refine W_y (y_assign rfl) rfl rfl rfl ?_
      refine K_nil ?_
      refine K_then ?_
      refine K_seq ?_
      refine K_region ?_
      refine W_y (y_move rfl) rfl rfl rfl ?_
      refine W_a (a_call (enters_of Tryd.func33 (by kernel_rfl) rfl) rfl (c_reverse) rfl ?_) rfl
      rintro _ _ _ - ⟨rfl, rfl⟩
      refine K_nil ?_
      refine K_then ?_
      refine K_seq ?_
      refine K_region ?_
      refine W_y (y_move rfl) rfl rfl rfl ?_
      refine W_y (y_assign rfl) rfl rfl rfl ?_
      refine K_nil ?_
      refine K_then ?_
      refine K_ret ?_
      refine K_out1 rfl (.tmp rfl) ?_
      first
        | exact fun w hw => ⟨_, _, _, rfl, hJ0.trans hJ1, hw, [], .inl ⟨hne, rfl⟩, rfl⟩
        | exact fun w hw => ⟨_, _, _, rfl, hJ.trans hJ4, hw, _, .inr ⟨h163, hC.cyc rfl hil hix⟩, rfl⟩
end Go.Proofs.YtfnmcpgajjkemaaDoor
