/- GraphOrders. Printed by wip/gen/g18.py. -/
import Derived.Test.YtfnmcpgajjkemaaDoorG17
namespace Go.Proofs.YtfnmcpgajjkemaaDoor
open Go Go.RowKit Go.Proofs.YtfnmcpgajjkemaaDoor.SW
set_option maxRecDepth 100000
set_option maxHeartbeats 400000
theorem orderRes_len (preds : List (List Int)) (ranks : List Int) : (orderRes preds ranks).1.length ≤ preds.length := by
  unfold orderRes
  split
  · exact (orderL_onWay (preds := preds) (ranks := ranks)).1.le
  · exact Nat.zero_le _
/-- What the laws of graphs take. -/
structure Few (preds : List (List Int)) : Prop where
  len : preds.length ≤ 1048576
  row : ∀ i, i < preds.length → (preds.getD i []).length ≤ 1048576
theorem Few.rows {preds : List (List Int)} (h : Few preds) : ∀ i, i < preds.length → (preds.getD i []).length * 8 ≤ 140737488355328 := fun i hi => by have := h.row i hi; omega
theorem f3_ok {I : Imm} {l : List Itm} {v rv : Value} {vs : List SV} {preds : List (List Int)} {ranks : List Int} (hg : GlobI I) (hr : RowII eInt I v vs preds) (hk : RowI eInt I rv ranks) (hF : Few preds) (hG : ranks.length ≤ 1048576) :
    Ct Tryd.prog 3 [v, rv] I l (fun r _ _ => r = .bool true) := by
  refine Ct_enter Tryd.func3 rfl rfl rfl ?_
  have hl1 := hF.len
  have hol := orderRes_len preds ranks
  have htk : ((ranks ++ [-77, -77]).take ranks.length).drop 0 = ranks := by simp
  refine K_seq ?_
  refine K_region ?_
  refine W_y (y_assign rfl) rfl rfl rfl ?_
  refine K_nil ?_
  refine K_then ?_
  refine K_seq ?_
  refine K_region ?_
  refine W_y (y_move rfl) rfl rfl rfl ?_
  refine W_y (y_move rfl) rfl rfl rfl ?_
  refine W_a (a_call (enters_of Tryd.func10 (by kernel_rfl) rfl) rfl (f10_ok hr hk (by omega)) rfl ?_) rfl
  rintro _ _ _ - ⟨wv, rfl, rfl, rfl⟩
  refine W_y (y_move rfl) rfl rfl rfl ?_
  refine W_y (y_extract rfl rfl) rfl rfl rfl ?_
  refine W_y (y_extract rfl rfl) rfl rfl rfl ?_
  refine W_y (y_assign rfl) rfl rfl rfl ?_
  refine W_y (y_assign rfl) rfl rfl rfl ?_
  refine K_nil ?_
  refine K_then ?_
  refine K_seq ?_
  refine K_region ?_
  refine W_y (y_move rfl) rfl rfl rfl ?_
  refine W_a (a_call (enters_of Tryd.func11 (by kernel_rfl) rfl) rfl (f11_ok hr (by omega) hF.rows) rfl ?_) rfl
  rintro xv J1 _ hJ1 ⟨⟨xvs, hxr⟩, rfl⟩
  refine W_y (y_move rfl) rfl rfl rfl ?_
  refine W_a (a_call (enters_of Tryd.func12 (by kernel_rfl) rfl) rfl (f12_ok (hk.mono hJ1) (by omega)) rfl ?_) rfl
  rintro _ _ _ - ⟨u, rfl, rfl, rfl⟩
  refine W_y (y_assign rfl) rfl rfl rfl ?_
  refine W_y (y_assign rfl) rfl rfl rfl ?_
  refine K_nil ?_
  refine K_then ?_
  refine K_seq ?_
  refine K_region ?_
  refine W_y (y_move rfl) rfl rfl rfl ?_
  refine W_y (y_move rfl) rfl rfl rfl ?_
  refine W_a (a_call (enters_of Tryd.func13 (by kernel_rfl) rfl) rfl (Ct.lend (fun I' hI' hu' => f13_ok (hxr.mono hI') (by have := hu'.cut (i := 0) (j := ranks.length) ⟨Nat.zero_le _, by simp⟩; rw [htk] at this; exact this) (by omega))) rfl ?_) rfl
  rintro _ J2 _ hJ2 ⟨_, _, ⟨ov, rfl, rfl⟩, rfl⟩
  refine W_y (y_move rfl) rfl rfl rfl ?_
  refine W_y (y_extract rfl rfl) rfl rfl rfl ?_
  refine W_y (y_extract rfl rfl) rfl rfl rfl ?_
  refine W_y (y_assign rfl) rfl rfl rfl ?_
  refine W_y (y_assign rfl) rfl rfl rfl ?_
  refine K_nil ?_
  refine K_then ?_
  refine K_seq ?_
  refine K_seq ?_
  refine K_region ?_
  refine W_y (y_move rfl) rfl rfl rfl ?_
  refine W_y (y_move rfl) rfl rfl rfl ?_
  refine W_a (a_call (enters_of Tryd.func14 (by kernel_rfl) rfl) rfl (f14_ok (hxr.mono hJ2) (hr.mono (hJ1.trans hJ2))) rfl ?_) rfl
  rintro _ _ _ - ⟨rfl, rfl, rfl⟩
  rw [decide_eq_true (rfl : preds = preds)]
  refine W_y (y_not rfl) rfl rfl rfl ?_
  refine W_y (y_move rfl) rfl rfl rfl ?_
  refine K_split 33 rfl (fun h1 => ?_) (fun h1 => ?_)
  ·
    cases h1
  ·
    refine W_y (y_move rfl) rfl rfl rfl ?_
    refine W_y (y_move rfl) rfl rfl rfl ?_
    refine W_a (a_call (enters_of Tryd.func15 (by kernel_rfl) rfl) rfl (f15_ok (hk.mono (hJ1.trans hJ2)) (by omega)) rfl ?_) rfl
    rintro _ _ _ - ⟨rfl, rfl, zs, rfl⟩
    refine K_drop ?_
    refine W_y (y_not rfl) rfl rfl rfl ?_
    refine W_y (y_pick rfl rfl) rfl rfl rfl ?_
    refine K_nil ?_
    refine K_then ?_
    refine K_cond rfl (fun h2 => ?_) (fun h2 => ?_)
    ·
      cases h2
    ·
      refine K_skip ?_
      refine K_then ?_
      refine K_seq ?_
      refine K_region ?_
      refine W_y (y_move rfl) rfl rfl rfl ?_
      refine W_a (a_call (enters_of Tryd.func11 (by kernel_rfl) rfl) rfl (f11_ok (hr.mono (hJ1.trans hJ2)) (by omega) hF.rows) rfl ?_) rfl
      rintro xv2 J3 _ hJ3 ⟨⟨xvs2, hxr2⟩, rfl⟩
      have hJ123 := hJ1.trans (hJ2.trans hJ3)
      refine W_y (y_move rfl) rfl rfl rfl ?_
      refine W_a (a_call (enters_of Tryd.func16 (by kernel_rfl) rfl) rfl (f16_ok (hk.mono hJ123) (by omega)) rfl ?_) rfl
      rintro kv _ _ - ⟨rfl, rfl⟩
      refine K_give (fun J4 hJ4 hkk => ?_)
      refine W_a (a_call (enters_of Tryd.func13 (by kernel_rfl) rfl) rfl (f13_ok (hxr2.mono hJ4) hkk (by omega)) rfl ?_) rfl
      rintro _ J5 _ hJ5 ⟨pv, rfl, rfl⟩
      refine W_y (y_move rfl) rfl rfl rfl ?_
      refine W_y (y_extract rfl rfl) rfl rfl rfl ?_
      refine W_y (y_extract rfl rfl) rfl rfl rfl ?_
      refine W_y (y_assign rfl) rfl rfl rfl ?_
      refine W_y (y_assign rfl) rfl rfl rfl ?_
      refine K_nil ?_
      refine K_then ?_
      refine K_seq ?_
      refine K_seq ?_
      refine K_rdb (.there .here) (fun hro => ?_)
      refine K_rdb (.there (.there .here)) (fun hrw => ?_)
      refine K_region ?_
      refine W_y (y_move rfl) rfl rfl rfl ?_
      refine W_y (y_move rfl) rfl rfl rfl ?_
      refine W_y (by first | exact y_ne rfl rfl | exact y_sne rfl rfl) rfl rfl rfl ?_
      refine W_y (y_move rfl) rfl rfl rfl ?_
      refine K_split 50 rfl (fun h3 => ?_) (fun h3 => ?_)
      ·
        simp at h3
      ·
        refine W_y (y_move rfl) rfl rfl rfl ?_
        refine W_y (y_move rfl) rfl rfl rfl ?_
        refine W_y (by first | exact y_ne rfl rfl | exact y_sne rfl rfl) rfl rfl rfl ?_
        refine W_y (y_pick rfl rfl) rfl rfl rfl ?_
        refine W_y (y_move rfl) rfl rfl rfl ?_
        refine K_split 55 rfl (fun h4 => ?_) (fun h4 => ?_)
        ·
          simp at h4
        ·
          refine W_y (y_move rfl) rfl rfl rfl ?_
          refine W_y (y_move rfl) rfl rfl rfl ?_
          refine W_a (a_call (enters_of Tryd.func17 (by kernel_rfl) rfl) rfl (f17_ok hro hrw) rfl ?_) rfl
          rintro _ _ _ - ⟨rfl, rfl, rfl⟩
          rw [decide_eq_true (rfl : (orderRes preds ranks).1 = (orderRes preds ranks).1)]
          refine W_y (y_not rfl) rfl rfl rfl ?_
          refine W_y (y_pick rfl rfl) rfl rfl rfl ?_
          refine K_nil ?_
          refine K_then ?_
          refine K_cond rfl (fun h5 => ?_) (fun h5 => ?_)
          ·
            cases h5
          ·
            refine K_skip ?_
            refine K_then ?_
            refine K_seq ?_
            refine K_f1 ?_
            refine K_region ?_
            refine W_y (y_move rfl) rfl rfl rfl ?_
            refine W_a (a_call (enters_of Tryd.func18 (by kernel_rfl) rfl) rfl (f18_ok (by omega)) rfl ?_) rfl
            rintro _ _ _ - ⟨rfl, rfl⟩
            refine K_nil ?_
            refine K_then ?_
            refine K_seq ?_
            refine K_rdb .here (fun hrp2 => ?_)
            refine K_rdb (.there .here) (fun hrw2 => ?_)
            refine K_region ?_
            refine W_y (y_move rfl) rfl rfl rfl ?_
            refine W_y (y_move rfl) rfl rfl rfl ?_
            refine W_a (a_call (enters_of Tryd.func17 (by kernel_rfl) rfl) rfl (f17_ok hrp2 hrw2) rfl ?_) rfl
            rintro _ _ _ - ⟨rfl, rfl, rfl⟩
            rw [decide_eq_true (rfl : (orderRes preds ranks).1 = (orderRes preds ranks).1)]
            refine W_y (y_move rfl) rfl rfl rfl ?_
            refine K_split 66 rfl (fun h6 => ?_) (fun h6 => ?_)
            ·
              refine W_a (a_call (enters_of Tryd.func19 (by kernel_rfl) rfl) rfl (f19_ok (hg.mono (hJ123.trans (hJ4.trans hJ5)))) rfl ?_) rfl
              rintro _ J6 _ hJ6 ⟨rfl, rfl⟩
              refine W_y (y_pick rfl rfl) rfl rfl rfl ?_
              refine W_y (y_assign rfl) rfl rfl rfl ?_
              refine K_nil ?_
              refine K_then ?_
              refine K_ret ?_
              refine K_out1 rfl (.tmp rfl) ?_
              exact fun w hw => ⟨_, _, _, rfl, hJ123.trans (hJ4.trans (hJ5.trans hJ6)), hw, rfl⟩
            ·
              cases h6
end Go.Proofs.YtfnmcpgajjkemaaDoor
