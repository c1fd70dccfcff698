/- GraphNeeds. Printed by wip/gen/g26.py. -/
import Derived.Test.YtfnmcpgajjkemaaDoorG25
import Derived.Test.YtfnmcpgajjkemaaDoorPlan
namespace Go.Proofs.YtfnmcpgajjkemaaDoor
open Go Go.RowKit Go.Proofs.YtfnmcpgajjkemaaDoor.SW
set_option maxRecDepth 100000
set_option maxHeartbeats 400000
theorem size_pos_of {s : ByteArray} (h : ¬ s = ⟨#[]⟩) : 0 < s.size := by
  rcases Nat.eq_zero_or_pos s.size with h0 | h0
  · exfalso
    refine h (ByteArray.ext (Array.eq_empty_of_size_eq_zero ?_))
    exact h0
  · exact h0
theorem InstF.bare {I : Imm} {r : InstV} {p : InstP} (h : InstF I r p) : InstF I (wNeeds (wHas r true) svnil) (bare p) := ⟨⟨h.ok.name, h.ok.vars, RowI.nil _ _, h.ok.stage, rfl, h.ok.at_, fun n hn => (by cases hn), by show (0 : Nat) ≤ 1048576; omega⟩, h.vars, h.pick, h.rules⟩
def loneI (u : SV) : InstV := { inst0 with name := zzName, needs := u, has := true }
theorem lone_ok {I : Imm} {u : SV} {text : ByteArray} (h : RowI eNeed I u.1 [⟨text, hereF⟩]) (ht : text.size < 4294967281) : InstOk I (loneI u) (loneP text) := ⟨rfl, RowI.nil _ _, h, rfl, rfl, rfl, fun n hn => (by cases hn with | head => exact ht | tail _ h => cases h), by show (1 : Nat) ≤ 1048576; omega⟩
theorem insts_snoc {J : Imm} {v : Value} {rx : List InstV} {insts : List InstP} {r : InstV} {p : InstP} (hrow : RowI eInst J v (rx ++ [r])) (hl : rx.length = insts.length) (h : ∀ k, k < rx.length → InstOk J (rx.getD k inst0) (insts.getD k ip0)) (hp : InstOk J r p) (hm : insts.length < 1048576) : Insts J v (rx ++ [r]) (insts ++ [p]) :=
  ⟨hrow, by simp [hl], fun k hk => (by
    rw [List.length_append, List.length_singleton] at hk
    rcases Nat.lt_succ_iff_lt_or_eq.1 hk with h1 | rfl
    · rw [snoc_get (by omega), List.getD_eq_getElem?_getD, List.getElem?_append_left h1, ← List.getD_eq_getElem?_getD]; exact h k h1
    · rw [hl, snoc_last, ← hl, List.getD_eq_getElem?_getD, List.getElem?_append_right (Nat.le_refl _)]
      simpa using hp), by rw [List.length_append, List.length_singleton]; omega⟩
theorem ofP_no {job name : ByteArray} (h1 : ¬ name = job) (h2 : ¬ (job.size < name.size ∧ name.extract 0 (job.size + 1) = job ++ chB 91)) : ofP job name = false := by
  rw [ofP_miss h1]
  exact Bool.eq_false_iff.2 fun hp => h2 (preS_iff.1 hp)
theorem ofP_yes {job name : ByteArray} (h1 : ¬ name = job) (h2 : job.size < name.size) (h3 : name.extract 0 (job.size + 1) = job ++ chB 91) : ofP job name = true := by
  rw [ofP_miss h1]; exact preS_iff.2 ⟨h2, h3⟩
theorem means_one {job nm val name : ByteArray} {vars : List (ByteArray × ByteArray)} : meansP job [(nm, val)] name vars = (ofP job name && decide (getP vars nm = some val)) := by simp [meansP]
theorem means_nil {insts : List InstP} {job : ByteArray} : meansQ insts job [] = ofQ insts job := funext fun k => by simp [meansQ, meansP, ofQ]
theorem len_succ {q : Nat → Bool} {n : Nat} (h : q n = true) : (((allP q (n + 1)).length : Nat) : Int) = ((allP q n).length : Int) + 1 := by rw [allP_succ, if_pos h, List.length_append]; simp
theorem len_same {q : Nat → Bool} {n : Nat} (h : q n = false) : allP q (n + 1) = allP q n := by rw [allP_succ, if_neg (by rw [h]; decide)]
theorem f8_ok {I : Imm} {l : List Itm} {v : Value} {raws : List InstV} {insts : List InstP} {job nm val : ByteArray} (hg : GlobI I) (hi : Insts I v raws insts) (hF : ∀ k, k < raws.length → InstF I (raws.getD k inst0) (insts.getD k ip0)) (hN : ∀ k, k < raws.length → (insts.getD k ip0).name.size ≤ 1048576) (hone : raws.length < 1048576) (hj : job.size ≤ 1048576) (hm : nm.size ≤ 1048576) (hv : val.size ≤ 1048576) :
    Ct Tryd.prog 8 [v, .string job, .string nm, .string val] I l (fun r _ _ => r = .bool true) := by
  refine Ct_enter Tryd.func8 rfl rfl rfl ?_
  have hfew := hi.few
  have hlen := hi.len
  have hrow := hi.row
  have hc := hrow.sc
  have hch : ∀ c : UInt8, (⟨#[c]⟩ : ByteArray).size = 1 := fun _ => rfl
  refine K_seq ?_
  refine K_region ?_
  refine W_y (y_assign rfl) rfl rfl rfl ?_
  refine K_nil ?_
  refine K_then ?_
  refine K_seq ?_
  refine K_seq ?_
  refine K_region ?_
  refine W_y (y_move rfl) rfl rfl rfl ?_
  refine W_y (by first | exact y_lenc tab (by assumption) rfl rfl | exact y_lens tab rfl rfl | exact y_lenstr tab rfl rfl) rfl rfl rfl ?_
  refine W_y (y_gt rfl rfl) rfl rfl rfl ?_
  refine W_y (y_move rfl) rfl rfl rfl ?_
  first | refine K_splitd 27 rfl (fun h1 => ?_) (fun h1 => ?_) | refine K_split 27 rfl (fun h1 => ?_) (fun h1 => ?_)
  ·
    refine W_skip rfl rfl rfl ?_
    refine W_skip rfl rfl rfl ?_
    refine W_y (y_pick rfl rfl) rfl rfl rfl ?_
    refine W_y (y_move rfl) rfl rfl rfl ?_
    refine W_skip rfl rfl rfl ?_
    refine W_skip rfl rfl rfl ?_
    refine W_skip rfl rfl rfl ?_
    refine W_y (y_pick rfl rfl) rfl rfl rfl ?_
    refine K_nil ?_
    refine K_then ?_
    refine K_yes rfl ?_
    refine K_seq ?_
    refine K_region ?_
    refine W_a (a_call (enters_of Tryd.func19 (by kernel_rfl) rfl) rfl (f19_ok (hg)) rfl ?_) rfl
    rintro _ J9 _ hJ9 ⟨rfl, rfl⟩
    refine W_y (y_assign rfl) rfl rfl rfl ?_
    refine K_nil ?_
    refine K_then ?_
    refine K_ret ?_
    refine K_then_ret ?_
    refine K_out1 rfl (.tmp rfl) ?_
    first
      | exact fun w hw => ⟨_, _, _, rfl, hJ9, hw, rfl⟩
      | exact fun w hw => ⟨_, _, _, rfl, hIJ.trans hJ9, hw, rfl⟩
      | exact fun w hw => ⟨_, _, _, rfl, hIJ2.trans hJ9, hw, rfl⟩
  ·
    refine W_y (y_move rfl) rfl rfl rfl ?_
    refine W_y (by first | exact y_eq rfl rfl | exact y_seq rfl rfl) rfl rfl rfl ?_
    refine W_y (y_pick rfl rfl) rfl rfl rfl ?_
    refine W_y (y_move rfl) rfl rfl rfl ?_
    first | refine K_splitd 31 rfl (fun h2 => ?_) (fun h2 => ?_) | refine K_split 31 rfl (fun h2 => ?_) (fun h2 => ?_)
    ·
      refine W_skip rfl rfl rfl ?_
      refine W_skip rfl rfl rfl ?_
      refine W_skip rfl rfl rfl ?_
      refine W_y (y_pick rfl rfl) rfl rfl rfl ?_
      refine K_nil ?_
      refine K_then ?_
      refine K_yes rfl ?_
      refine K_seq ?_
      refine K_region ?_
      refine W_a (a_call (enters_of Tryd.func19 (by kernel_rfl) rfl) rfl (f19_ok (hg)) rfl ?_) rfl
      rintro _ J9 _ hJ9 ⟨rfl, rfl⟩
      refine W_y (y_assign rfl) rfl rfl rfl ?_
      refine K_nil ?_
      refine K_then ?_
      refine K_ret ?_
      refine K_then_ret ?_
      refine K_out1 rfl (.tmp rfl) ?_
      first
        | exact fun w hw => ⟨_, _, _, rfl, hJ9, hw, rfl⟩
        | exact fun w hw => ⟨_, _, _, rfl, hIJ.trans hJ9, hw, rfl⟩
        | exact fun w hw => ⟨_, _, _, rfl, hIJ2.trans hJ9, hw, rfl⟩
    ·
      have hjne := h2
      refine W_y (y_move rfl) rfl rfl rfl ?_
      refine W_y (by first | exact y_lenc tab (by assumption) rfl rfl | exact y_lens tab rfl rfl | exact y_lenstr tab rfl rfl) rfl rfl rfl ?_
      refine W_y (y_gt rfl rfl) rfl rfl rfl ?_
      refine W_y (y_pick rfl rfl) rfl rfl rfl ?_
      refine K_nil ?_
      refine K_then ?_
      first | refine K_if rfl (fun h3 => ?_) (fun h3 => ?_) | refine K_ifn rfl (fun h3 => ?_) (fun h3 => ?_) | refine K_cond rfl (fun h3 => ?_) (fun h3 => ?_)
      ·
        refine K_seq ?_
        refine K_region ?_
        refine W_a (a_call (enters_of Tryd.func19 (by kernel_rfl) rfl) rfl (f19_ok (hg)) rfl ?_) rfl
        rintro _ J9 _ hJ9 ⟨rfl, rfl⟩
        refine W_y (y_assign rfl) rfl rfl rfl ?_
        refine K_nil ?_
        refine K_then ?_
        refine K_ret ?_
        refine K_then_ret ?_
        refine K_out1 rfl (.tmp rfl) ?_
        first
          | exact fun w hw => ⟨_, _, _, rfl, hJ9, hw, rfl⟩
          | exact fun w hw => ⟨_, _, _, rfl, hIJ.trans hJ9, hw, rfl⟩
          | exact fun w hw => ⟨_, _, _, rfl, hIJ2.trans hJ9, hw, rfl⟩
      ·
        refine K_skip ?_
        refine K_then ?_
        refine K_seq ?_
        refine K_seq ?_
        refine K_region ?_
        refine W_y (y_assign rfl) rfl rfl rfl ?_
        refine K_nil ?_
        refine K_then ?_
        refine K_block ?_
        refine K_lp (σ := Nat) (fun s => I) (fun s => [(0, v), (1, .string job), (2, .string nm), (3, .string val), (9, .int .i64 s)]) (fun s => l) (fun s => s ≤ job.size ∧ ∀ i, i < s → 97 ≤ byteAt job i ∧ byteAt job i ≤ 122) (fun s => job.size - s) 0 rfl (by repeat first | exact .nil _ | refine .cons rfl ?_) rfl ⟨Nat.zero_le _, fun i h => absurd h (Nat.not_lt_zero i)⟩ ?_
        rintro k ⟨hk, hin⟩
        refine K_seq ?_
        refine K_seq ?_
        refine K_region ?_
        refine W_y (y_move rfl) rfl rfl rfl ?_
        refine W_y (y_move rfl) rfl rfl rfl ?_
        refine W_y (by first | exact y_lenc tab (by assumption) rfl rfl | exact y_lens tab rfl rfl | exact y_lenstr tab rfl rfl) rfl rfl rfl ?_
        refine W_y (y_lt rfl rfl) rfl rfl rfl ?_
        refine K_nil ?_
        refine K_then ?_
        first | refine K_if rfl (fun h4 => ?_) (fun h4 => ?_) | refine K_ifn rfl (fun h4 => ?_) (fun h4 => ?_) | refine K_cond rfl (fun h4 => ?_) (fun h4 => ?_)
        ·
          have hkl : k < job.size := by omega
          refine K_skip ?_
          refine K_then ?_
          refine K_seq ?_
          refine K_block ?_
          refine K_seq ?_
          refine K_region ?_
          refine W_y (y_move rfl) rfl rfl rfl ?_
          refine W_y (y_move rfl) rfl rfl rfl ?_
          refine W_y (y_sidx tab k rfl rfl rfl ⟨rfl, by omega⟩) rfl rfl rfl ?_
          refine W_y (y_lt rfl rfl) rfl rfl rfl ?_
          refine W_y (y_move rfl) rfl rfl rfl ?_
          first | refine K_splitd 47 rfl (fun h5 => ?_) (fun h5 => ?_) | refine K_split 47 rfl (fun h5 => ?_) (fun h5 => ?_)
          ·
            refine W_skip rfl rfl rfl ?_
            refine W_skip rfl rfl rfl ?_
            refine W_skip rfl rfl rfl ?_
            refine W_skip rfl rfl rfl ?_
            refine W_y (y_pick rfl rfl) rfl rfl rfl ?_
            refine K_nil ?_
            refine K_then ?_
            refine K_yes rfl ?_
            refine K_seq ?_
            refine K_region ?_
            refine W_a (a_call (enters_of Tryd.func19 (by kernel_rfl) rfl) rfl (f19_ok (hg)) rfl ?_) rfl
            rintro _ J9 _ hJ9 ⟨rfl, rfl⟩
            refine W_y (y_assign rfl) rfl rfl rfl ?_
            refine K_nil ?_
            refine K_then ?_
            refine K_ret ?_
            refine K_in_ret ?_
            refine K_then_ret ?_
            refine K_then_ret ?_
            refine K_in_ret ?_
            refine K_then_ret ?_
            refine K_out1 rfl (.tmp rfl) ?_
            first
              | exact fun w hw => ⟨_, _, _, rfl, hJ9, hw, rfl⟩
              | exact fun w hw => ⟨_, _, _, rfl, hIJ.trans hJ9, hw, rfl⟩
              | exact fun w hw => ⟨_, _, _, rfl, hIJ2.trans hJ9, hw, rfl⟩
          ·
            refine W_y (y_move rfl) rfl rfl rfl ?_
            refine W_y (y_move rfl) rfl rfl rfl ?_
            refine W_y (y_sidx tab k rfl rfl rfl ⟨rfl, by omega⟩) rfl rfl rfl ?_
            refine W_y (y_gt rfl rfl) rfl rfl rfl ?_
            refine W_y (y_pick rfl rfl) rfl rfl rfl ?_
            refine K_nil ?_
            refine K_then ?_
            first | refine K_if rfl (fun h6 => ?_) (fun h6 => ?_) | refine K_ifn rfl (fun h6 => ?_) (fun h6 => ?_) | refine K_cond rfl (fun h6 => ?_) (fun h6 => ?_)
            ·
              refine K_seq ?_
              refine K_region ?_
              refine W_a (a_call (enters_of Tryd.func19 (by kernel_rfl) rfl) rfl (f19_ok (hg)) rfl ?_) rfl
              rintro _ J9 _ hJ9 ⟨rfl, rfl⟩
              refine W_y (y_assign rfl) rfl rfl rfl ?_
              refine K_nil ?_
              refine K_then ?_
              refine K_ret ?_
              refine K_in_ret ?_
              refine K_then_ret ?_
              refine K_then_ret ?_
              refine K_in_ret ?_
              refine K_then_ret ?_
              refine K_out1 rfl (.tmp rfl) ?_
              first
                | exact fun w hw => ⟨_, _, _, rfl, hJ9, hw, rfl⟩
                | exact fun w hw => ⟨_, _, _, rfl, hIJ.trans hJ9, hw, rfl⟩
                | exact fun w hw => ⟨_, _, _, rfl, hIJ2.trans hJ9, hw, rfl⟩
            ·
              refine K_skip ?_
              refine K_in ?_
              refine K_then ?_
              refine K_region ?_
              refine W_y (y_move rfl) rfl rfl rfl ?_
              refine W_y (y_add rfl rfl (by omega)) rfl rfl rfl ?_
              refine W_y (y_assign rfl) rfl rfl rfl ?_
              refine K_nil ?_
              refine K_thenA ?_
              exact K_back (k + 1) rfl (by repeat first | exact .nil _ | refine .cons rfl ?_) rfl ⟨by omega, all_succ hin (by omega)⟩ (by first | omega | (simp only; omega))
        ·
          have hke : k = job.size := by omega
          subst hke
          have hLow : Low job := ⟨size_pos_of hjne, by omega, fun i hi => ⟨(hin i hi).1, (hin i hi).2⟩⟩
          refine K_exit ?_
          refine K_then_exit ?_
          refine K_then_exit ?_
          refine K_in_exit ?_
          refine K_then ?_
          refine K_seq ?_
          refine K_region ?_
          refine W_y (y_assign rfl) rfl rfl rfl ?_
          refine K_nil ?_
          refine K_then ?_
          refine K_seq ?_
          refine K_seq ?_
          refine K_region ?_
          refine W_y (y_assign rfl) rfl rfl rfl ?_
          refine K_nil ?_
          refine K_then ?_
          refine K_block ?_
          refine K_nilrow eInst 46 ?_
          refine K_lp (σ := Nat × Value × List InstV) (fun s => I) (fun s => [(0, v), (1, .string job), (2, .string nm), (3, .string val), (10, s.2.1), (11, .int .i64 s.1)]) (fun s => row eInst 46 s.2.1 s.2.2 :: l) (fun s => s.1 ≤ raws.length ∧ s.2.2.length = s.1 ∧ ∀ j, j < s.1 → InstF I (s.2.2.getD j inst0) (bare (insts.getD j ip0))) (fun s => raws.length - s.1) (0, .slice none 0 0, []) rfl (by repeat first | exact .nil _ | refine .cons rfl ?_) rfl ⟨Nat.zero_le _, rfl, fun j h => absurd h (Nat.not_lt_zero j)⟩ ?_
          rintro ⟨k, xv, rx⟩ ⟨hk, hrl, hx⟩
          simp only at hk hrl hx ⊢
          refine K_seq ?_
          refine K_seq ?_
          refine K_region ?_
          refine W_y (y_move rfl) rfl rfl rfl ?_
          refine W_y (y_move rfl) rfl rfl rfl ?_
          refine W_y (by first | exact y_lenc tab (by assumption) rfl rfl | exact y_lens tab rfl rfl | exact y_lenstr tab rfl rfl) rfl rfl rfl ?_
          refine W_y (y_lt rfl rfl) rfl rfl rfl ?_
          refine K_nil ?_
          refine K_then ?_
          first | refine K_if rfl (fun h7 => ?_) (fun h7 => ?_) | refine K_ifn rfl (fun h7 => ?_) (fun h7 => ?_) | refine K_cond rfl (fun h7 => ?_) (fun h7 => ?_)
          ·
            have hkl : k < raws.length := by omega
            have hFk := hF k hkl
            refine K_skip ?_
            refine K_then ?_
            refine K_seq ?_
            refine K_block ?_
            refine K_seq ?_
            refine K_region ?_
            refine W_y (y_move rfl) rfl rfl rfl ?_
            refine W_y (y_move rfl) rfl rfl rfl ?_
            refine W_y (y_ixi tab hrow rfl rfl rfl rfl (by omega)) rfl rfl rfl ?_
            refine W_y (y_load rfl (ld_rowia (i := k) tab hrow rfl rfl rfl rfl (get_of inst0 (by omega)))) rfl rfl rfl ?_
            refine W_a (a_alloc tab rfl rfl ?_) rfl
            intro b12
            refine W_a (a_stw (us := eInst.cells (raws.getD k inst0)) tab rfl rfl rfl rfl (eInst.one _) rfl ?_) rfl
            refine K_nil ?_
            refine K_then ?_
            refine K_seq ?_
            refine K_region ?_
            refine W_y (by first | exact y_fa tab rfl rfl rfl rfl rfl | exact y_fae tab (by assumption) rfl rfl rfl rfl rfl) rfl rfl rfl ?_
            refine W_a (a_st tab rfl rfl rfl rfl rfl rfl ?_) rfl
            rw [show (eInst.cells (raws.getD k inst0)).toArray.setIfInBounds 11 (.bool true) = (eInst.cells (wHas (raws.getD k inst0) true)).toArray from rfl]
            refine K_nil ?_
            refine K_then ?_
            refine K_seq ?_
            refine K_region ?_
            refine W_y (by first | exact y_fa tab rfl rfl rfl rfl rfl | exact y_fae tab (by assumption) rfl rfl rfl rfl rfl) rfl rfl rfl ?_
            refine W_a (a_st tab rfl rfl rfl rfl rfl rfl ?_) rfl
            rw [show (eInst.cells (wHas (raws.getD k inst0) true)).toArray.setIfInBounds 5 (.slice none 0 0) = (eInst.cells (wNeeds (wHas (raws.getD k inst0) true) svnil)).toArray from rfl]
            refine K_nil ?_
            refine K_then ?_
            refine K_region ?_
            refine W_y (y_move rfl) rfl rfl rfl ?_
            refine W_y (y_load rfl (ld_agg tab rfl rfl rfl (rd_all .here))) rfl rfl rfl ?_
            refine W_a (a_bs (e := eInst) (xs := [wNeeds (wHas (raws.getD k inst0) true) svnil]) (os := [.tmp 67]) tab rfl rfl rfl rfl rfl rfl rfl rfl rfl ?_) rfl
            intro b68
            refine K_f2 ?_
            refine W_a (a_app (e := eInst) (ys := [wNeeds (wHas (raws.getD k inst0) true) svnil]) tab rfl rfl rfl rfl rfl (rd_rowall .here) (by simp only [List.length_singleton]; omega) rfl ?_) rfl
            intro v69
            refine K_f1 (K_drop (K_f1 (K_drop ?_)))
            refine W_y (y_assign rfl) rfl rfl rfl ?_
            refine K_nil ?_
            refine K_in ?_
            refine K_then ?_
            refine K_region ?_
            refine W_y (y_move rfl) rfl rfl rfl ?_
            refine W_y (y_add rfl rfl (by omega)) rfl rfl rfl ?_
            refine W_y (y_assign rfl) rfl rfl rfl ?_
            refine K_nil ?_
            refine K_thenA ?_
            exact K_back (k + 1, v69, rx ++ [wNeeds (wHas (raws.getD k inst0) true) svnil]) rfl (by repeat first | exact .nil _ | refine .cons rfl ?_) rfl ⟨by simp only; omega, by simp only [List.length_append, List.length_singleton]; omega, snocs2 (Q := fun i x => InstF I x (bare (insts.getD i ip0))) hrl hx hFk.bare⟩ (by simp only; omega)
          ·
            have hke : k = raws.length := by omega
            subst hke
            refine K_give (fun J1 hJ1 hrx => ?_)
            have hF1 : ∀ j, j < rx.length → InstF J1 (rx.getD j inst0) ((insts.map bare).getD j ip0) := fun j hj => by rw [map_getD ip0 ip0 (by omega)]; exact (hx j (by omega)).mono hJ1
            have hI1 : Insts J1 xv rx (insts.map bare) := ⟨hrx, by rw [List.length_map]; omega, fun j hj => (hF1 j hj).ok, by omega⟩
            have hxc := hrx.sc
            have hml : (insts.map bare).length = insts.length := List.length_map ..
            have hbare : ∀ i, i < (insts.map bare).length → ((insts.map bare).getD i ip0).has = true ∧ ((insts.map bare).getD i ip0).needs = [] := fun i hi => by rw [map_getD ip0 ip0 (by simpa using hi)]; exact ⟨rfl, rfl⟩
            refine K_exit ?_
            refine K_then_exit ?_
            refine K_then_exit ?_
            refine K_in_exit ?_
            refine K_then ?_
            refine K_seq ?_
            refine K_region ?_
            refine W_y (y_assign rfl) rfl rfl rfl ?_
            refine K_nil ?_
            refine K_then ?_
            refine K_seq ?_
            refine K_region ?_
            refine W_y (y_assign rfl) rfl rfl rfl ?_
            refine K_nil ?_
            refine K_then ?_
            refine K_seq ?_
            refine K_seq ?_
            refine K_region ?_
            refine W_y (y_assign rfl) rfl rfl rfl ?_
            refine K_nil ?_
            refine K_then ?_
            refine K_block ?_
            refine K_nilrow eInt 3 ?_
            refine K_lp (σ := Nat × Value) (fun s => J1) (fun s => [(0, v), (1, .string job), (2, .string nm), (3, .string val), (10, xv), (13, .int .i64 ((allP (ofQ (insts.map bare) job) s.1).length : Int)), (14, s.2), (15, .int .i64 s.1)]) (fun s => row eInt 3 s.2 (allP (meansQ (insts.map bare) job [(nm, val)]) s.1) :: l) (fun s => s.1 ≤ raws.length) (fun s => raws.length - s.1) (0, .slice none 0 0) rfl (by repeat first | exact .nil _ | refine .cons rfl ?_) rfl (Nat.zero_le _) ?_
            rintro ⟨k, wv⟩ hk
            simp only at hk ⊢
            refine K_seq ?_
            refine K_seq ?_
            refine K_region ?_
            refine W_y (y_move rfl) rfl rfl rfl ?_
            refine W_y (y_move rfl) rfl rfl rfl ?_
            refine W_y (by first | exact y_lenc tab (by assumption) rfl rfl | exact y_lens tab rfl rfl | exact y_lenstr tab rfl rfl) rfl rfl rfl ?_
            refine W_y (y_lt rfl rfl) rfl rfl rfl ?_
            refine K_nil ?_
            refine K_then ?_
            first | refine K_if rfl (fun h8 => ?_) (fun h8 => ?_) | refine K_ifn rfl (fun h8 => ?_) (fun h8 => ?_) | refine K_cond rfl (fun h8 => ?_) (fun h8 => ?_)
            ·
              have hkl : k < raws.length := by omega
              have hcl := allP_len (ofQ (insts.map bare) job) k
              have hnm : (rx.getD k inst0).name = ((insts.map bare).getD k ip0).name := (hF1 k (by omega)).ok.name
              have hnk : ((insts.map bare).getD k ip0).name.size ≤ 1048576 := by rw [map_getD ip0 ip0 (by omega)]; exact hN k hkl
              obtain ⟨u, hu⟩ : ∃ u, u = (rx.getD k inst0).vars.1 := ⟨_, rfl⟩
              have hva := (hF1 k (by omega)).ok.vars
              rw [← hu] at hva
              have hvc := hva.sc
              have hvm := hva.max
              simp only [maxLen] at hvm
              refine K_skip ?_
              refine K_then ?_
              refine K_seq ?_
              refine K_block ?_
              refine K_seq ?_
              refine K_region ?_
              refine W_y (y_move rfl) rfl rfl rfl ?_
              refine W_y (y_move rfl) rfl rfl rfl ?_
              refine W_y (y_ixi tab hrx rfl rfl rfl rfl (by omega)) rfl rfl rfl ?_
              refine W_y (y_fae tab (hrx.sl (by omega)) rfl rfl rfl rfl rfl) rfl rfl rfl ?_
              refine W_y (y_load rfl (ld_rowi (e := eInst) (i := k) (j := 0) tab hrx rfl rfl (get_of inst0 (by omega)) rfl)) rfl rfl rfl ?_
              rw [hnm]
              refine W_y (y_move rfl) rfl rfl rfl ?_
              refine W_y (by first | exact y_eq rfl rfl | exact y_seq rfl rfl) rfl rfl rfl ?_
              refine W_y (y_move rfl) rfl rfl rfl ?_
              first | refine K_splitd 83 rfl (fun h9 => ?_) (fun h9 => ?_) | refine K_split 83 rfl (fun h9 => ?_) (fun h9 => ?_)
              ·
                have hof : ofP job ((insts.map bare).getD k ip0).name = true := ofP_hit h9
                have hcount := len_succ (q := (ofQ (insts.map bare) job)) (n := k) hof
                refine W_skip rfl rfl rfl ?_
                refine W_skip rfl rfl rfl ?_
                refine W_skip rfl rfl rfl ?_
                refine W_skip rfl rfl rfl ?_
                refine W_skip rfl rfl rfl ?_
                refine W_skip rfl rfl rfl ?_
                refine W_skip rfl rfl rfl ?_
                refine W_skip rfl rfl rfl ?_
                refine W_skip rfl rfl rfl ?_
                refine W_skip rfl rfl rfl ?_
                refine W_skip rfl rfl rfl ?_
                refine W_skip rfl rfl rfl ?_
                refine W_skip rfl rfl rfl ?_
                refine W_skip rfl rfl rfl ?_
                refine W_skip rfl rfl rfl ?_
                refine W_skip rfl rfl rfl ?_
                refine W_skip rfl rfl rfl ?_
                refine W_skip rfl rfl rfl ?_
                refine W_skip rfl rfl rfl ?_
                refine W_skip rfl rfl rfl ?_
                refine W_skip rfl rfl rfl ?_
                refine W_skip rfl rfl rfl ?_
                refine W_skip rfl rfl rfl ?_
                refine W_y (y_pick rfl rfl) rfl rfl rfl ?_
                refine K_nil ?_
                refine K_then ?_
                refine K_yes rfl ?_
                refine K_seq ?_
                refine K_region ?_
                refine W_y (y_move rfl) rfl rfl rfl ?_
                refine W_y (y_add rfl rfl (by omega)) rfl rfl rfl ?_
                refine W_y (y_assign rfl) rfl rfl rfl ?_
                refine K_nil ?_
                refine K_then ?_
                refine K_seq ?_
                refine K_region ?_
                refine W_y (y_assign rfl) rfl rfl rfl ?_
                refine K_nil ?_
                refine K_then ?_
                refine K_block ?_
                refine K_lp (σ := Nat) (fun s => J1) (fun s => [(0, v), (1, .string job), (2, .string nm), (3, .string val), (10, xv), (13, .int .i64 (((allP (ofQ (insts.map bare) job) k).length : Int) + 1)), (14, wv), (15, .int .i64 k), (16, .int .i64 s)]) (fun s => row eInt 3 wv (allP (meansQ (insts.map bare) job [(nm, val)]) k) :: l) (fun s => s ≤ ((insts.map bare).getD k ip0).vars.length ∧ ∀ i, i < s → (((insts.map bare).getD k ip0).vars.getD i ss0).1 ≠ nm) (fun s => ((insts.map bare).getD k ip0).vars.length - s) 0 rfl (by repeat first | exact .nil _ | refine .cons rfl ?_) rfl ⟨Nat.zero_le _, fun i h => absurd h (Nat.not_lt_zero i)⟩ ?_
                rintro j ⟨hjj, hin⟩
                refine K_seq ?_
                refine K_seq ?_
                refine K_region ?_
                refine W_y (y_move rfl) rfl rfl rfl ?_
                refine W_y (y_move rfl) rfl rfl rfl ?_
                refine W_y (y_move rfl) rfl rfl rfl ?_
                refine W_y (y_ixi tab hrx rfl rfl rfl rfl (by omega)) rfl rfl rfl ?_
                refine W_y (y_fae tab (hrx.sl (by omega)) rfl rfl rfl rfl rfl) rfl rfl rfl ?_
                refine W_y (hu ▸ y_load rfl (ld_rowi (e := eInst) (i := k) (j := 3) tab hrx rfl rfl (get_of inst0 (by omega)) rfl)) rfl rfl rfl ?_
                refine W_y (y_lenc tab hvc rfl rfl) rfl rfl rfl ?_
                refine W_y (y_lt rfl rfl) rfl rfl rfl ?_
                refine K_nil ?_
                refine K_then ?_
                first | refine K_if rfl (fun h10 => ?_) (fun h10 => ?_) | refine K_ifn rfl (fun h10 => ?_) (fun h10 => ?_) | refine K_cond rfl (fun h10 => ?_) (fun h10 => ?_)
                ·
                  have hjl : j < ((insts.map bare).getD k ip0).vars.length := by omega
                  refine K_skip ?_
                  refine K_then ?_
                  refine K_seq ?_
                  refine K_block ?_
                  refine K_seq ?_
                  refine K_region ?_
                  refine W_y (y_move rfl) rfl rfl rfl ?_
                  refine W_y (y_move rfl) rfl rfl rfl ?_
                  refine W_y (y_ixi tab hrx rfl rfl rfl rfl (by omega)) rfl rfl rfl ?_
                  refine W_y (y_fae tab (hrx.sl (by omega)) rfl rfl rfl rfl rfl) rfl rfl rfl ?_
                  refine W_y (hu ▸ y_load rfl (ld_rowi (e := eInst) (i := k) (j := 3) tab hrx rfl rfl (get_of inst0 (by omega)) rfl)) rfl rfl rfl ?_
                  refine W_y (y_move rfl) rfl rfl rfl ?_
                  refine W_y (y_ixi tab hva rfl rfl rfl rfl (by omega)) rfl rfl rfl ?_
                  refine W_y (y_fae tab (hva.sl (by omega)) rfl rfl rfl rfl rfl) rfl rfl rfl ?_
                  refine W_y (y_load rfl (ld_rowi (e := eStr2) (i := j) (j := 0) tab hva rfl rfl (get_of ss0 (by omega)) rfl)) rfl rfl rfl ?_
                  refine W_y (y_move rfl) rfl rfl rfl ?_
                  refine W_y (by first | exact y_eq rfl rfl | exact y_seq rfl rfl) rfl rfl rfl ?_
                  refine K_nil ?_
                  refine K_then ?_
                  first | refine K_if rfl (fun h11 => ?_) (fun h11 => ?_) | refine K_ifn rfl (fun h11 => ?_) (fun h11 => ?_) | refine K_cond rfl (fun h11 => ?_) (fun h11 => ?_)
                  ·
                    have hhit := getP_hit hin hjl h11
                    refine K_seq ?_
                    refine K_seq ?_
                    refine K_region ?_
                    refine W_y (y_move rfl) rfl rfl rfl ?_
                    refine W_y (y_move rfl) rfl rfl rfl ?_
                    refine W_y (y_ixi tab hrx rfl rfl rfl rfl (by omega)) rfl rfl rfl ?_
                    refine W_y (y_fae tab (hrx.sl (by omega)) rfl rfl rfl rfl rfl) rfl rfl rfl ?_
                    refine W_y (hu ▸ y_load rfl (ld_rowi (e := eInst) (i := k) (j := 3) tab hrx rfl rfl (get_of inst0 (by omega)) rfl)) rfl rfl rfl ?_
                    refine W_y (y_move rfl) rfl rfl rfl ?_
                    refine W_y (y_ixi tab hva rfl rfl rfl rfl (by omega)) rfl rfl rfl ?_
                    refine W_y (y_fae tab (hva.sl (by omega)) rfl rfl rfl rfl rfl) rfl rfl rfl ?_
                    refine W_y (y_load rfl (ld_rowi (e := eStr2) (i := j) (j := 1) tab hva rfl rfl (get_of ss0 (by omega)) rfl)) rfl rfl rfl ?_
                    refine W_y (y_move rfl) rfl rfl rfl ?_
                    refine W_y (by first | exact y_eq rfl rfl | exact y_seq rfl rfl) rfl rfl rfl ?_
                    refine K_nil ?_
                    refine K_then ?_
                    first | refine K_if rfl (fun h12 => ?_) (fun h12 => ?_) | refine K_ifn rfl (fun h12 => ?_) (fun h12 => ?_) | refine K_cond rfl (fun h12 => ?_) (fun h12 => ?_)
                    ·
                      have hq : allP (meansQ (insts.map bare) job [(nm, val)]) (k + 1) = allP (meansQ (insts.map bare) job [(nm, val)]) k ++ [(k : Int)] := by rw [allP_succ, if_pos (by show meansP job [(nm, val)] ((insts.map bare).getD k ip0).name ((insts.map bare).getD k ip0).vars = true; rw [means_one, hof, hhit, h12]; simp)]
                      refine K_region ?_
                      refine W_y (y_move rfl) rfl rfl rfl ?_
                      refine W_y (y_move rfl) rfl rfl rfl ?_
                      refine W_a (a_bs (e := eInt) (xs := [(k : Int)]) (os := [.tmp 143]) tab rfl rfl rfl rfl rfl rfl rfl rfl rfl ?_) rfl
                      intro b144
                      refine K_f1 ?_
                      refine W_a (a_app (e := eInt) (ys := [(k : Int)]) tab rfl rfl rfl rfl rfl (rd_rowall .here) (by simp only [List.length_singleton]; have := allP_len (meansQ (insts.map bare) job [(nm, val)]) k; omega) rfl ?_) rfl
                      intro v145
                      refine K_f1 (K_drop ?_)
                      refine W_y (y_assign rfl) rfl rfl rfl ?_
                      refine K_nil ?_
                      refine K_then ?_
                      refine K_exit ?_
                      refine K_in_past rfl ?_
                      refine K_then_exit ?_
                      refine K_then_exit ?_
                      refine K_in_exit ?_
                      refine K_in ?_
                      refine K_then ?_
                      refine K_region ?_
                      refine W_y (y_move rfl) rfl rfl rfl ?_
                      refine W_y (y_add rfl rfl (by omega)) rfl rfl rfl ?_
                      refine W_y (y_assign rfl) rfl rfl rfl ?_
                      refine K_nil ?_
                      refine K_thenA ?_
                      first
                        | exact K_back (k + 1, v145) rfl (.cons rfl (.cons rfl (.cons rfl (.cons rfl (.cons rfl (.cons (by simp only [hcount]; rfl) (.cons rfl (.cons rfl (.nil _))))))))) (by simp only [hq]) (by simp only; omega) (by simp only; omega)
                        | exact K_back (k + 1, wv) rfl (.cons rfl (.cons rfl (.cons rfl (.cons rfl (.cons rfl (.cons (by simp only [hcount]; rfl) (.cons rfl (.cons rfl (.nil _))))))))) (by simp only [hq]) (by simp only; omega) (by simp only; omega)
                    ·
                      have hv141 := h12
                      have hq : allP (meansQ (insts.map bare) job [(nm, val)]) (k + 1) = allP (meansQ (insts.map bare) job [(nm, val)]) k := len_same (by show meansP job [(nm, val)] ((insts.map bare).getD k ip0).name ((insts.map bare).getD k ip0).vars = false; rw [means_one, hhit, decide_eq_false (fun e => hv141 (Option.some.inj e))]; simp)
                      refine K_skip ?_
                      refine K_then ?_
                      refine K_exit ?_
                      refine K_in_past rfl ?_
                      refine K_then_exit ?_
                      refine K_then_exit ?_
                      refine K_in_exit ?_
                      refine K_in ?_
                      refine K_then ?_
                      refine K_region ?_
                      refine W_y (y_move rfl) rfl rfl rfl ?_
                      refine W_y (y_add rfl rfl (by omega)) rfl rfl rfl ?_
                      refine W_y (y_assign rfl) rfl rfl rfl ?_
                      refine K_nil ?_
                      refine K_thenA ?_
                      first
                        | exact K_back (k + 1, v145) rfl (.cons rfl (.cons rfl (.cons rfl (.cons rfl (.cons rfl (.cons (by simp only [hcount]; rfl) (.cons rfl (.cons rfl (.nil _))))))))) (by simp only [hq]) (by simp only; omega) (by simp only; omega)
                        | exact K_back (k + 1, wv) rfl (.cons rfl (.cons rfl (.cons rfl (.cons rfl (.cons rfl (.cons (by simp only [hcount]; rfl) (.cons rfl (.cons rfl (.nil _))))))))) (by simp only [hq]) (by simp only; omega) (by simp only; omega)
                  ·
                    have hne := h11
                    refine K_skip ?_
                    refine K_in ?_
                    refine K_then ?_
                    refine K_region ?_
                    refine W_y (y_move rfl) rfl rfl rfl ?_
                    refine W_y (y_add rfl rfl (by omega)) rfl rfl rfl ?_
                    refine W_y (y_assign rfl) rfl rfl rfl ?_
                    refine K_nil ?_
                    refine K_thenA ?_
                    exact K_back (j + 1) rfl (by repeat first | exact .nil _ | refine .cons rfl ?_) rfl ⟨by omega, all_succ hin hne⟩ (by first | omega | (simp only; omega))
                ·
                  have hje : j = ((insts.map bare).getD k ip0).vars.length := by omega
                  have hq : allP (meansQ (insts.map bare) job [(nm, val)]) (k + 1) = allP (meansQ (insts.map bare) job [(nm, val)]) k := len_same (by show meansP job [(nm, val)] ((insts.map bare).getD k ip0).name ((insts.map bare).getD k ip0).vars = false; rw [means_one, getP_miss (fun i hi => hin i (by omega))]; simp)
                  refine K_exit ?_
                  refine K_then_exit ?_
                  refine K_then_exit ?_
                  refine K_in_exit ?_
                  refine K_in ?_
                  refine K_then ?_
                  refine K_region ?_
                  refine W_y (y_move rfl) rfl rfl rfl ?_
                  refine W_y (y_add rfl rfl (by omega)) rfl rfl rfl ?_
                  refine W_y (y_assign rfl) rfl rfl rfl ?_
                  refine K_nil ?_
                  refine K_thenA ?_
                  first
                    | exact K_back (k + 1, v145) rfl (.cons rfl (.cons rfl (.cons rfl (.cons rfl (.cons rfl (.cons (by simp only [hcount]; rfl) (.cons rfl (.cons rfl (.nil _))))))))) (by simp only [hq]) (by simp only; omega) (by simp only; omega)
                    | exact K_back (k + 1, wv) rfl (.cons rfl (.cons rfl (.cons rfl (.cons rfl (.cons rfl (.cons (by simp only [hcount]; rfl) (.cons rfl (.cons rfl (.nil _))))))))) (by simp only [hq]) (by simp only; omega) (by simp only; omega)
              ·
                have hno := h9
                refine W_y (y_move rfl) rfl rfl rfl ?_
                refine W_y (y_move rfl) rfl rfl rfl ?_
                refine W_y (y_ixi tab hrx rfl rfl rfl rfl (by omega)) rfl rfl rfl ?_
                refine W_y (y_fae tab (hrx.sl (by omega)) rfl rfl rfl rfl rfl) rfl rfl rfl ?_
                refine W_y (y_load rfl (ld_rowi (e := eInst) (i := k) (j := 0) tab hrx rfl rfl (get_of inst0 (by omega)) rfl)) rfl rfl rfl ?_
                rw [hnm]
                refine W_y (y_lenstr tab rfl rfl) rfl rfl rfl ?_
                refine W_y (y_move rfl) rfl rfl rfl ?_
                refine W_y (by first | exact y_lenc tab (by assumption) rfl rfl | exact y_lens tab rfl rfl | exact y_lenstr tab rfl rfl) rfl rfl rfl ?_
                refine W_y (y_gt rfl rfl) rfl rfl rfl ?_
                refine W_y (y_move rfl) rfl rfl rfl ?_
                first | refine K_splitd 93 rfl (fun h13 => ?_) (fun h13 => ?_) | refine K_split 93 rfl (fun h13 => ?_) (fun h13 => ?_)
                ·
                  have hlong := h13
                  refine W_y (y_move rfl) rfl rfl rfl ?_
                  refine W_y (y_move rfl) rfl rfl rfl ?_
                  refine W_y (y_ixi tab hrx rfl rfl rfl rfl (by omega)) rfl rfl rfl ?_
                  refine W_y (y_fae tab (hrx.sl (by omega)) rfl rfl rfl rfl rfl) rfl rfl rfl ?_
                  refine W_y (y_load rfl (ld_rowi (e := eInst) (i := k) (j := 0) tab hrx rfl rfl (get_of inst0 (by omega)) rfl)) rfl rfl rfl ?_
                  rw [hnm]
                  refine W_y (y_move rfl) rfl rfl rfl ?_
                  refine W_y (by first | exact y_lenc tab (by assumption) rfl rfl | exact y_lens tab rfl rfl | exact y_lenstr tab rfl rfl) rfl rfl rfl ?_
                  refine W_y (y_add rfl rfl (by omega)) rfl rfl rfl ?_
                  refine W_y (Yv.to (.string (((insts.map bare).getD k ip0).name.extract 0 (job.size + 1))) (y_slstr tab rfl rfl rfl rfl (by omega)) (by rw [show ((job.size : Int) + 1).toNat = job.size + 1 by omega]; rfl)) rfl rfl rfl ?_
                  refine W_y (y_move rfl) rfl rfl rfl ?_
                  refine W_y (y_cat rfl rfl (by have : (⟨#[91]⟩ : ByteArray).size = 1 := rfl; omega)) rfl rfl rfl ?_
                  refine W_y (by first | exact y_eq rfl rfl | exact y_seq rfl rfl) rfl rfl rfl ?_
                  refine W_y (y_pick rfl rfl) rfl rfl rfl ?_
                  refine W_y (y_pick rfl rfl) rfl rfl rfl ?_
                  refine K_nil ?_
                  refine K_then ?_
                  first | refine K_if rfl (fun h14 => ?_) (fun h14 => ?_) | refine K_ifn rfl (fun h14 => ?_) (fun h14 => ?_) | refine K_cond rfl (fun h14 => ?_) (fun h14 => ?_)
                  ·
                    have hof : ofP job ((insts.map bare).getD k ip0).name = true := ofP_yes hno (by omega) h14
                    have hcount := len_succ (q := (ofQ (insts.map bare) job)) (n := k) hof
                    refine K_seq ?_
                    refine K_region ?_
                    refine W_y (y_move rfl) rfl rfl rfl ?_
                    refine W_y (y_add rfl rfl (by omega)) rfl rfl rfl ?_
                    refine W_y (y_assign rfl) rfl rfl rfl ?_
                    refine K_nil ?_
                    refine K_then ?_
                    refine K_seq ?_
                    refine K_region ?_
                    refine W_y (y_assign rfl) rfl rfl rfl ?_
                    refine K_nil ?_
                    refine K_then ?_
                    refine K_block ?_
                    refine K_lp (σ := Nat) (fun s => J1) (fun s => [(0, v), (1, .string job), (2, .string nm), (3, .string val), (10, xv), (13, .int .i64 (((allP (ofQ (insts.map bare) job) k).length : Int) + 1)), (14, wv), (15, .int .i64 k), (16, .int .i64 s)]) (fun s => row eInt 3 wv (allP (meansQ (insts.map bare) job [(nm, val)]) k) :: l) (fun s => s ≤ ((insts.map bare).getD k ip0).vars.length ∧ ∀ i, i < s → (((insts.map bare).getD k ip0).vars.getD i ss0).1 ≠ nm) (fun s => ((insts.map bare).getD k ip0).vars.length - s) 0 rfl (by repeat first | exact .nil _ | refine .cons rfl ?_) rfl ⟨Nat.zero_le _, fun i h => absurd h (Nat.not_lt_zero i)⟩ ?_
                    rintro j ⟨hjj, hin⟩
                    refine K_seq ?_
                    refine K_seq ?_
                    refine K_region ?_
                    refine W_y (y_move rfl) rfl rfl rfl ?_
                    refine W_y (y_move rfl) rfl rfl rfl ?_
                    refine W_y (y_move rfl) rfl rfl rfl ?_
                    refine W_y (y_ixi tab hrx rfl rfl rfl rfl (by omega)) rfl rfl rfl ?_
                    refine W_y (y_fae tab (hrx.sl (by omega)) rfl rfl rfl rfl rfl) rfl rfl rfl ?_
                    refine W_y (hu ▸ y_load rfl (ld_rowi (e := eInst) (i := k) (j := 3) tab hrx rfl rfl (get_of inst0 (by omega)) rfl)) rfl rfl rfl ?_
                    refine W_y (y_lenc tab hvc rfl rfl) rfl rfl rfl ?_
                    refine W_y (y_lt rfl rfl) rfl rfl rfl ?_
                    refine K_nil ?_
                    refine K_then ?_
                    first | refine K_if rfl (fun h15 => ?_) (fun h15 => ?_) | refine K_ifn rfl (fun h15 => ?_) (fun h15 => ?_) | refine K_cond rfl (fun h15 => ?_) (fun h15 => ?_)
                    ·
                      have hjl : j < ((insts.map bare).getD k ip0).vars.length := by omega
                      refine K_skip ?_
                      refine K_then ?_
                      refine K_seq ?_
                      refine K_block ?_
                      refine K_seq ?_
                      refine K_region ?_
                      refine W_y (y_move rfl) rfl rfl rfl ?_
                      refine W_y (y_move rfl) rfl rfl rfl ?_
                      refine W_y (y_ixi tab hrx rfl rfl rfl rfl (by omega)) rfl rfl rfl ?_
                      refine W_y (y_fae tab (hrx.sl (by omega)) rfl rfl rfl rfl rfl) rfl rfl rfl ?_
                      refine W_y (hu ▸ y_load rfl (ld_rowi (e := eInst) (i := k) (j := 3) tab hrx rfl rfl (get_of inst0 (by omega)) rfl)) rfl rfl rfl ?_
                      refine W_y (y_move rfl) rfl rfl rfl ?_
                      refine W_y (y_ixi tab hva rfl rfl rfl rfl (by omega)) rfl rfl rfl ?_
                      refine W_y (y_fae tab (hva.sl (by omega)) rfl rfl rfl rfl rfl) rfl rfl rfl ?_
                      refine W_y (y_load rfl (ld_rowi (e := eStr2) (i := j) (j := 0) tab hva rfl rfl (get_of ss0 (by omega)) rfl)) rfl rfl rfl ?_
                      refine W_y (y_move rfl) rfl rfl rfl ?_
                      refine W_y (by first | exact y_eq rfl rfl | exact y_seq rfl rfl) rfl rfl rfl ?_
                      refine K_nil ?_
                      refine K_then ?_
                      first | refine K_if rfl (fun h16 => ?_) (fun h16 => ?_) | refine K_ifn rfl (fun h16 => ?_) (fun h16 => ?_) | refine K_cond rfl (fun h16 => ?_) (fun h16 => ?_)
                      ·
                        have hhit := getP_hit hin hjl h16
                        refine K_seq ?_
                        refine K_seq ?_
                        refine K_region ?_
                        refine W_y (y_move rfl) rfl rfl rfl ?_
                        refine W_y (y_move rfl) rfl rfl rfl ?_
                        refine W_y (y_ixi tab hrx rfl rfl rfl rfl (by omega)) rfl rfl rfl ?_
                        refine W_y (y_fae tab (hrx.sl (by omega)) rfl rfl rfl rfl rfl) rfl rfl rfl ?_
                        refine W_y (hu ▸ y_load rfl (ld_rowi (e := eInst) (i := k) (j := 3) tab hrx rfl rfl (get_of inst0 (by omega)) rfl)) rfl rfl rfl ?_
                        refine W_y (y_move rfl) rfl rfl rfl ?_
                        refine W_y (y_ixi tab hva rfl rfl rfl rfl (by omega)) rfl rfl rfl ?_
                        refine W_y (y_fae tab (hva.sl (by omega)) rfl rfl rfl rfl rfl) rfl rfl rfl ?_
                        refine W_y (y_load rfl (ld_rowi (e := eStr2) (i := j) (j := 1) tab hva rfl rfl (get_of ss0 (by omega)) rfl)) rfl rfl rfl ?_
                        refine W_y (y_move rfl) rfl rfl rfl ?_
                        refine W_y (by first | exact y_eq rfl rfl | exact y_seq rfl rfl) rfl rfl rfl ?_
                        refine K_nil ?_
                        refine K_then ?_
                        first | refine K_if rfl (fun h17 => ?_) (fun h17 => ?_) | refine K_ifn rfl (fun h17 => ?_) (fun h17 => ?_) | refine K_cond rfl (fun h17 => ?_) (fun h17 => ?_)
                        ·
                          have hq : allP (meansQ (insts.map bare) job [(nm, val)]) (k + 1) = allP (meansQ (insts.map bare) job [(nm, val)]) k ++ [(k : Int)] := by rw [allP_succ, if_pos (by show meansP job [(nm, val)] ((insts.map bare).getD k ip0).name ((insts.map bare).getD k ip0).vars = true; rw [means_one, hof, hhit, h17]; simp)]
                          refine K_region ?_
                          refine W_y (y_move rfl) rfl rfl rfl ?_
                          refine W_y (y_move rfl) rfl rfl rfl ?_
                          refine W_a (a_bs (e := eInt) (xs := [(k : Int)]) (os := [.tmp 143]) tab rfl rfl rfl rfl rfl rfl rfl rfl rfl ?_) rfl
                          intro b144
                          refine K_f1 ?_
                          refine W_a (a_app (e := eInt) (ys := [(k : Int)]) tab rfl rfl rfl rfl rfl (rd_rowall .here) (by simp only [List.length_singleton]; have := allP_len (meansQ (insts.map bare) job [(nm, val)]) k; omega) rfl ?_) rfl
                          intro v145
                          refine K_f1 (K_drop ?_)
                          refine W_y (y_assign rfl) rfl rfl rfl ?_
                          refine K_nil ?_
                          refine K_then ?_
                          refine K_exit ?_
                          refine K_in_past rfl ?_
                          refine K_then_exit ?_
                          refine K_then_exit ?_
                          refine K_in_exit ?_
                          refine K_in ?_
                          refine K_then ?_
                          refine K_region ?_
                          refine W_y (y_move rfl) rfl rfl rfl ?_
                          refine W_y (y_add rfl rfl (by omega)) rfl rfl rfl ?_
                          refine W_y (y_assign rfl) rfl rfl rfl ?_
                          refine K_nil ?_
                          refine K_thenA ?_
                          first
                            | exact K_back (k + 1, v145) rfl (.cons rfl (.cons rfl (.cons rfl (.cons rfl (.cons rfl (.cons (by simp only [hcount]; rfl) (.cons rfl (.cons rfl (.nil _))))))))) (by simp only [hq]) (by simp only; omega) (by simp only; omega)
                            | exact K_back (k + 1, wv) rfl (.cons rfl (.cons rfl (.cons rfl (.cons rfl (.cons rfl (.cons (by simp only [hcount]; rfl) (.cons rfl (.cons rfl (.nil _))))))))) (by simp only [hq]) (by simp only; omega) (by simp only; omega)
                        ·
                          have hv141 := h17
                          have hq : allP (meansQ (insts.map bare) job [(nm, val)]) (k + 1) = allP (meansQ (insts.map bare) job [(nm, val)]) k := len_same (by show meansP job [(nm, val)] ((insts.map bare).getD k ip0).name ((insts.map bare).getD k ip0).vars = false; rw [means_one, hhit, decide_eq_false (fun e => hv141 (Option.some.inj e))]; simp)
                          refine K_skip ?_
                          refine K_then ?_
                          refine K_exit ?_
                          refine K_in_past rfl ?_
                          refine K_then_exit ?_
                          refine K_then_exit ?_
                          refine K_in_exit ?_
                          refine K_in ?_
                          refine K_then ?_
                          refine K_region ?_
                          refine W_y (y_move rfl) rfl rfl rfl ?_
                          refine W_y (y_add rfl rfl (by omega)) rfl rfl rfl ?_
                          refine W_y (y_assign rfl) rfl rfl rfl ?_
                          refine K_nil ?_
                          refine K_thenA ?_
                          first
                            | exact K_back (k + 1, v145) rfl (.cons rfl (.cons rfl (.cons rfl (.cons rfl (.cons rfl (.cons (by simp only [hcount]; rfl) (.cons rfl (.cons rfl (.nil _))))))))) (by simp only [hq]) (by simp only; omega) (by simp only; omega)
                            | exact K_back (k + 1, wv) rfl (.cons rfl (.cons rfl (.cons rfl (.cons rfl (.cons rfl (.cons (by simp only [hcount]; rfl) (.cons rfl (.cons rfl (.nil _))))))))) (by simp only [hq]) (by simp only; omega) (by simp only; omega)
                      ·
                        have hne := h16
                        refine K_skip ?_
                        refine K_in ?_
                        refine K_then ?_
                        refine K_region ?_
                        refine W_y (y_move rfl) rfl rfl rfl ?_
                        refine W_y (y_add rfl rfl (by omega)) rfl rfl rfl ?_
                        refine W_y (y_assign rfl) rfl rfl rfl ?_
                        refine K_nil ?_
                        refine K_thenA ?_
                        exact K_back (j + 1) rfl (by repeat first | exact .nil _ | refine .cons rfl ?_) rfl ⟨by omega, all_succ hin hne⟩ (by first | omega | (simp only; omega))
                    ·
                      have hje : j = ((insts.map bare).getD k ip0).vars.length := by omega
                      have hq : allP (meansQ (insts.map bare) job [(nm, val)]) (k + 1) = allP (meansQ (insts.map bare) job [(nm, val)]) k := len_same (by show meansP job [(nm, val)] ((insts.map bare).getD k ip0).name ((insts.map bare).getD k ip0).vars = false; rw [means_one, getP_miss (fun i hi => hin i (by omega))]; simp)
                      refine K_exit ?_
                      refine K_then_exit ?_
                      refine K_then_exit ?_
                      refine K_in_exit ?_
                      refine K_in ?_
                      refine K_then ?_
                      refine K_region ?_
                      refine W_y (y_move rfl) rfl rfl rfl ?_
                      refine W_y (y_add rfl rfl (by omega)) rfl rfl rfl ?_
                      refine W_y (y_assign rfl) rfl rfl rfl ?_
                      refine K_nil ?_
                      refine K_thenA ?_
                      first
                        | exact K_back (k + 1, v145) rfl (.cons rfl (.cons rfl (.cons rfl (.cons rfl (.cons rfl (.cons (by simp only [hcount]; rfl) (.cons rfl (.cons rfl (.nil _))))))))) (by simp only [hq]) (by simp only; omega) (by simp only; omega)
                        | exact K_back (k + 1, wv) rfl (.cons rfl (.cons rfl (.cons rfl (.cons rfl (.cons rfl (.cons (by simp only [hcount]; rfl) (.cons rfl (.cons rfl (.nil _))))))))) (by simp only [hq]) (by simp only; omega) (by simp only; omega)
                  ·
                    have hof : ofP job ((insts.map bare).getD k ip0).name = false := ofP_no hno (fun h => h14 h.2)
                    have hcount := len_same (q := (ofQ (insts.map bare) job)) (n := k) hof
                    have hq : allP (meansQ (insts.map bare) job [(nm, val)]) (k + 1) = allP (meansQ (insts.map bare) job [(nm, val)]) k := len_same (by show meansP job [(nm, val)] ((insts.map bare).getD k ip0).name ((insts.map bare).getD k ip0).vars = false; rw [means_one, hof]; rfl)
                    refine K_skip ?_
                    refine K_in ?_
                    refine K_then ?_
                    refine K_region ?_
                    refine W_y (y_move rfl) rfl rfl rfl ?_
                    refine W_y (y_add rfl rfl (by omega)) rfl rfl rfl ?_
                    refine W_y (y_assign rfl) rfl rfl rfl ?_
                    refine K_nil ?_
                    refine K_thenA ?_
                    first
                      | exact K_back (k + 1, v145) rfl (.cons rfl (.cons rfl (.cons rfl (.cons rfl (.cons rfl (.cons (by simp only [hcount]; rfl) (.cons rfl (.cons rfl (.nil _))))))))) (by simp only [hq]) (by simp only; omega) (by simp only; omega)
                      | exact K_back (k + 1, wv) rfl (.cons rfl (.cons rfl (.cons rfl (.cons rfl (.cons rfl (.cons (by simp only [hcount]; rfl) (.cons rfl (.cons rfl (.nil _))))))))) (by simp only [hq]) (by simp only; omega) (by simp only; omega)
                ·
                  have hof : ofP job ((insts.map bare).getD k ip0).name = false := ofP_no hno (fun h => h13 (by omega))
                  have hcount := len_same (q := (ofQ (insts.map bare) job)) (n := k) hof
                  have hq : allP (meansQ (insts.map bare) job [(nm, val)]) (k + 1) = allP (meansQ (insts.map bare) job [(nm, val)]) k := len_same (by show meansP job [(nm, val)] ((insts.map bare).getD k ip0).name ((insts.map bare).getD k ip0).vars = false; rw [means_one, hof]; rfl)
                  refine W_skip rfl rfl rfl ?_
                  refine W_skip rfl rfl rfl ?_
                  refine W_skip rfl rfl rfl ?_
                  refine W_skip rfl rfl rfl ?_
                  refine W_skip rfl rfl rfl ?_
                  refine W_skip rfl rfl rfl ?_
                  refine W_skip rfl rfl rfl ?_
                  refine W_skip rfl rfl rfl ?_
                  refine W_skip rfl rfl rfl ?_
                  refine W_skip rfl rfl rfl ?_
                  refine W_skip rfl rfl rfl ?_
                  refine W_skip rfl rfl rfl ?_
                  refine W_y (y_pick rfl rfl) rfl rfl rfl ?_
                  refine W_y (y_pick rfl rfl) rfl rfl rfl ?_
                  refine K_nil ?_
                  refine K_then ?_
                  refine K_no rfl ?_
                  refine K_skip ?_
                  refine K_in ?_
                  refine K_then ?_
                  refine K_region ?_
                  refine W_y (y_move rfl) rfl rfl rfl ?_
                  refine W_y (y_add rfl rfl (by omega)) rfl rfl rfl ?_
                  refine W_y (y_assign rfl) rfl rfl rfl ?_
                  refine K_nil ?_
                  refine K_thenA ?_
                  first
                    | exact K_back (k + 1, v145) rfl (.cons rfl (.cons rfl (.cons rfl (.cons rfl (.cons rfl (.cons (by simp only [hcount]; rfl) (.cons rfl (.cons rfl (.nil _))))))))) (by simp only [hq]) (by simp only; omega) (by simp only; omega)
                    | exact K_back (k + 1, wv) rfl (.cons rfl (.cons rfl (.cons rfl (.cons rfl (.cons rfl (.cons (by simp only [hcount]; rfl) (.cons rfl (.cons rfl (.nil _))))))))) (by simp only [hq]) (by simp only; omega) (by simp only; omega)
            ·
              have hke : k = raws.length := by omega
              subst hke
              refine K_exit ?_
              refine K_then_exit ?_
              refine K_then_exit ?_
              refine K_in_exit ?_
              refine K_then ?_
              refine K_seq ?_
              refine K_region ?_
              refine W_y (y_build tab rfl rfl rfl rfl rfl) rfl rfl rfl ?_
              refine W_a (a_alloc tab rfl rfl ?_) rfl
              intro b17
              refine W_a (a_stw (us := eFault.cells hereF) tab rfl rfl rfl rfl (eFault.one _) rfl ?_) rfl
              refine K_nil ?_
              refine K_then ?_
              refine K_seq ?_
              refine K_region ?_
              refine W_y (y_move rfl) rfl rfl rfl ?_
              refine W_y (y_load rfl (ld_agg tab rfl rfl rfl (rd_all .here))) rfl rfl rfl ?_
              refine W_y (y_build tab rfl rfl rfl rfl rfl) rfl rfl rfl ?_
              refine W_a (a_bs (e := eNeed) (xs := [⟨job, hereF⟩]) (os := [.tmp 149]) tab rfl rfl rfl rfl rfl rfl rfl rfl rfl ?_) rfl
              intro b150
              refine W_y (y_build tab rfl rfl rfl rfl rfl) rfl rfl rfl ?_
              refine W_a (a_alloc tab rfl rfl ?_) rfl
              intro b18
              refine W_a (a_stw (us := eInst.cells (loneI ⟨.slice (some ⟨b150, 0, none⟩) 1 1, rfl⟩)) tab rfl rfl rfl rfl (eInst.one _) rfl ?_) rfl
              refine K_f1 (K_lendrow (fun J2 cur hJ2 hnb hJb hLent hneed => ?_))
              refine K_f1 (K_drop ?_)
              have hIJ2 := hJ1.trans hJ2
              refine K_nil ?_
              refine K_then ?_
              refine K_cutS (σ := Imm × Value × List SV × Nat) (fun s => s.1) (fun s => [(0, v), (1, .string job), (2, .string nm), (3, .string val), (10, xv), (13, .int .i64 ((allP (ofQ (insts.map bare) job) raws.length).length : Int)), (14, wv), (18, .pointer (some ⟨b18, 0, none⟩)), (19, s.2.1), (20, .pointer (some ⟨s.2.2.2, 0, none⟩))]) (fun s => blk s.2.2.2 (.cells (eFault.cells (buildP ((insts.map bare) ++ [loneP job])).2).toArray 44 (0, 0)) :: blk b18 (.cells (eInst.cells (loneI ⟨.slice (some ⟨b150, 0, none⟩) 1 1, rfl⟩)).toArray 46 (0, 0)) :: row eInt 3 wv (allP (meansQ (insts.map bare) job [(nm, val)]) raws.length) :: l) (fun s => J2.le s.1 ∧ RowII eInt s.1 s.2.1 s.2.2.1 (buildP ((insts.map bare) ++ [loneP job])).1) ?_ ?_
              ·
                refine K_drawT (.q 0 false (.q 2 true (.act 1 false [] (.act 3 true [4, 5, 9, 11] (.act 4 true [5, 9, 11] (.act 5 true [9, 11] (.q 6 false (.q 7 false (.q 8 false (.act 9 true [11] (.q 10 false (.act 11 true [] .nil .nil)) .nil)))) (.act 9 true [5, 11] (.act 5 true [11] (.q 6 false (.q 7 false (.q 8 false (.q 10 false (.act 11 true [] .nil .nil))))) .nil) .nil)) (.act 9 true [4, 5, 11] (.act 4 true [5, 11] (.act 5 true [11] (.q 6 false (.q 7 false (.q 8 false (.q 10 false (.act 11 true [] .nil .nil))))) .nil) .nil) .nil)) (.act 9 false [] (.act 3 true [4, 5, 11] (.act 4 true [5, 11] (.act 5 true [11] (.q 6 false (.q 7 false (.q 8 false (.q 10 false (.act 11 true [] .nil .nil))))) .nil) .nil) .nil) .nil)) (.act 3 true [1, 4, 5, 9, 11] (.act 1 true [4, 5, 9, 11] (.act 4 true [5, 9, 11] (.act 5 true [9, 11] (.q 6 false (.q 7 false (.q 8 false (.act 9 true [11] (.q 10 false (.act 11 true [] .nil .nil)) .nil)))) (.act 9 true [5, 11] (.act 5 true [11] (.q 6 false (.q 7 false (.q 8 false (.q 10 false (.act 11 true [] .nil .nil))))) .nil) .nil)) (.act 9 true [4, 5, 11] (.act 4 true [5, 11] (.act 5 true [11] (.q 6 false (.q 7 false (.q 8 false (.q 10 false (.act 11 true [] .nil .nil))))) .nil) .nil) .nil)) (.act 9 true [1, 4, 5, 11] (.act 1 true [4, 5, 11] (.act 4 true [5, 11] (.act 5 true [11] (.q 6 false (.q 7 false (.q 8 false (.q 10 false (.act 11 true [] .nil .nil))))) .nil) .nil) .nil) .nil)) (.act 9 false [] (.act 1 false [] (.act 3 true [4, 5, 11] (.act 4 true [5, 11] (.act 5 true [11] (.q 6 false (.q 7 false (.q 8 false (.q 10 false (.act 11 true [] .nil .nil))))) .nil) .nil) .nil) (.act 3 true [1, 4, 5, 11] (.act 1 true [4, 5, 11] (.act 4 true [5, 11] (.act 5 true [11] (.q 6 false (.q 7 false (.q 8 false (.q 10 false (.act 11 true [] .nil .nil))))) .nil) .nil) .nil) .nil)) .nil))))) [3, 11] [blk b18 (.cells (eInst.cells (loneI ⟨.slice (some ⟨b150, 0, none⟩) 1 1, rfl⟩)).toArray 46 (0, 0))] rfl (by kernel_rfl) (by intro c a d v w h; cases d <;> exact h) ?_
                refine T_f rfl (fun _ _ => y_move rfl) rfl rfl rfl ?_
                refine T_y rfl (y_load rfl (ld_agg tab rfl rfl rfl (rd_all .here))) rfl rfl rfl ?_
                refine T_acts (fun _ h => by first | exact h.sublist (by repeat first | exact List.nil_sublist _ | exact List.Sublist.refl _ | apply List.Sublist.cons_cons | apply List.Sublist.cons) | exact St.back (by assumption) (h.sublist (by repeat first | exact List.nil_sublist _ | exact List.Sublist.refl _ | apply List.Sublist.cons_cons | apply List.Sublist.cons))) ?_
                refine M_a1 rfl rfl (a_call (enters_of Tryd.func22 (by kernel_rfl) rfl) rfl (f22_ok (hI1.mono hJ2) (fun k hk => (hF1 k hk).mono hJ2)) rfl ?_) ?_
                ·
                  rintro v154 J3 _ hJ3 ⟨rx2, rfl, hrl2, hrF2⟩
                  refine T_acts (fun _ h => by first | exact h.sublist (by repeat first | exact List.nil_sublist _ | exact List.Sublist.refl _ | apply List.Sublist.cons_cons | apply List.Sublist.cons) | exact St.back (by assumption) (h.sublist (by repeat first | exact List.nil_sublist _ | exact List.Sublist.refl _ | apply List.Sublist.cons_cons | apply List.Sublist.cons))) ?_
                  refine M_a2 rfl rfl (a_bs (e := eInst) (xs := [loneI ⟨.slice (some ⟨b150, 0, none⟩) 1 1, rfl⟩]) (os := [.tmp 155]) tab rfl rfl rfl rfl rfl rfl rfl rfl rfl ?_) ?_
                  ·
                    intro b156
                    refine K_b1 ?_
                    refine T_t0 ?_
                    refine T_acts (fun _ h => by first | exact h.sublist (by repeat first | exact List.nil_sublist _ | exact List.Sublist.refl _ | apply List.Sublist.cons_cons | apply List.Sublist.cons) | exact St.back (by assumption) (h.sublist (by repeat first | exact List.nil_sublist _ | exact List.Sublist.refl _ | apply List.Sublist.cons_cons | apply List.Sublist.cons))) ?_
                    refine M_a2 rfl rfl (a_app (e := eInst) (ys := [loneI ⟨.slice (some ⟨b150, 0, none⟩) 1 1, rfl⟩]) tab rfl rfl rfl rfl rfl (rd_rowall .here) (by simp only [List.length_singleton]; omega) rfl ?_) ?_
                    ·
                      intro v157
                      refine K_f1 (K_drop ?_)
                      refine K_give (fun J4 hJ4 hrx2 => ?_)
                      refine T_t0 ?_
                      refine T_acts (fun _ h => by first | exact h.sublist (by repeat first | exact List.nil_sublist _ | exact List.Sublist.refl _ | apply List.Sublist.cons_cons | apply List.Sublist.cons) | exact St.back (by assumption) (h.sublist (by repeat first | exact List.nil_sublist _ | exact List.Sublist.refl _ | apply List.Sublist.cons_cons | apply List.Sublist.cons))) ?_
                      refine M_a2 rfl rfl (a_call (enters_of Tryd.func23 (by kernel_rfl) rfl) rfl (f23_ok (insts := (insts.map bare) ++ [loneP job]) (hg.mono (hIJ2.trans (hJ3.trans hJ4))) (insts_snoc hrx2 (by omega) (fun k hk => ((hrF2 k (by omega)).mono hJ4).ok) (lone_ok ((hneed.mono hJ3).mono hJ4) (by have := hLow.len; omega)) (by rw [List.length_map]; omega))) rfl ?_) ?_
                      ·
                        rintro _ J5 _ hJ5 ⟨pv, pvs, rfl, hp, rfl⟩
                        refine T_t0 ?_
                        refine T_f rfl (fun _ _ => y_move rfl) rfl rfl rfl ?_
                        refine T_f rfl (fun _ _ => y_extract rfl rfl) rfl rfl rfl ?_
                        refine T_f rfl (fun _ _ => y_extract rfl rfl) rfl rfl rfl ?_
                        refine T_acts (fun _ h => by first | exact h.sublist (by repeat first | exact List.nil_sublist _ | exact List.Sublist.refl _ | apply List.Sublist.cons_cons | apply List.Sublist.cons) | exact St.back (by assumption) (h.sublist (by repeat first | exact List.nil_sublist _ | exact List.Sublist.refl _ | apply List.Sublist.cons_cons | apply List.Sublist.cons))) ?_
                        refine M_a2 rfl rfl (a_alloc tab rfl rfl ?_) ?_
                        ·
                          intro b20
                          refine T_t0 ?_
                          refine T_f rfl (fun _ _ => y_assign rfl) rfl rfl rfl ?_
                          refine T_acts (fun _ h => by first | exact h.sublist (by repeat first | exact List.nil_sublist _ | exact List.Sublist.refl _ | apply List.Sublist.cons_cons | apply List.Sublist.cons) | exact St.back (by assumption) (h.sublist (by repeat first | exact List.nil_sublist _ | exact List.Sublist.refl _ | apply List.Sublist.cons_cons | apply List.Sublist.cons))) ?_
                          refine M_a2 rfl rfl (a_stw (us := eFault.cells (buildP ((insts.map bare) ++ [loneP job])).2) tab rfl rfl rfl rfl (eFault.one _) rfl ?_) ?_
                          ·
                            refine T_t0 ?_
                            refine T_nil (fun _ h => by first | exact h.sublist (by repeat first | exact List.nil_sublist _ | exact List.Sublist.refl _ | apply List.Sublist.cons_cons | apply List.Sublist.cons) | exact St.back (by assumption) (h.sublist (by repeat first | exact List.nil_sublist _ | exact List.Sublist.refl _ | apply List.Sublist.cons_cons | apply List.Sublist.cons))) ?_
                            refine K_thenA ?_
                            exact K_mid (J5, pv, pvs, b20) rfl (by repeat first | exact .nil _ | refine .cons rfl ?_) rfl ⟨hJ3.trans (hJ4.trans hJ5), hp⟩
                          exact M_nil
                        exact M_nil
                      refine M_a2 rfl rfl (a_alloc tab rfl rfl ?_) ?_
                      ·
                        intro b20
                        refine T_t0 ?_
                        refine T_acts (fun _ h => by first | exact h.sublist (by repeat first | exact List.nil_sublist _ | exact List.Sublist.refl _ | apply List.Sublist.cons_cons | apply List.Sublist.cons) | exact St.back (by assumption) (h.sublist (by repeat first | exact List.nil_sublist _ | exact List.Sublist.refl _ | apply List.Sublist.cons_cons | apply List.Sublist.cons))) ?_
                        refine M_a2 rfl rfl (a_call (enters_of Tryd.func23 (by kernel_rfl) rfl) rfl (f23_ok (insts := (insts.map bare) ++ [loneP job]) (hg.mono (hIJ2.trans (hJ3.trans hJ4))) (insts_snoc hrx2 (by omega) (fun k hk => ((hrF2 k (by omega)).mono hJ4).ok) (lone_ok ((hneed.mono hJ3).mono hJ4) (by have := hLow.len; omega)) (by rw [List.length_map]; omega))) rfl ?_) ?_
                        ·
                          rintro _ J5 _ hJ5 ⟨pv, pvs, rfl, hp, rfl⟩
                          refine T_t0 ?_
                          refine T_f rfl (fun _ _ => y_move rfl) rfl rfl rfl ?_
                          refine T_f rfl (fun _ _ => y_extract rfl rfl) rfl rfl rfl ?_
                          refine T_f rfl (fun _ _ => y_extract rfl rfl) rfl rfl rfl ?_
                          refine T_f rfl (fun _ _ => y_assign rfl) rfl rfl rfl ?_
                          refine T_acts (fun _ h => by first | exact h.sublist (by repeat first | exact List.nil_sublist _ | exact List.Sublist.refl _ | apply List.Sublist.cons_cons | apply List.Sublist.cons) | exact St.back (by assumption) (h.sublist (by repeat first | exact List.nil_sublist _ | exact List.Sublist.refl _ | apply List.Sublist.cons_cons | apply List.Sublist.cons))) ?_
                          refine M_a2 rfl rfl (a_stw (us := eFault.cells (buildP ((insts.map bare) ++ [loneP job])).2) tab rfl rfl rfl rfl (eFault.one _) rfl ?_) ?_
                          ·
                            refine T_t0 ?_
                            refine T_nil (fun _ h => by first | exact h.sublist (by repeat first | exact List.nil_sublist _ | exact List.Sublist.refl _ | apply List.Sublist.cons_cons | apply List.Sublist.cons) | exact St.back (by assumption) (h.sublist (by repeat first | exact List.nil_sublist _ | exact List.Sublist.refl _ | apply List.Sublist.cons_cons | apply List.Sublist.cons))) ?_
                            refine K_thenA ?_
                            exact K_mid (J5, pv, pvs, b20) rfl (by repeat first | exact .nil _ | refine .cons rfl ?_) rfl ⟨hJ3.trans (hJ4.trans hJ5), hp⟩
                          exact M_nil
                        exact M_nil
                      exact M_nil
                    refine M_a2 rfl rfl (a_alloc tab rfl rfl ?_) ?_
                    ·
                      intro b20
                      refine K_b2 ?_
                      refine T_t0 ?_
                      refine T_acts (fun _ h => by first | exact h.sublist (by repeat first | exact List.nil_sublist _ | exact List.Sublist.refl _ | apply List.Sublist.cons_cons | apply List.Sublist.cons) | exact St.back (by assumption) (h.sublist (by repeat first | exact List.nil_sublist _ | exact List.Sublist.refl _ | apply List.Sublist.cons_cons | apply List.Sublist.cons))) ?_
                      refine M_a2 rfl rfl (a_app (e := eInst) (ys := [loneI ⟨.slice (some ⟨b150, 0, none⟩) 1 1, rfl⟩]) tab rfl rfl rfl rfl rfl (rd_rowall .here) (by simp only [List.length_singleton]; omega) rfl ?_) ?_
                      ·
                        intro v157
                        refine K_f1 (K_drop ?_)
                        refine K_give (fun J4 hJ4 hrx2 => ?_)
                        refine T_t0 ?_
                        refine T_acts (fun _ h => by first | exact h.sublist (by repeat first | exact List.nil_sublist _ | exact List.Sublist.refl _ | apply List.Sublist.cons_cons | apply List.Sublist.cons) | exact St.back (by assumption) (h.sublist (by repeat first | exact List.nil_sublist _ | exact List.Sublist.refl _ | apply List.Sublist.cons_cons | apply List.Sublist.cons))) ?_
                        refine M_a2 rfl rfl (a_call (enters_of Tryd.func23 (by kernel_rfl) rfl) rfl (f23_ok (insts := (insts.map bare) ++ [loneP job]) (hg.mono (hIJ2.trans (hJ3.trans hJ4))) (insts_snoc hrx2 (by omega) (fun k hk => ((hrF2 k (by omega)).mono hJ4).ok) (lone_ok ((hneed.mono hJ3).mono hJ4) (by have := hLow.len; omega)) (by rw [List.length_map]; omega))) rfl ?_) ?_
                        ·
                          rintro _ J5 _ hJ5 ⟨pv, pvs, rfl, hp, rfl⟩
                          refine T_t0 ?_
                          refine T_f rfl (fun _ _ => y_move rfl) rfl rfl rfl ?_
                          refine T_f rfl (fun _ _ => y_extract rfl rfl) rfl rfl rfl ?_
                          refine T_f rfl (fun _ _ => y_extract rfl rfl) rfl rfl rfl ?_
                          refine T_f rfl (fun _ _ => y_assign rfl) rfl rfl rfl ?_
                          refine T_acts (fun _ h => by first | exact h.sublist (by repeat first | exact List.nil_sublist _ | exact List.Sublist.refl _ | apply List.Sublist.cons_cons | apply List.Sublist.cons) | exact St.back (by assumption) (h.sublist (by repeat first | exact List.nil_sublist _ | exact List.Sublist.refl _ | apply List.Sublist.cons_cons | apply List.Sublist.cons))) ?_
                          refine M_a2 rfl rfl (a_stw (us := eFault.cells (buildP ((insts.map bare) ++ [loneP job])).2) tab rfl rfl rfl rfl (eFault.one _) rfl ?_) ?_
                          ·
                            refine T_t0 ?_
                            refine T_nil (fun _ h => by first | exact h.sublist (by repeat first | exact List.nil_sublist _ | exact List.Sublist.refl _ | apply List.Sublist.cons_cons | apply List.Sublist.cons) | exact St.back (by assumption) (h.sublist (by repeat first | exact List.nil_sublist _ | exact List.Sublist.refl _ | apply List.Sublist.cons_cons | apply List.Sublist.cons))) ?_
                            refine K_thenA ?_
                            exact K_mid (J5, pv, pvs, b20) rfl (by repeat first | exact .nil _ | refine .cons rfl ?_) rfl ⟨hJ3.trans (hJ4.trans hJ5), hp⟩
                          exact M_nil
                        exact M_nil
                      exact M_nil
                    exact M_nil
                  refine M_a1 rfl rfl (a_alloc tab rfl rfl ?_) ?_
                  ·
                    intro b20
                    refine K_b1 ?_
                    refine T_acts (fun _ h => by first | exact h.sublist (by repeat first | exact List.nil_sublist _ | exact List.Sublist.refl _ | apply List.Sublist.cons_cons | apply List.Sublist.cons) | exact St.back (by assumption) (h.sublist (by repeat first | exact List.nil_sublist _ | exact List.Sublist.refl _ | apply List.Sublist.cons_cons | apply List.Sublist.cons))) ?_
                    refine M_a2 rfl rfl (a_bs (e := eInst) (xs := [loneI ⟨.slice (some ⟨b150, 0, none⟩) 1 1, rfl⟩]) (os := [.tmp 155]) tab rfl rfl rfl rfl rfl rfl rfl rfl rfl ?_) ?_
                    ·
                      intro b156
                      refine K_b1 ?_
                      refine T_t0 ?_
                      refine T_acts (fun _ h => by first | exact h.sublist (by repeat first | exact List.nil_sublist _ | exact List.Sublist.refl _ | apply List.Sublist.cons_cons | apply List.Sublist.cons) | exact St.back (by assumption) (h.sublist (by repeat first | exact List.nil_sublist _ | exact List.Sublist.refl _ | apply List.Sublist.cons_cons | apply List.Sublist.cons))) ?_
                      refine M_a2 rfl rfl (a_app (e := eInst) (ys := [loneI ⟨.slice (some ⟨b150, 0, none⟩) 1 1, rfl⟩]) tab rfl rfl rfl rfl rfl (rd_rowall .here) (by simp only [List.length_singleton]; omega) rfl ?_) ?_
                      ·
                        intro v157
                        refine K_f1 (K_drop ?_)
                        refine K_give (fun J4 hJ4 hrx2 => ?_)
                        refine T_t0 ?_
                        refine T_acts (fun _ h => by first | exact h.sublist (by repeat first | exact List.nil_sublist _ | exact List.Sublist.refl _ | apply List.Sublist.cons_cons | apply List.Sublist.cons) | exact St.back (by assumption) (h.sublist (by repeat first | exact List.nil_sublist _ | exact List.Sublist.refl _ | apply List.Sublist.cons_cons | apply List.Sublist.cons))) ?_
                        refine M_a2 rfl rfl (a_call (enters_of Tryd.func23 (by kernel_rfl) rfl) rfl (f23_ok (insts := (insts.map bare) ++ [loneP job]) (hg.mono (hIJ2.trans (hJ3.trans hJ4))) (insts_snoc hrx2 (by omega) (fun k hk => ((hrF2 k (by omega)).mono hJ4).ok) (lone_ok ((hneed.mono hJ3).mono hJ4) (by have := hLow.len; omega)) (by rw [List.length_map]; omega))) rfl ?_) ?_
                        ·
                          rintro _ J5 _ hJ5 ⟨pv, pvs, rfl, hp, rfl⟩
                          refine T_t0 ?_
                          refine T_f rfl (fun _ _ => y_move rfl) rfl rfl rfl ?_
                          refine T_f rfl (fun _ _ => y_extract rfl rfl) rfl rfl rfl ?_
                          refine T_f rfl (fun _ _ => y_extract rfl rfl) rfl rfl rfl ?_
                          refine T_f rfl (fun _ _ => y_assign rfl) rfl rfl rfl ?_
                          refine T_acts (fun _ h => by first | exact h.sublist (by repeat first | exact List.nil_sublist _ | exact List.Sublist.refl _ | apply List.Sublist.cons_cons | apply List.Sublist.cons) | exact St.back (by assumption) (h.sublist (by repeat first | exact List.nil_sublist _ | exact List.Sublist.refl _ | apply List.Sublist.cons_cons | apply List.Sublist.cons))) ?_
                          refine M_a2 rfl rfl (a_stw (us := eFault.cells (buildP ((insts.map bare) ++ [loneP job])).2) tab rfl rfl rfl rfl (eFault.one _) rfl ?_) ?_
                          ·
                            refine T_t0 ?_
                            refine T_nil (fun _ h => by first | exact h.sublist (by repeat first | exact List.nil_sublist _ | exact List.Sublist.refl _ | apply List.Sublist.cons_cons | apply List.Sublist.cons) | exact St.back (by assumption) (h.sublist (by repeat first | exact List.nil_sublist _ | exact List.Sublist.refl _ | apply List.Sublist.cons_cons | apply List.Sublist.cons))) ?_
                            refine K_thenA ?_
                            exact K_mid (J5, pv, pvs, b20) rfl (by repeat first | exact .nil _ | refine .cons rfl ?_) rfl ⟨hJ3.trans (hJ4.trans hJ5), hp⟩
                          exact M_nil
                        exact M_nil
                      exact M_nil
                    exact M_nil
                  exact M_nil
                refine M_a2 rfl rfl (a_bs (e := eInst) (xs := [loneI ⟨.slice (some ⟨b150, 0, none⟩) 1 1, rfl⟩]) (os := [.tmp 155]) tab rfl rfl rfl rfl rfl rfl rfl rfl rfl ?_) ?_
                ·
                  intro b156
                  refine T_t0 ?_
                  refine T_acts (fun _ h => by first | exact h.sublist (by repeat first | exact List.nil_sublist _ | exact List.Sublist.refl _ | apply List.Sublist.cons_cons | apply List.Sublist.cons) | exact St.back (by assumption) (h.sublist (by repeat first | exact List.nil_sublist _ | exact List.Sublist.refl _ | apply List.Sublist.cons_cons | apply List.Sublist.cons))) ?_
                  refine M_a2 rfl rfl (a_call (enters_of Tryd.func22 (by kernel_rfl) rfl) rfl (f22_ok (hI1.mono hJ2) (fun k hk => (hF1 k hk).mono hJ2)) rfl ?_) ?_
                  ·
                    rintro v154 J3 _ hJ3 ⟨rx2, rfl, hrl2, hrF2⟩
                    refine T_t0 ?_
                    refine T_acts (fun _ h => by first | exact h.sublist (by repeat first | exact List.nil_sublist _ | exact List.Sublist.refl _ | apply List.Sublist.cons_cons | apply List.Sublist.cons) | exact St.back (by assumption) (h.sublist (by repeat first | exact List.nil_sublist _ | exact List.Sublist.refl _ | apply List.Sublist.cons_cons | apply List.Sublist.cons))) ?_
                    refine M_a2 rfl rfl (a_app (e := eInst) (ys := [loneI ⟨.slice (some ⟨b150, 0, none⟩) 1 1, rfl⟩]) tab rfl rfl rfl rfl rfl (rd_rowall .here) (by simp only [List.length_singleton]; omega) rfl ?_) ?_
                    ·
                      intro v157
                      refine K_f1 (K_drop ?_)
                      refine K_give (fun J4 hJ4 hrx2 => ?_)
                      refine T_t0 ?_
                      refine T_acts (fun _ h => by first | exact h.sublist (by repeat first | exact List.nil_sublist _ | exact List.Sublist.refl _ | apply List.Sublist.cons_cons | apply List.Sublist.cons) | exact St.back (by assumption) (h.sublist (by repeat first | exact List.nil_sublist _ | exact List.Sublist.refl _ | apply List.Sublist.cons_cons | apply List.Sublist.cons))) ?_
                      refine M_a2 rfl rfl (a_call (enters_of Tryd.func23 (by kernel_rfl) rfl) rfl (f23_ok (insts := (insts.map bare) ++ [loneP job]) (hg.mono (hIJ2.trans (hJ3.trans hJ4))) (insts_snoc hrx2 (by omega) (fun k hk => ((hrF2 k (by omega)).mono hJ4).ok) (lone_ok ((hneed.mono hJ3).mono hJ4) (by have := hLow.len; omega)) (by rw [List.length_map]; omega))) rfl ?_) ?_
                      ·
                        rintro _ J5 _ hJ5 ⟨pv, pvs, rfl, hp, rfl⟩
                        refine T_t0 ?_
                        refine T_f rfl (fun _ _ => y_move rfl) rfl rfl rfl ?_
                        refine T_f rfl (fun _ _ => y_extract rfl rfl) rfl rfl rfl ?_
                        refine T_f rfl (fun _ _ => y_extract rfl rfl) rfl rfl rfl ?_
                        refine T_acts (fun _ h => by first | exact h.sublist (by repeat first | exact List.nil_sublist _ | exact List.Sublist.refl _ | apply List.Sublist.cons_cons | apply List.Sublist.cons) | exact St.back (by assumption) (h.sublist (by repeat first | exact List.nil_sublist _ | exact List.Sublist.refl _ | apply List.Sublist.cons_cons | apply List.Sublist.cons))) ?_
                        refine M_a2 rfl rfl (a_alloc tab rfl rfl ?_) ?_
                        ·
                          intro b20
                          refine T_t0 ?_
                          refine T_f rfl (fun _ _ => y_assign rfl) rfl rfl rfl ?_
                          refine T_acts (fun _ h => by first | exact h.sublist (by repeat first | exact List.nil_sublist _ | exact List.Sublist.refl _ | apply List.Sublist.cons_cons | apply List.Sublist.cons) | exact St.back (by assumption) (h.sublist (by repeat first | exact List.nil_sublist _ | exact List.Sublist.refl _ | apply List.Sublist.cons_cons | apply List.Sublist.cons))) ?_
                          refine M_a2 rfl rfl (a_stw (us := eFault.cells (buildP ((insts.map bare) ++ [loneP job])).2) tab rfl rfl rfl rfl (eFault.one _) rfl ?_) ?_
                          ·
                            refine T_t0 ?_
                            refine T_nil (fun _ h => by first | exact h.sublist (by repeat first | exact List.nil_sublist _ | exact List.Sublist.refl _ | apply List.Sublist.cons_cons | apply List.Sublist.cons) | exact St.back (by assumption) (h.sublist (by repeat first | exact List.nil_sublist _ | exact List.Sublist.refl _ | apply List.Sublist.cons_cons | apply List.Sublist.cons))) ?_
                            refine K_thenA ?_
                            exact K_mid (J5, pv, pvs, b20) rfl (by repeat first | exact .nil _ | refine .cons rfl ?_) rfl ⟨hJ3.trans (hJ4.trans hJ5), hp⟩
                          exact M_nil
                        exact M_nil
                      refine M_a2 rfl rfl (a_alloc tab rfl rfl ?_) ?_
                      ·
                        intro b20
                        refine T_t0 ?_
                        refine T_acts (fun _ h => by first | exact h.sublist (by repeat first | exact List.nil_sublist _ | exact List.Sublist.refl _ | apply List.Sublist.cons_cons | apply List.Sublist.cons) | exact St.back (by assumption) (h.sublist (by repeat first | exact List.nil_sublist _ | exact List.Sublist.refl _ | apply List.Sublist.cons_cons | apply List.Sublist.cons))) ?_
                        refine M_a2 rfl rfl (a_call (enters_of Tryd.func23 (by kernel_rfl) rfl) rfl (f23_ok (insts := (insts.map bare) ++ [loneP job]) (hg.mono (hIJ2.trans (hJ3.trans hJ4))) (insts_snoc hrx2 (by omega) (fun k hk => ((hrF2 k (by omega)).mono hJ4).ok) (lone_ok ((hneed.mono hJ3).mono hJ4) (by have := hLow.len; omega)) (by rw [List.length_map]; omega))) rfl ?_) ?_
                        ·
                          rintro _ J5 _ hJ5 ⟨pv, pvs, rfl, hp, rfl⟩
                          refine T_t0 ?_
                          refine T_f rfl (fun _ _ => y_move rfl) rfl rfl rfl ?_
                          refine T_f rfl (fun _ _ => y_extract rfl rfl) rfl rfl rfl ?_
                          refine T_f rfl (fun _ _ => y_extract rfl rfl) rfl rfl rfl ?_
                          refine T_f rfl (fun _ _ => y_assign rfl) rfl rfl rfl ?_
                          refine T_acts (fun _ h => by first | exact h.sublist (by repeat first | exact List.nil_sublist _ | exact List.Sublist.refl _ | apply List.Sublist.cons_cons | apply List.Sublist.cons) | exact St.back (by assumption) (h.sublist (by repeat first | exact List.nil_sublist _ | exact List.Sublist.refl _ | apply List.Sublist.cons_cons | apply List.Sublist.cons))) ?_
                          refine M_a2 rfl rfl (a_stw (us := eFault.cells (buildP ((insts.map bare) ++ [loneP job])).2) tab rfl rfl rfl rfl (eFault.one _) rfl ?_) ?_
                          ·
                            refine T_t0 ?_
                            refine T_nil (fun _ h => by first | exact h.sublist (by repeat first | exact List.nil_sublist _ | exact List.Sublist.refl _ | apply List.Sublist.cons_cons | apply List.Sublist.cons) | exact St.back (by assumption) (h.sublist (by repeat first | exact List.nil_sublist _ | exact List.Sublist.refl _ | apply List.Sublist.cons_cons | apply List.Sublist.cons))) ?_
                            refine K_thenA ?_
                            exact K_mid (J5, pv, pvs, b20) rfl (by repeat first | exact .nil _ | refine .cons rfl ?_) rfl ⟨hJ3.trans (hJ4.trans hJ5), hp⟩
                          exact M_nil
                        exact M_nil
                      exact M_nil
                    refine M_a2 rfl rfl (a_alloc tab rfl rfl ?_) ?_
                    ·
                      intro b20
                      refine K_b2 ?_
                      refine T_t0 ?_
                      refine T_acts (fun _ h => by first | exact h.sublist (by repeat first | exact List.nil_sublist _ | exact List.Sublist.refl _ | apply List.Sublist.cons_cons | apply List.Sublist.cons) | exact St.back (by assumption) (h.sublist (by repeat first | exact List.nil_sublist _ | exact List.Sublist.refl _ | apply List.Sublist.cons_cons | apply List.Sublist.cons))) ?_
                      refine M_a2 rfl rfl (a_app (e := eInst) (ys := [loneI ⟨.slice (some ⟨b150, 0, none⟩) 1 1, rfl⟩]) tab rfl rfl rfl rfl rfl (rd_rowall .here) (by simp only [List.length_singleton]; omega) rfl ?_) ?_
                      ·
                        intro v157
                        refine K_f1 (K_drop ?_)
                        refine K_give (fun J4 hJ4 hrx2 => ?_)
                        refine T_t0 ?_
                        refine T_acts (fun _ h => by first | exact h.sublist (by repeat first | exact List.nil_sublist _ | exact List.Sublist.refl _ | apply List.Sublist.cons_cons | apply List.Sublist.cons) | exact St.back (by assumption) (h.sublist (by repeat first | exact List.nil_sublist _ | exact List.Sublist.refl _ | apply List.Sublist.cons_cons | apply List.Sublist.cons))) ?_
                        refine M_a2 rfl rfl (a_call (enters_of Tryd.func23 (by kernel_rfl) rfl) rfl (f23_ok (insts := (insts.map bare) ++ [loneP job]) (hg.mono (hIJ2.trans (hJ3.trans hJ4))) (insts_snoc hrx2 (by omega) (fun k hk => ((hrF2 k (by omega)).mono hJ4).ok) (lone_ok ((hneed.mono hJ3).mono hJ4) (by have := hLow.len; omega)) (by rw [List.length_map]; omega))) rfl ?_) ?_
                        ·
                          rintro _ J5 _ hJ5 ⟨pv, pvs, rfl, hp, rfl⟩
                          refine T_t0 ?_
                          refine T_f rfl (fun _ _ => y_move rfl) rfl rfl rfl ?_
                          refine T_f rfl (fun _ _ => y_extract rfl rfl) rfl rfl rfl ?_
                          refine T_f rfl (fun _ _ => y_extract rfl rfl) rfl rfl rfl ?_
                          refine T_f rfl (fun _ _ => y_assign rfl) rfl rfl rfl ?_
                          refine T_acts (fun _ h => by first | exact h.sublist (by repeat first | exact List.nil_sublist _ | exact List.Sublist.refl _ | apply List.Sublist.cons_cons | apply List.Sublist.cons) | exact St.back (by assumption) (h.sublist (by repeat first | exact List.nil_sublist _ | exact List.Sublist.refl _ | apply List.Sublist.cons_cons | apply List.Sublist.cons))) ?_
                          refine M_a2 rfl rfl (a_stw (us := eFault.cells (buildP ((insts.map bare) ++ [loneP job])).2) tab rfl rfl rfl rfl (eFault.one _) rfl ?_) ?_
                          ·
                            refine T_t0 ?_
                            refine T_nil (fun _ h => by first | exact h.sublist (by repeat first | exact List.nil_sublist _ | exact List.Sublist.refl _ | apply List.Sublist.cons_cons | apply List.Sublist.cons) | exact St.back (by assumption) (h.sublist (by repeat first | exact List.nil_sublist _ | exact List.Sublist.refl _ | apply List.Sublist.cons_cons | apply List.Sublist.cons))) ?_
                            refine K_thenA ?_
                            exact K_mid (J5, pv, pvs, b20) rfl (by repeat first | exact .nil _ | refine .cons rfl ?_) rfl ⟨hJ3.trans (hJ4.trans hJ5), hp⟩
                          exact M_nil
                        exact M_nil
                      exact M_nil
                    exact M_nil
                  refine M_a2 rfl rfl (a_alloc tab rfl rfl ?_) ?_
                  ·
                    intro b20
                    refine K_b1 ?_
                    refine T_t0 ?_
                    refine T_acts (fun _ h => by first | exact h.sublist (by repeat first | exact List.nil_sublist _ | exact List.Sublist.refl _ | apply List.Sublist.cons_cons | apply List.Sublist.cons) | exact St.back (by assumption) (h.sublist (by repeat first | exact List.nil_sublist _ | exact List.Sublist.refl _ | apply List.Sublist.cons_cons | apply List.Sublist.cons))) ?_
                    refine M_a2 rfl rfl (a_call (enters_of Tryd.func22 (by kernel_rfl) rfl) rfl (f22_ok (hI1.mono hJ2) (fun k hk => (hF1 k hk).mono hJ2)) rfl ?_) ?_
                    ·
                      rintro v154 J3 _ hJ3 ⟨rx2, rfl, hrl2, hrF2⟩
                      refine T_t0 ?_
                      refine T_acts (fun _ h => by first | exact h.sublist (by repeat first | exact List.nil_sublist _ | exact List.Sublist.refl _ | apply List.Sublist.cons_cons | apply List.Sublist.cons) | exact St.back (by assumption) (h.sublist (by repeat first | exact List.nil_sublist _ | exact List.Sublist.refl _ | apply List.Sublist.cons_cons | apply List.Sublist.cons))) ?_
                      refine M_a2 rfl rfl (a_app (e := eInst) (ys := [loneI ⟨.slice (some ⟨b150, 0, none⟩) 1 1, rfl⟩]) tab rfl rfl rfl rfl rfl (rd_rowall .here) (by simp only [List.length_singleton]; omega) rfl ?_) ?_
                      ·
                        intro v157
                        refine K_f1 (K_drop ?_)
                        refine K_give (fun J4 hJ4 hrx2 => ?_)
                        refine T_t0 ?_
                        refine T_acts (fun _ h => by first | exact h.sublist (by repeat first | exact List.nil_sublist _ | exact List.Sublist.refl _ | apply List.Sublist.cons_cons | apply List.Sublist.cons) | exact St.back (by assumption) (h.sublist (by repeat first | exact List.nil_sublist _ | exact List.Sublist.refl _ | apply List.Sublist.cons_cons | apply List.Sublist.cons))) ?_
                        refine M_a2 rfl rfl (a_call (enters_of Tryd.func23 (by kernel_rfl) rfl) rfl (f23_ok (insts := (insts.map bare) ++ [loneP job]) (hg.mono (hIJ2.trans (hJ3.trans hJ4))) (insts_snoc hrx2 (by omega) (fun k hk => ((hrF2 k (by omega)).mono hJ4).ok) (lone_ok ((hneed.mono hJ3).mono hJ4) (by have := hLow.len; omega)) (by rw [List.length_map]; omega))) rfl ?_) ?_
                        ·
                          rintro _ J5 _ hJ5 ⟨pv, pvs, rfl, hp, rfl⟩
                          refine T_t0 ?_
                          refine T_f rfl (fun _ _ => y_move rfl) rfl rfl rfl ?_
                          refine T_f rfl (fun _ _ => y_extract rfl rfl) rfl rfl rfl ?_
                          refine T_f rfl (fun _ _ => y_extract rfl rfl) rfl rfl rfl ?_
                          refine T_f rfl (fun _ _ => y_assign rfl) rfl rfl rfl ?_
                          refine T_acts (fun _ h => by first | exact h.sublist (by repeat first | exact List.nil_sublist _ | exact List.Sublist.refl _ | apply List.Sublist.cons_cons | apply List.Sublist.cons) | exact St.back (by assumption) (h.sublist (by repeat first | exact List.nil_sublist _ | exact List.Sublist.refl _ | apply List.Sublist.cons_cons | apply List.Sublist.cons))) ?_
                          refine M_a2 rfl rfl (a_stw (us := eFault.cells (buildP ((insts.map bare) ++ [loneP job])).2) tab rfl rfl rfl rfl (eFault.one _) rfl ?_) ?_
                          ·
                            refine T_t0 ?_
                            refine T_nil (fun _ h => by first | exact h.sublist (by repeat first | exact List.nil_sublist _ | exact List.Sublist.refl _ | apply List.Sublist.cons_cons | apply List.Sublist.cons) | exact St.back (by assumption) (h.sublist (by repeat first | exact List.nil_sublist _ | exact List.Sublist.refl _ | apply List.Sublist.cons_cons | apply List.Sublist.cons))) ?_
                            refine K_thenA ?_
                            exact K_mid (J5, pv, pvs, b20) rfl (by repeat first | exact .nil _ | refine .cons rfl ?_) rfl ⟨hJ3.trans (hJ4.trans hJ5), hp⟩
                          exact M_nil
                        exact M_nil
                      exact M_nil
                    exact M_nil
                  exact M_nil
                refine M_a1 rfl rfl (a_alloc tab rfl rfl ?_) ?_
                ·
                  intro b20
                  refine T_acts (fun _ h => by first | exact h.sublist (by repeat first | exact List.nil_sublist _ | exact List.Sublist.refl _ | apply List.Sublist.cons_cons | apply List.Sublist.cons) | exact St.back (by assumption) (h.sublist (by repeat first | exact List.nil_sublist _ | exact List.Sublist.refl _ | apply List.Sublist.cons_cons | apply List.Sublist.cons))) ?_
                  refine M_a1 rfl rfl (a_call (enters_of Tryd.func22 (by kernel_rfl) rfl) rfl (f22_ok (hI1.mono hJ2) (fun k hk => (hF1 k hk).mono hJ2)) rfl ?_) ?_
                  ·
                    rintro v154 J3 _ hJ3 ⟨rx2, rfl, hrl2, hrF2⟩
                    refine T_acts (fun _ h => by first | exact h.sublist (by repeat first | exact List.nil_sublist _ | exact List.Sublist.refl _ | apply List.Sublist.cons_cons | apply List.Sublist.cons) | exact St.back (by assumption) (h.sublist (by repeat first | exact List.nil_sublist _ | exact List.Sublist.refl _ | apply List.Sublist.cons_cons | apply List.Sublist.cons))) ?_
                    refine M_a2 rfl rfl (a_bs (e := eInst) (xs := [loneI ⟨.slice (some ⟨b150, 0, none⟩) 1 1, rfl⟩]) (os := [.tmp 155]) tab rfl rfl rfl rfl rfl rfl rfl rfl rfl ?_) ?_
                    ·
                      intro b156
                      refine K_b1 ?_
                      refine T_t0 ?_
                      refine T_acts (fun _ h => by first | exact h.sublist (by repeat first | exact List.nil_sublist _ | exact List.Sublist.refl _ | apply List.Sublist.cons_cons | apply List.Sublist.cons) | exact St.back (by assumption) (h.sublist (by repeat first | exact List.nil_sublist _ | exact List.Sublist.refl _ | apply List.Sublist.cons_cons | apply List.Sublist.cons))) ?_
                      refine M_a2 rfl rfl (a_app (e := eInst) (ys := [loneI ⟨.slice (some ⟨b150, 0, none⟩) 1 1, rfl⟩]) tab rfl rfl rfl rfl rfl (rd_rowall .here) (by simp only [List.length_singleton]; omega) rfl ?_) ?_
                      ·
                        intro v157
                        refine K_f1 (K_drop ?_)
                        refine K_give (fun J4 hJ4 hrx2 => ?_)
                        refine T_t0 ?_
                        refine T_acts (fun _ h => by first | exact h.sublist (by repeat first | exact List.nil_sublist _ | exact List.Sublist.refl _ | apply List.Sublist.cons_cons | apply List.Sublist.cons) | exact St.back (by assumption) (h.sublist (by repeat first | exact List.nil_sublist _ | exact List.Sublist.refl _ | apply List.Sublist.cons_cons | apply List.Sublist.cons))) ?_
                        refine M_a2 rfl rfl (a_call (enters_of Tryd.func23 (by kernel_rfl) rfl) rfl (f23_ok (insts := (insts.map bare) ++ [loneP job]) (hg.mono (hIJ2.trans (hJ3.trans hJ4))) (insts_snoc hrx2 (by omega) (fun k hk => ((hrF2 k (by omega)).mono hJ4).ok) (lone_ok ((hneed.mono hJ3).mono hJ4) (by have := hLow.len; omega)) (by rw [List.length_map]; omega))) rfl ?_) ?_
                        ·
                          rintro _ J5 _ hJ5 ⟨pv, pvs, rfl, hp, rfl⟩
                          refine T_t0 ?_
                          refine T_f rfl (fun _ _ => y_move rfl) rfl rfl rfl ?_
                          refine T_f rfl (fun _ _ => y_extract rfl rfl) rfl rfl rfl ?_
                          refine T_f rfl (fun _ _ => y_extract rfl rfl) rfl rfl rfl ?_
                          refine T_f rfl (fun _ _ => y_assign rfl) rfl rfl rfl ?_
                          refine T_acts (fun _ h => by first | exact h.sublist (by repeat first | exact List.nil_sublist _ | exact List.Sublist.refl _ | apply List.Sublist.cons_cons | apply List.Sublist.cons) | exact St.back (by assumption) (h.sublist (by repeat first | exact List.nil_sublist _ | exact List.Sublist.refl _ | apply List.Sublist.cons_cons | apply List.Sublist.cons))) ?_
                          refine M_a2 rfl rfl (a_stw (us := eFault.cells (buildP ((insts.map bare) ++ [loneP job])).2) tab rfl rfl rfl rfl (eFault.one _) rfl ?_) ?_
                          ·
                            refine T_t0 ?_
                            refine T_nil (fun _ h => by first | exact h.sublist (by repeat first | exact List.nil_sublist _ | exact List.Sublist.refl _ | apply List.Sublist.cons_cons | apply List.Sublist.cons) | exact St.back (by assumption) (h.sublist (by repeat first | exact List.nil_sublist _ | exact List.Sublist.refl _ | apply List.Sublist.cons_cons | apply List.Sublist.cons))) ?_
                            refine K_thenA ?_
                            exact K_mid (J5, pv, pvs, b20) rfl (by repeat first | exact .nil _ | refine .cons rfl ?_) rfl ⟨hJ3.trans (hJ4.trans hJ5), hp⟩
                          exact M_nil
                        exact M_nil
                      exact M_nil
                    exact M_nil
                  refine M_a2 rfl rfl (a_bs (e := eInst) (xs := [loneI ⟨.slice (some ⟨b150, 0, none⟩) 1 1, rfl⟩]) (os := [.tmp 155]) tab rfl rfl rfl rfl rfl rfl rfl rfl rfl ?_) ?_
                  ·
                    intro b156
                    refine T_t0 ?_
                    refine T_acts (fun _ h => by first | exact h.sublist (by repeat first | exact List.nil_sublist _ | exact List.Sublist.refl _ | apply List.Sublist.cons_cons | apply List.Sublist.cons) | exact St.back (by assumption) (h.sublist (by repeat first | exact List.nil_sublist _ | exact List.Sublist.refl _ | apply List.Sublist.cons_cons | apply List.Sublist.cons))) ?_
                    refine M_a2 rfl rfl (a_call (enters_of Tryd.func22 (by kernel_rfl) rfl) rfl (f22_ok (hI1.mono hJ2) (fun k hk => (hF1 k hk).mono hJ2)) rfl ?_) ?_
                    ·
                      rintro v154 J3 _ hJ3 ⟨rx2, rfl, hrl2, hrF2⟩
                      refine T_t0 ?_
                      refine T_acts (fun _ h => by first | exact h.sublist (by repeat first | exact List.nil_sublist _ | exact List.Sublist.refl _ | apply List.Sublist.cons_cons | apply List.Sublist.cons) | exact St.back (by assumption) (h.sublist (by repeat first | exact List.nil_sublist _ | exact List.Sublist.refl _ | apply List.Sublist.cons_cons | apply List.Sublist.cons))) ?_
                      refine M_a2 rfl rfl (a_app (e := eInst) (ys := [loneI ⟨.slice (some ⟨b150, 0, none⟩) 1 1, rfl⟩]) tab rfl rfl rfl rfl rfl (rd_rowall .here) (by simp only [List.length_singleton]; omega) rfl ?_) ?_
                      ·
                        intro v157
                        refine K_f1 (K_drop ?_)
                        refine K_give (fun J4 hJ4 hrx2 => ?_)
                        refine T_t0 ?_
                        refine T_acts (fun _ h => by first | exact h.sublist (by repeat first | exact List.nil_sublist _ | exact List.Sublist.refl _ | apply List.Sublist.cons_cons | apply List.Sublist.cons) | exact St.back (by assumption) (h.sublist (by repeat first | exact List.nil_sublist _ | exact List.Sublist.refl _ | apply List.Sublist.cons_cons | apply List.Sublist.cons))) ?_
                        refine M_a2 rfl rfl (a_call (enters_of Tryd.func23 (by kernel_rfl) rfl) rfl (f23_ok (insts := (insts.map bare) ++ [loneP job]) (hg.mono (hIJ2.trans (hJ3.trans hJ4))) (insts_snoc hrx2 (by omega) (fun k hk => ((hrF2 k (by omega)).mono hJ4).ok) (lone_ok ((hneed.mono hJ3).mono hJ4) (by have := hLow.len; omega)) (by rw [List.length_map]; omega))) rfl ?_) ?_
                        ·
                          rintro _ J5 _ hJ5 ⟨pv, pvs, rfl, hp, rfl⟩
                          refine T_t0 ?_
                          refine T_f rfl (fun _ _ => y_move rfl) rfl rfl rfl ?_
                          refine T_f rfl (fun _ _ => y_extract rfl rfl) rfl rfl rfl ?_
                          refine T_f rfl (fun _ _ => y_extract rfl rfl) rfl rfl rfl ?_
                          refine T_f rfl (fun _ _ => y_assign rfl) rfl rfl rfl ?_
                          refine T_acts (fun _ h => by first | exact h.sublist (by repeat first | exact List.nil_sublist _ | exact List.Sublist.refl _ | apply List.Sublist.cons_cons | apply List.Sublist.cons) | exact St.back (by assumption) (h.sublist (by repeat first | exact List.nil_sublist _ | exact List.Sublist.refl _ | apply List.Sublist.cons_cons | apply List.Sublist.cons))) ?_
                          refine M_a2 rfl rfl (a_stw (us := eFault.cells (buildP ((insts.map bare) ++ [loneP job])).2) tab rfl rfl rfl rfl (eFault.one _) rfl ?_) ?_
                          ·
                            refine T_t0 ?_
                            refine T_nil (fun _ h => by first | exact h.sublist (by repeat first | exact List.nil_sublist _ | exact List.Sublist.refl _ | apply List.Sublist.cons_cons | apply List.Sublist.cons) | exact St.back (by assumption) (h.sublist (by repeat first | exact List.nil_sublist _ | exact List.Sublist.refl _ | apply List.Sublist.cons_cons | apply List.Sublist.cons))) ?_
                            refine K_thenA ?_
                            exact K_mid (J5, pv, pvs, b20) rfl (by repeat first | exact .nil _ | refine .cons rfl ?_) rfl ⟨hJ3.trans (hJ4.trans hJ5), hp⟩
                          exact M_nil
                        exact M_nil
                      exact M_nil
                    exact M_nil
                  exact M_nil
                exact M_nil
              ·
                rintro ⟨J5, pv, pvs, b20⟩ ⟨hJ5, hp⟩
                simp only at hJ5 hp ⊢
                refine K_seq ?_
                refine K_seq ?_
                have hIJ := hIJ2.trans hJ5
                obtain ⟨hb1, hb2, hb3⟩ := build_need (insts := (insts.map bare)) (text := job) (job := job) (ps := []) hbare hLow (readP_job hLow)
                rw [List.length_map, ← hlen] at hb1 hb2 hb3
                refine K_region ?_
                refine W_y (y_move rfl) rfl rfl rfl ?_
                refine W_y (by first | exact y_eq rfl rfl | exact y_seq rfl rfl) rfl rfl rfl ?_
                refine K_nil ?_
                refine K_then ?_
                first | refine K_if rfl (fun h18 => ?_) (fun h18 => ?_) | refine K_ifn rfl (fun h18 => ?_) (fun h18 => ?_) | refine K_cond rfl (fun h18 => ?_) (fun h18 => ?_)
                ·
                  have h0 : (allP (ofQ (insts.map bare) job) raws.length).length = 0 := by omega
                  rw [hb1 h0] at hp ⊢
                  simp only at hp ⊢
                  have hpc := hp.top.sc
                  have hpl := hp.len
                  simp only [List.length_nil] at hpl
                  refine K_seq ?_
                  refine K_region ?_
                  refine W_y (y_load rfl (ld_agg tab rfl rfl rfl (rd_all .here))) rfl rfl rfl ?_
                  refine W_y (y_build tab rfl rfl rfl rfl rfl) rfl rfl rfl ?_
                  refine W_y (y_aeql (by kernel_rfl) (eqFault { hereF with code := 161 } { hereF with code := 161 }) rfl rfl) rfl rfl rfl ?_
                  rw [decide_eq_true (rfl : ({ hereF with code := 161 } : FaultV) = { hereF with code := 161 })]
                  refine W_y (y_move rfl) rfl rfl rfl ?_
                  refine K_split 166 rfl (fun h19 => ?_) (fun h19 => ?_)
                  ·
                    refine W_y (y_move rfl) rfl rfl rfl ?_
                    refine W_y (by first | exact y_lenc tab (by assumption) rfl rfl | exact y_lens tab rfl rfl | exact y_lenstr tab rfl rfl) rfl rfl rfl ?_
                    refine W_y (by first | exact y_eq rfl rfl | exact y_seq rfl rfl) rfl rfl rfl ?_
                    refine W_y (y_pick rfl rfl) rfl rfl rfl ?_
                    refine W_y (y_move rfl) rfl rfl rfl ?_
                    first | refine K_splitd 171 rfl (fun h20 => ?_) (fun h20 => ?_) | refine K_split 171 rfl (fun h20 => ?_) (fun h20 => ?_)
                    ·
                      refine W_a (a_call (enters_of Tryd.func19 (by kernel_rfl) rfl) rfl (f19_ok (hg.mono hIJ)) rfl ?_) rfl
                      rintro _ J9 _ hJ9 ⟨rfl, rfl⟩
                      refine W_y (y_pick rfl rfl) rfl rfl rfl ?_
                      refine W_y (y_assign rfl) rfl rfl rfl ?_
                      refine K_nil ?_
                      refine K_then ?_
                      refine K_ret ?_
                      refine K_then_ret ?_
                      refine K_out1 rfl (.tmp rfl) ?_
                      first
                        | exact fun w hw => ⟨_, _, _, rfl, hJ9, hw, rfl⟩
                        | exact fun w hw => ⟨_, _, _, rfl, hIJ.trans hJ9, hw, rfl⟩
                        | exact fun w hw => ⟨_, _, _, rfl, hIJ2.trans hJ9, hw, rfl⟩
                    ·
                      exact absurd (by omega) h20
                  ·
                    cases h19
                ·
                  have h0 : (allP (ofQ (insts.map bare) job) raws.length).length ≠ 0 := by omega
                  obtain ⟨pr, hpr, hbe⟩ := hb3 h0 (by rw [means_nil]; exact h0)
                  rw [means_nil] at hbe
                  rw [hbe] at hp ⊢
                  simp only at hp ⊢
                  have hpl := hp.len
                  rw [List.length_append, List.length_singleton, hpr] at hpl
                  have hpc := hp.top.sc
                  have hla := hp.at_ raws.length (by rw [List.length_append, List.length_singleton]; omega)
                  rw [show (pr ++ [allP (ofQ (insts.map bare) job) raws.length]).getD raws.length [] = allP (ofQ (insts.map bare) job) raws.length by rw [List.getD_eq_getElem?_getD, List.getElem?_append_right (by omega), show raws.length - pr.length = 0 by omega]; rfl] at hla
                  have hlc := hla.sc
                  refine K_skip ?_
                  refine K_then ?_
                  refine K_seq ?_
                  refine K_seq ?_
                  refine K_region ?_
                  refine W_y (by first | exact y_fa tab rfl rfl rfl rfl rfl | exact y_fae tab (by assumption) rfl rfl rfl rfl rfl) rfl rfl rfl ?_
                  refine W_y (y_load rfl (ld_cell tab rfl (rd_one .here rfl))) rfl rfl rfl ?_
                  refine W_y (by first | exact y_ne rfl rfl | exact y_sne rfl rfl) rfl rfl rfl ?_
                  refine W_y (y_move rfl) rfl rfl rfl ?_
                  refine K_split 177 rfl (fun h21 => ?_) (fun h21 => ?_)
                  ·
                    exact absurd h21 (by decide)
                  ·
                    refine W_y (y_move rfl) rfl rfl rfl ?_
                    refine W_y (by first | exact y_lenc tab (by assumption) rfl rfl | exact y_lens tab rfl rfl | exact y_lenstr tab rfl rfl) rfl rfl rfl ?_
                    refine W_y (y_move rfl) rfl rfl rfl ?_
                    refine W_y (by first | exact y_lenc tab (by assumption) rfl rfl | exact y_lens tab rfl rfl | exact y_lenstr tab rfl rfl) rfl rfl rfl ?_
                    refine W_y (y_add rfl rfl (by omega)) rfl rfl rfl ?_
                    refine W_y (by first | exact y_ne rfl rfl | exact y_sne rfl rfl) rfl rfl rfl ?_
                    refine W_y (y_pick rfl rfl) rfl rfl rfl ?_
                    refine W_y (y_move rfl) rfl rfl rfl ?_
                    first | refine K_splitd 185 rfl (fun h22 => ?_) (fun h22 => ?_) | refine K_split 185 rfl (fun h22 => ?_) (fun h22 => ?_)
                    ·
                      exfalso; simp at h22; omega
                    ·
                      refine W_y (y_move rfl) rfl rfl rfl ?_
                      refine W_y (y_move rfl) rfl rfl rfl ?_
                      refine W_y (by first | exact y_lenc tab (by assumption) rfl rfl | exact y_lens tab rfl rfl | exact y_lenstr tab rfl rfl) rfl rfl rfl ?_
                      refine W_y (y_ixN raws.length (y_ixi tab hp.top rfl rfl rfl rfl (by omega)) (by omega)) rfl rfl rfl ?_
                      refine W_y (y_load rfl (ld_vi (i := raws.length) tab hp.top rfl (by omega))) rfl rfl rfl ?_
                      refine W_y (y_lenc tab hlc rfl rfl) rfl rfl rfl ?_
                      refine W_y (y_move rfl) rfl rfl rfl ?_
                      refine W_y (by first | exact y_ne rfl rfl | exact y_sne rfl rfl) rfl rfl rfl ?_
                      refine W_y (y_pick rfl rfl) rfl rfl rfl ?_
                      refine K_nil ?_
                      refine K_then ?_
                      first | refine K_if rfl (fun h23 => ?_) (fun h23 => ?_) | refine K_ifn rfl (fun h23 => ?_) (fun h23 => ?_) | refine K_cond rfl (fun h23 => ?_) (fun h23 => ?_)
                      ·
                        exact absurd (by omega) h23
                      ·
                        refine K_skip ?_
                        refine K_then ?_
                        refine K_seq ?_
                        refine K_seq ?_
                        refine K_drop ?_
                        refine K_region ?_
                        refine W_y (y_assign rfl) rfl rfl rfl ?_
                        refine K_nil ?_
                        refine K_then ?_
                        refine K_block ?_
                        refine K_lp (σ := Nat) (fun s => J5) (fun s => [(0, v), (1, .string job), (2, .string nm), (3, .string val), (10, xv), (13, .int .i64 ((allP (ofQ (insts.map bare) job) raws.length).length : Int)), (14, wv), (18, .pointer (some ⟨b18, 0, none⟩)), (21, .int .i64 s)]) (fun s => blk b18 (.cells (eInst.cells (loneI ⟨.slice (some ⟨b150, 0, none⟩) 1 1, rfl⟩)).toArray 46 (0, 0)) :: row eInt 3 wv (allP (meansQ (insts.map bare) job [(nm, val)]) raws.length) :: l) (fun s => s ≤ val.size ∧ ∀ i, i < s → byteAt val i ≠ 44 ∧ byteAt val i ≠ 93) (fun s => val.size - s) 0 rfl (by repeat first | exact .nil _ | refine .cons rfl ?_) rfl ⟨Nat.zero_le _, fun i h => absurd h (Nat.not_lt_zero i)⟩ ?_
                        rintro k ⟨hk, hin⟩
                        refine K_seq ?_
                        refine K_seq ?_
                        refine K_region ?_
                        refine W_y (y_move rfl) rfl rfl rfl ?_
                        refine W_y (y_move rfl) rfl rfl rfl ?_
                        refine W_y (by first | exact y_lenc tab (by assumption) rfl rfl | exact y_lens tab rfl rfl | exact y_lenstr tab rfl rfl) rfl rfl rfl ?_
                        refine W_y (y_lt rfl rfl) rfl rfl rfl ?_
                        refine K_nil ?_
                        refine K_then ?_
                        first | refine K_if rfl (fun h24 => ?_) (fun h24 => ?_) | refine K_ifn rfl (fun h24 => ?_) (fun h24 => ?_) | refine K_cond rfl (fun h24 => ?_) (fun h24 => ?_)
                        ·
                          have hkl : k < val.size := by omega
                          refine K_skip ?_
                          refine K_then ?_
                          refine K_seq ?_
                          refine K_block ?_
                          refine K_seq ?_
                          refine K_region ?_
                          refine W_y (y_move rfl) rfl rfl rfl ?_
                          refine W_y (y_move rfl) rfl rfl rfl ?_
                          refine W_y (y_sidx tab k rfl rfl rfl ⟨rfl, by omega⟩) rfl rfl rfl ?_
                          refine W_y (by first | exact y_eq rfl rfl | exact y_seq rfl rfl) rfl rfl rfl ?_
                          refine W_y (y_move rfl) rfl rfl rfl ?_
                          first | refine K_splitd 205 rfl (fun h25 => ?_) (fun h25 => ?_) | refine K_split 205 rfl (fun h25 => ?_) (fun h25 => ?_)
                          ·
                            refine W_skip rfl rfl rfl ?_
                            refine W_skip rfl rfl rfl ?_
                            refine W_skip rfl rfl rfl ?_
                            refine W_skip rfl rfl rfl ?_
                            refine W_y (y_pick rfl rfl) rfl rfl rfl ?_
                            refine K_nil ?_
                            refine K_then ?_
                            refine K_yes rfl ?_
                            refine K_seq ?_
                            refine K_region ?_
                            refine W_a (a_call (enters_of Tryd.func19 (by kernel_rfl) rfl) rfl (f19_ok (hg.mono hIJ)) rfl ?_) rfl
                            rintro _ J9 _ hJ9 ⟨rfl, rfl⟩
                            refine W_y (y_assign rfl) rfl rfl rfl ?_
                            refine K_nil ?_
                            refine K_then ?_
                            refine K_ret ?_
                            refine K_in_ret ?_
                            refine K_then_ret ?_
                            refine K_then_ret ?_
                            refine K_in_ret ?_
                            refine K_then_ret ?_
                            refine K_out1 rfl (.tmp rfl) ?_
                            first
                              | exact fun w hw => ⟨_, _, _, rfl, hJ9, hw, rfl⟩
                              | exact fun w hw => ⟨_, _, _, rfl, hIJ.trans hJ9, hw, rfl⟩
                              | exact fun w hw => ⟨_, _, _, rfl, hIJ2.trans hJ9, hw, rfl⟩
                          ·
                            refine W_y (y_move rfl) rfl rfl rfl ?_
                            refine W_y (y_move rfl) rfl rfl rfl ?_
                            refine W_y (y_sidx tab k rfl rfl rfl ⟨rfl, by omega⟩) rfl rfl rfl ?_
                            refine W_y (by first | exact y_eq rfl rfl | exact y_seq rfl rfl) rfl rfl rfl ?_
                            refine W_y (y_pick rfl rfl) rfl rfl rfl ?_
                            refine K_nil ?_
                            refine K_then ?_
                            first | refine K_if rfl (fun h26 => ?_) (fun h26 => ?_) | refine K_ifn rfl (fun h26 => ?_) (fun h26 => ?_) | refine K_cond rfl (fun h26 => ?_) (fun h26 => ?_)
                            ·
                              refine K_seq ?_
                              refine K_region ?_
                              refine W_a (a_call (enters_of Tryd.func19 (by kernel_rfl) rfl) rfl (f19_ok (hg.mono hIJ)) rfl ?_) rfl
                              rintro _ J9 _ hJ9 ⟨rfl, rfl⟩
                              refine W_y (y_assign rfl) rfl rfl rfl ?_
                              refine K_nil ?_
                              refine K_then ?_
                              refine K_ret ?_
                              refine K_in_ret ?_
                              refine K_then_ret ?_
                              refine K_then_ret ?_
                              refine K_in_ret ?_
                              refine K_then_ret ?_
                              refine K_out1 rfl (.tmp rfl) ?_
                              first
                                | exact fun w hw => ⟨_, _, _, rfl, hJ9, hw, rfl⟩
                                | exact fun w hw => ⟨_, _, _, rfl, hIJ.trans hJ9, hw, rfl⟩
                                | exact fun w hw => ⟨_, _, _, rfl, hIJ2.trans hJ9, hw, rfl⟩
                            ·
                              refine K_skip ?_
                              refine K_in ?_
                              refine K_then ?_
                              refine K_region ?_
                              refine W_y (y_move rfl) rfl rfl rfl ?_
                              refine W_y (y_add rfl rfl (by omega)) rfl rfl rfl ?_
                              refine W_y (y_assign rfl) rfl rfl rfl ?_
                              refine K_nil ?_
                              refine K_thenA ?_
                              exact K_back (k + 1) rfl (by repeat first | exact .nil _ | refine .cons rfl ?_) rfl ⟨by omega, all_succ hin (by constructor <;> assumption)⟩ (by first | omega | (simp only; omega))
                        ·
                          have hke : k = val.size := by omega
                          subst hke
                          refine K_exit ?_
                          refine K_then_exit ?_
                          refine K_then_exit ?_
                          refine K_in_exit ?_
                          refine K_then ?_
                          refine K_seq ?_
                          refine K_seq ?_
                          refine K_region ?_
                          refine W_y (y_move rfl) rfl rfl rfl ?_
                          refine W_y (by first | exact y_ne rfl rfl | exact y_sne rfl rfl) rfl rfl rfl ?_
                          refine W_y (y_move rfl) rfl rfl rfl ?_
                          refine K_split 214 rfl (fun h27 => ?_) (fun h27 => ?_)
                          ·
                            refine W_y (y_move rfl) rfl rfl rfl ?_
                            refine W_y (by first | exact y_ne rfl rfl | exact y_sne rfl rfl) rfl rfl rfl ?_
                            refine W_y (y_pick rfl rfl) rfl rfl rfl ?_
                            refine K_nil ?_
                            refine K_then ?_
                            first | refine K_if rfl (fun h28 => ?_) (fun h28 => ?_) | refine K_ifn rfl (fun h28 => ?_) (fun h28 => ?_) | refine K_cond rfl (fun h28 => ?_) (fun h28 => ?_)
                            ·
                              refine K_seq ?_
                              refine K_region ?_
                              refine W_a (a_call (enters_of Tryd.func19 (by kernel_rfl) rfl) rfl (f19_ok (hg.mono hIJ)) rfl ?_) rfl
                              rintro _ J9 _ hJ9 ⟨rfl, rfl⟩
                              refine W_y (y_assign rfl) rfl rfl rfl ?_
                              refine K_nil ?_
                              refine K_then ?_
                              refine K_ret ?_
                              refine K_then_ret ?_
                              refine K_out1 rfl (.tmp rfl) ?_
                              first
                                | exact fun w hw => ⟨_, _, _, rfl, hJ9, hw, rfl⟩
                                | exact fun w hw => ⟨_, _, _, rfl, hIJ.trans hJ9, hw, rfl⟩
                                | exact fun w hw => ⟨_, _, _, rfl, hIJ2.trans hJ9, hw, rfl⟩
                            ·
                              have hnmA : nm = ⟨#[111, 115]⟩ := h28
                              have hPl : Plain1 nm val := ⟨.inr hnmA, fun hm => by obtain ⟨i, h1, h2⟩ := bytes_mem hm; exact (hin i h1).1 h2, fun hm => by obtain ⟨i, h1, h2⟩ := bytes_mem hm; exact (hin i h1).2 h2⟩
                              have hm2 : nm.size ≤ 2 := by rw [hnmA]; decide
                              refine K_skip ?_
                              refine K_then ?_
                              refine K_seq ?_
                              have hJb5 := hJ5.at_ _ _ hJb
                              refine K_thawrow hJb5 hLent ?_
                              have hJ16 := Imm.le_del2 (hJ2.trans hJ5) hnb
                              have hIJ6 := hJ1.trans hJ16
                              have hts : (needT job nm val).size < 4294967281 := by unfold needT; simp only [ByteArray.size_append, hch]; have := hLow.len; omega
                              refine K_region ?_
                              refine W_y (by first | exact y_fa tab rfl rfl rfl rfl rfl | exact y_fae tab (by assumption) rfl rfl rfl rfl rfl) rfl rfl rfl ?_
                              refine W_y (y_load rfl (ld_cell tab rfl (rd_one (.there .here) rfl))) rfl rfl rfl ?_
                              refine W_y (y_move rfl) rfl rfl rfl ?_
                              refine W_y (y_cat rfl rfl (by simp only [hch]; omega)) rfl rfl rfl ?_
                              refine W_y (y_move rfl) rfl rfl rfl ?_
                              refine W_y (y_cat rfl rfl (by simp only [ByteArray.size_append, hch]; omega)) rfl rfl rfl ?_
                              refine W_y (y_cat rfl rfl (by simp only [ByteArray.size_append, hch]; omega)) rfl rfl rfl ?_
                              refine W_y (y_move rfl) rfl rfl rfl ?_
                              refine W_y (y_cat rfl rfl (by simp only [ByteArray.size_append, hch]; omega)) rfl rfl rfl ?_
                              refine W_y (y_cat rfl rfl (by simp only [ByteArray.size_append, hch]; omega)) rfl rfl rfl ?_
                              refine W_y (y_ixv tab rfl rfl rfl rfl (by omega) (by decide)) rfl rfl rfl ?_
                              refine W_y (y_fae tab ⟨b150, 0, 1, rfl⟩ rfl rfl rfl rfl rfl) rfl rfl rfl ?_
                              refine W_a (a_ste (e := eNeed) (i := 0) (j := 0) (a := ⟨job, hereF⟩) (a' := ⟨needT job nm val, hereF⟩) tab rfl rfl rfl rfl rfl rfl rfl rfl rfl ?_) rfl
                              refine K_lendrow (e := eNeed) (E := 53) (b := b150) (cap := 1) (xs := [⟨needT job nm val, hereF⟩]) (fun J7 cur7 hJ7 hnb7 hJb7 hLent7 hneed7 => ?_)
                              have hJ17 := hJ16.trans hJ7
                              have hIJ7 := hJ1.trans hJ17
                              obtain ⟨_, hb4, hb5⟩ := build_need (insts := (insts.map bare)) (text := needT job nm val) (job := job) (ps := [(nm, val)]) hbare hLow (readP_pair hLow hPl)
                              rw [List.length_map, ← hlen] at hb4 hb5
                              refine K_nil ?_
                              refine K_then ?_
                              refine K_cutS (σ := Imm × Value × List SV × Nat) (fun s => s.1) (fun s => [(0, v), (1, .string job), (2, .string nm), (3, .string val), (10, xv), (13, .int .i64 ((allP (ofQ (insts.map bare) job) raws.length).length : Int)), (14, wv), (18, .pointer (some ⟨b18, 0, none⟩)), (22, s.2.1), (23, .pointer (some ⟨s.2.2.2, 0, none⟩))]) (fun s => blk s.2.2.2 (.cells (eFault.cells (buildP ((insts.map bare) ++ [loneP (needT job nm val)])).2).toArray 44 (0, 0)) :: blk b18 (.cells (eInst.cells (loneI ⟨.slice (some ⟨b150, 0, none⟩) 1 1, rfl⟩)).toArray 46 (0, 0)) :: row eInt 3 wv (allP (meansQ (insts.map bare) job [(nm, val)]) raws.length) :: l) (fun s => J7.le s.1 ∧ RowII eInt s.1 s.2.1 s.2.2.1 (buildP ((insts.map bare) ++ [loneP (needT job nm val)])).1) ?_ ?_
                              ·
                                refine K_drawT (.q 0 false (.q 2 true (.act 1 false [] (.act 3 true [4, 5, 9, 11] (.act 4 true [5, 9, 11] (.act 5 true [9, 11] (.q 6 false (.q 7 false (.q 8 false (.act 9 true [11] (.q 10 false (.act 11 true [] .nil .nil)) .nil)))) (.act 9 true [5, 11] (.act 5 true [11] (.q 6 false (.q 7 false (.q 8 false (.q 10 false (.act 11 true [] .nil .nil))))) .nil) .nil)) (.act 9 true [4, 5, 11] (.act 4 true [5, 11] (.act 5 true [11] (.q 6 false (.q 7 false (.q 8 false (.q 10 false (.act 11 true [] .nil .nil))))) .nil) .nil) .nil)) (.act 9 false [] (.act 3 true [4, 5, 11] (.act 4 true [5, 11] (.act 5 true [11] (.q 6 false (.q 7 false (.q 8 false (.q 10 false (.act 11 true [] .nil .nil))))) .nil) .nil) .nil) .nil)) (.act 3 true [1, 4, 5, 9, 11] (.act 1 true [4, 5, 9, 11] (.act 4 true [5, 9, 11] (.act 5 true [9, 11] (.q 6 false (.q 7 false (.q 8 false (.act 9 true [11] (.q 10 false (.act 11 true [] .nil .nil)) .nil)))) (.act 9 true [5, 11] (.act 5 true [11] (.q 6 false (.q 7 false (.q 8 false (.q 10 false (.act 11 true [] .nil .nil))))) .nil) .nil)) (.act 9 true [4, 5, 11] (.act 4 true [5, 11] (.act 5 true [11] (.q 6 false (.q 7 false (.q 8 false (.q 10 false (.act 11 true [] .nil .nil))))) .nil) .nil) .nil)) (.act 9 true [1, 4, 5, 11] (.act 1 true [4, 5, 11] (.act 4 true [5, 11] (.act 5 true [11] (.q 6 false (.q 7 false (.q 8 false (.q 10 false (.act 11 true [] .nil .nil))))) .nil) .nil) .nil) .nil)) (.act 9 false [] (.act 1 false [] (.act 3 true [4, 5, 11] (.act 4 true [5, 11] (.act 5 true [11] (.q 6 false (.q 7 false (.q 8 false (.q 10 false (.act 11 true [] .nil .nil))))) .nil) .nil) .nil) (.act 3 true [1, 4, 5, 11] (.act 1 true [4, 5, 11] (.act 4 true [5, 11] (.act 5 true [11] (.q 6 false (.q 7 false (.q 8 false (.q 10 false (.act 11 true [] .nil .nil))))) .nil) .nil) .nil) .nil)) .nil))))) [3, 11] [blk b18 (.cells (eInst.cells (loneI ⟨.slice (some ⟨b150, 0, none⟩) 1 1, rfl⟩)).toArray 46 (0, 0))] rfl (by kernel_rfl) (by intro c a d v w h; cases d <;> exact h) ?_
                                refine T_f rfl (fun _ _ => y_move rfl) rfl rfl rfl ?_
                                refine T_y rfl (y_load rfl (ld_agg tab rfl rfl rfl (rd_all .here))) rfl rfl rfl ?_
                                refine T_acts (fun _ h => by first | exact h.sublist (by repeat first | exact List.nil_sublist _ | exact List.Sublist.refl _ | apply List.Sublist.cons_cons | apply List.Sublist.cons) | exact St.back (by assumption) (h.sublist (by repeat first | exact List.nil_sublist _ | exact List.Sublist.refl _ | apply List.Sublist.cons_cons | apply List.Sublist.cons))) ?_
                                refine M_a1 rfl rfl (a_call (enters_of Tryd.func22 (by kernel_rfl) rfl) rfl (f22_ok (hI1.mono hJ17) (fun k hk => (hF1 k hk).mono hJ17)) rfl ?_) ?_
                                ·
                                  rintro v233 J3 _ hJ3 ⟨rx2, rfl, hrl2, hrF2⟩
                                  refine T_acts (fun _ h => by first | exact h.sublist (by repeat first | exact List.nil_sublist _ | exact List.Sublist.refl _ | apply List.Sublist.cons_cons | apply List.Sublist.cons) | exact St.back (by assumption) (h.sublist (by repeat first | exact List.nil_sublist _ | exact List.Sublist.refl _ | apply List.Sublist.cons_cons | apply List.Sublist.cons))) ?_
                                  refine M_a2 rfl rfl (a_bs (e := eInst) (xs := [loneI ⟨.slice (some ⟨b150, 0, none⟩) 1 1, rfl⟩]) (os := [.tmp 234]) tab rfl rfl rfl rfl rfl rfl rfl rfl rfl ?_) ?_
                                  ·
                                    intro b235
                                    refine K_b1 ?_
                                    refine T_t0 ?_
                                    refine T_acts (fun _ h => by first | exact h.sublist (by repeat first | exact List.nil_sublist _ | exact List.Sublist.refl _ | apply List.Sublist.cons_cons | apply List.Sublist.cons) | exact St.back (by assumption) (h.sublist (by repeat first | exact List.nil_sublist _ | exact List.Sublist.refl _ | apply List.Sublist.cons_cons | apply List.Sublist.cons))) ?_
                                    refine M_a2 rfl rfl (a_app (e := eInst) (ys := [loneI ⟨.slice (some ⟨b150, 0, none⟩) 1 1, rfl⟩]) tab rfl rfl rfl rfl rfl (rd_rowall .here) (by simp only [List.length_singleton]; omega) rfl ?_) ?_
                                    ·
                                      intro v236
                                      refine K_f1 (K_drop ?_)
                                      refine K_give (fun J4 hJ4 hrx2 => ?_)
                                      refine T_t0 ?_
                                      refine T_acts (fun _ h => by first | exact h.sublist (by repeat first | exact List.nil_sublist _ | exact List.Sublist.refl _ | apply List.Sublist.cons_cons | apply List.Sublist.cons) | exact St.back (by assumption) (h.sublist (by repeat first | exact List.nil_sublist _ | exact List.Sublist.refl _ | apply List.Sublist.cons_cons | apply List.Sublist.cons))) ?_
                                      refine M_a2 rfl rfl (a_call (enters_of Tryd.func23 (by kernel_rfl) rfl) rfl (f23_ok (insts := (insts.map bare) ++ [loneP (needT job nm val)]) (hg.mono (hIJ7.trans (hJ3.trans hJ4))) (insts_snoc hrx2 (by omega) (fun k hk => ((hrF2 k (by omega)).mono hJ4).ok) (lone_ok ((hneed7.mono hJ3).mono hJ4) hts) (by rw [List.length_map]; omega))) rfl ?_) ?_
                                      ·
                                        rintro _ J5 _ hJ5 ⟨pv, pvs, rfl, hp, rfl⟩
                                        refine T_t0 ?_
                                        refine T_f rfl (fun _ _ => y_move rfl) rfl rfl rfl ?_
                                        refine T_f rfl (fun _ _ => y_extract rfl rfl) rfl rfl rfl ?_
                                        refine T_f rfl (fun _ _ => y_extract rfl rfl) rfl rfl rfl ?_
                                        refine T_acts (fun _ h => by first | exact h.sublist (by repeat first | exact List.nil_sublist _ | exact List.Sublist.refl _ | apply List.Sublist.cons_cons | apply List.Sublist.cons) | exact St.back (by assumption) (h.sublist (by repeat first | exact List.nil_sublist _ | exact List.Sublist.refl _ | apply List.Sublist.cons_cons | apply List.Sublist.cons))) ?_
                                        refine M_a2 rfl rfl (a_alloc tab rfl rfl ?_) ?_
                                        ·
                                          intro b23
                                          refine T_t0 ?_
                                          refine T_f rfl (fun _ _ => y_assign rfl) rfl rfl rfl ?_
                                          refine T_acts (fun _ h => by first | exact h.sublist (by repeat first | exact List.nil_sublist _ | exact List.Sublist.refl _ | apply List.Sublist.cons_cons | apply List.Sublist.cons) | exact St.back (by assumption) (h.sublist (by repeat first | exact List.nil_sublist _ | exact List.Sublist.refl _ | apply List.Sublist.cons_cons | apply List.Sublist.cons))) ?_
                                          refine M_a2 rfl rfl (a_stw (us := eFault.cells (buildP ((insts.map bare) ++ [loneP (needT job nm val)])).2) tab rfl rfl rfl rfl (eFault.one _) rfl ?_) ?_
                                          ·
                                            refine T_t0 ?_
                                            refine T_nil (fun _ h => by first | exact h.sublist (by repeat first | exact List.nil_sublist _ | exact List.Sublist.refl _ | apply List.Sublist.cons_cons | apply List.Sublist.cons) | exact St.back (by assumption) (h.sublist (by repeat first | exact List.nil_sublist _ | exact List.Sublist.refl _ | apply List.Sublist.cons_cons | apply List.Sublist.cons))) ?_
                                            refine K_thenA ?_
                                            exact K_mid (J5, pv, pvs, b23) rfl (by repeat first | exact .nil _ | refine .cons rfl ?_) rfl ⟨hJ3.trans (hJ4.trans hJ5), hp⟩
                                          exact M_nil
                                        exact M_nil
                                      refine M_a2 rfl rfl (a_alloc tab rfl rfl ?_) ?_
                                      ·
                                        intro b23
                                        refine T_t0 ?_
                                        refine T_acts (fun _ h => by first | exact h.sublist (by repeat first | exact List.nil_sublist _ | exact List.Sublist.refl _ | apply List.Sublist.cons_cons | apply List.Sublist.cons) | exact St.back (by assumption) (h.sublist (by repeat first | exact List.nil_sublist _ | exact List.Sublist.refl _ | apply List.Sublist.cons_cons | apply List.Sublist.cons))) ?_
                                        refine M_a2 rfl rfl (a_call (enters_of Tryd.func23 (by kernel_rfl) rfl) rfl (f23_ok (insts := (insts.map bare) ++ [loneP (needT job nm val)]) (hg.mono (hIJ7.trans (hJ3.trans hJ4))) (insts_snoc hrx2 (by omega) (fun k hk => ((hrF2 k (by omega)).mono hJ4).ok) (lone_ok ((hneed7.mono hJ3).mono hJ4) hts) (by rw [List.length_map]; omega))) rfl ?_) ?_
                                        ·
                                          rintro _ J5 _ hJ5 ⟨pv, pvs, rfl, hp, rfl⟩
                                          refine T_t0 ?_
                                          refine T_f rfl (fun _ _ => y_move rfl) rfl rfl rfl ?_
                                          refine T_f rfl (fun _ _ => y_extract rfl rfl) rfl rfl rfl ?_
                                          refine T_f rfl (fun _ _ => y_extract rfl rfl) rfl rfl rfl ?_
                                          refine T_f rfl (fun _ _ => y_assign rfl) rfl rfl rfl ?_
                                          refine T_acts (fun _ h => by first | exact h.sublist (by repeat first | exact List.nil_sublist _ | exact List.Sublist.refl _ | apply List.Sublist.cons_cons | apply List.Sublist.cons) | exact St.back (by assumption) (h.sublist (by repeat first | exact List.nil_sublist _ | exact List.Sublist.refl _ | apply List.Sublist.cons_cons | apply List.Sublist.cons))) ?_
                                          refine M_a2 rfl rfl (a_stw (us := eFault.cells (buildP ((insts.map bare) ++ [loneP (needT job nm val)])).2) tab rfl rfl rfl rfl (eFault.one _) rfl ?_) ?_
                                          ·
                                            refine T_t0 ?_
                                            refine T_nil (fun _ h => by first | exact h.sublist (by repeat first | exact List.nil_sublist _ | exact List.Sublist.refl _ | apply List.Sublist.cons_cons | apply List.Sublist.cons) | exact St.back (by assumption) (h.sublist (by repeat first | exact List.nil_sublist _ | exact List.Sublist.refl _ | apply List.Sublist.cons_cons | apply List.Sublist.cons))) ?_
                                            refine K_thenA ?_
                                            exact K_mid (J5, pv, pvs, b23) rfl (by repeat first | exact .nil _ | refine .cons rfl ?_) rfl ⟨hJ3.trans (hJ4.trans hJ5), hp⟩
                                          exact M_nil
                                        exact M_nil
                                      exact M_nil
                                    refine M_a2 rfl rfl (a_alloc tab rfl rfl ?_) ?_
                                    ·
                                      intro b23
                                      refine K_b2 ?_
                                      refine T_t0 ?_
                                      refine T_acts (fun _ h => by first | exact h.sublist (by repeat first | exact List.nil_sublist _ | exact List.Sublist.refl _ | apply List.Sublist.cons_cons | apply List.Sublist.cons) | exact St.back (by assumption) (h.sublist (by repeat first | exact List.nil_sublist _ | exact List.Sublist.refl _ | apply List.Sublist.cons_cons | apply List.Sublist.cons))) ?_
                                      refine M_a2 rfl rfl (a_app (e := eInst) (ys := [loneI ⟨.slice (some ⟨b150, 0, none⟩) 1 1, rfl⟩]) tab rfl rfl rfl rfl rfl (rd_rowall .here) (by simp only [List.length_singleton]; omega) rfl ?_) ?_
                                      ·
                                        intro v236
                                        refine K_f1 (K_drop ?_)
                                        refine K_give (fun J4 hJ4 hrx2 => ?_)
                                        refine T_t0 ?_
                                        refine T_acts (fun _ h => by first | exact h.sublist (by repeat first | exact List.nil_sublist _ | exact List.Sublist.refl _ | apply List.Sublist.cons_cons | apply List.Sublist.cons) | exact St.back (by assumption) (h.sublist (by repeat first | exact List.nil_sublist _ | exact List.Sublist.refl _ | apply List.Sublist.cons_cons | apply List.Sublist.cons))) ?_
                                        refine M_a2 rfl rfl (a_call (enters_of Tryd.func23 (by kernel_rfl) rfl) rfl (f23_ok (insts := (insts.map bare) ++ [loneP (needT job nm val)]) (hg.mono (hIJ7.trans (hJ3.trans hJ4))) (insts_snoc hrx2 (by omega) (fun k hk => ((hrF2 k (by omega)).mono hJ4).ok) (lone_ok ((hneed7.mono hJ3).mono hJ4) hts) (by rw [List.length_map]; omega))) rfl ?_) ?_
                                        ·
                                          rintro _ J5 _ hJ5 ⟨pv, pvs, rfl, hp, rfl⟩
                                          refine T_t0 ?_
                                          refine T_f rfl (fun _ _ => y_move rfl) rfl rfl rfl ?_
                                          refine T_f rfl (fun _ _ => y_extract rfl rfl) rfl rfl rfl ?_
                                          refine T_f rfl (fun _ _ => y_extract rfl rfl) rfl rfl rfl ?_
                                          refine T_f rfl (fun _ _ => y_assign rfl) rfl rfl rfl ?_
                                          refine T_acts (fun _ h => by first | exact h.sublist (by repeat first | exact List.nil_sublist _ | exact List.Sublist.refl _ | apply List.Sublist.cons_cons | apply List.Sublist.cons) | exact St.back (by assumption) (h.sublist (by repeat first | exact List.nil_sublist _ | exact List.Sublist.refl _ | apply List.Sublist.cons_cons | apply List.Sublist.cons))) ?_
                                          refine M_a2 rfl rfl (a_stw (us := eFault.cells (buildP ((insts.map bare) ++ [loneP (needT job nm val)])).2) tab rfl rfl rfl rfl (eFault.one _) rfl ?_) ?_
                                          ·
                                            refine T_t0 ?_
                                            refine T_nil (fun _ h => by first | exact h.sublist (by repeat first | exact List.nil_sublist _ | exact List.Sublist.refl _ | apply List.Sublist.cons_cons | apply List.Sublist.cons) | exact St.back (by assumption) (h.sublist (by repeat first | exact List.nil_sublist _ | exact List.Sublist.refl _ | apply List.Sublist.cons_cons | apply List.Sublist.cons))) ?_
                                            refine K_thenA ?_
                                            exact K_mid (J5, pv, pvs, b23) rfl (by repeat first | exact .nil _ | refine .cons rfl ?_) rfl ⟨hJ3.trans (hJ4.trans hJ5), hp⟩
                                          exact M_nil
                                        exact M_nil
                                      exact M_nil
                                    exact M_nil
                                  refine M_a1 rfl rfl (a_alloc tab rfl rfl ?_) ?_
                                  ·
                                    intro b23
                                    refine K_b1 ?_
                                    refine T_acts (fun _ h => by first | exact h.sublist (by repeat first | exact List.nil_sublist _ | exact List.Sublist.refl _ | apply List.Sublist.cons_cons | apply List.Sublist.cons) | exact St.back (by assumption) (h.sublist (by repeat first | exact List.nil_sublist _ | exact List.Sublist.refl _ | apply List.Sublist.cons_cons | apply List.Sublist.cons))) ?_
                                    refine M_a2 rfl rfl (a_bs (e := eInst) (xs := [loneI ⟨.slice (some ⟨b150, 0, none⟩) 1 1, rfl⟩]) (os := [.tmp 234]) tab rfl rfl rfl rfl rfl rfl rfl rfl rfl ?_) ?_
                                    ·
                                      intro b235
                                      refine K_b1 ?_
                                      refine T_t0 ?_
                                      refine T_acts (fun _ h => by first | exact h.sublist (by repeat first | exact List.nil_sublist _ | exact List.Sublist.refl _ | apply List.Sublist.cons_cons | apply List.Sublist.cons) | exact St.back (by assumption) (h.sublist (by repeat first | exact List.nil_sublist _ | exact List.Sublist.refl _ | apply List.Sublist.cons_cons | apply List.Sublist.cons))) ?_
                                      refine M_a2 rfl rfl (a_app (e := eInst) (ys := [loneI ⟨.slice (some ⟨b150, 0, none⟩) 1 1, rfl⟩]) tab rfl rfl rfl rfl rfl (rd_rowall .here) (by simp only [List.length_singleton]; omega) rfl ?_) ?_
                                      ·
                                        intro v236
                                        refine K_f1 (K_drop ?_)
                                        refine K_give (fun J4 hJ4 hrx2 => ?_)
                                        refine T_t0 ?_
                                        refine T_acts (fun _ h => by first | exact h.sublist (by repeat first | exact List.nil_sublist _ | exact List.Sublist.refl _ | apply List.Sublist.cons_cons | apply List.Sublist.cons) | exact St.back (by assumption) (h.sublist (by repeat first | exact List.nil_sublist _ | exact List.Sublist.refl _ | apply List.Sublist.cons_cons | apply List.Sublist.cons))) ?_
                                        refine M_a2 rfl rfl (a_call (enters_of Tryd.func23 (by kernel_rfl) rfl) rfl (f23_ok (insts := (insts.map bare) ++ [loneP (needT job nm val)]) (hg.mono (hIJ7.trans (hJ3.trans hJ4))) (insts_snoc hrx2 (by omega) (fun k hk => ((hrF2 k (by omega)).mono hJ4).ok) (lone_ok ((hneed7.mono hJ3).mono hJ4) hts) (by rw [List.length_map]; omega))) rfl ?_) ?_
                                        ·
                                          rintro _ J5 _ hJ5 ⟨pv, pvs, rfl, hp, rfl⟩
                                          refine T_t0 ?_
                                          refine T_f rfl (fun _ _ => y_move rfl) rfl rfl rfl ?_
                                          refine T_f rfl (fun _ _ => y_extract rfl rfl) rfl rfl rfl ?_
                                          refine T_f rfl (fun _ _ => y_extract rfl rfl) rfl rfl rfl ?_
                                          refine T_f rfl (fun _ _ => y_assign rfl) rfl rfl rfl ?_
                                          refine T_acts (fun _ h => by first | exact h.sublist (by repeat first | exact List.nil_sublist _ | exact List.Sublist.refl _ | apply List.Sublist.cons_cons | apply List.Sublist.cons) | exact St.back (by assumption) (h.sublist (by repeat first | exact List.nil_sublist _ | exact List.Sublist.refl _ | apply List.Sublist.cons_cons | apply List.Sublist.cons))) ?_
                                          refine M_a2 rfl rfl (a_stw (us := eFault.cells (buildP ((insts.map bare) ++ [loneP (needT job nm val)])).2) tab rfl rfl rfl rfl (eFault.one _) rfl ?_) ?_
                                          ·
                                            refine T_t0 ?_
                                            refine T_nil (fun _ h => by first | exact h.sublist (by repeat first | exact List.nil_sublist _ | exact List.Sublist.refl _ | apply List.Sublist.cons_cons | apply List.Sublist.cons) | exact St.back (by assumption) (h.sublist (by repeat first | exact List.nil_sublist _ | exact List.Sublist.refl _ | apply List.Sublist.cons_cons | apply List.Sublist.cons))) ?_
                                            refine K_thenA ?_
                                            exact K_mid (J5, pv, pvs, b23) rfl (by repeat first | exact .nil _ | refine .cons rfl ?_) rfl ⟨hJ3.trans (hJ4.trans hJ5), hp⟩
                                          exact M_nil
                                        exact M_nil
                                      exact M_nil
                                    exact M_nil
                                  exact M_nil
                                refine M_a2 rfl rfl (a_bs (e := eInst) (xs := [loneI ⟨.slice (some ⟨b150, 0, none⟩) 1 1, rfl⟩]) (os := [.tmp 234]) tab rfl rfl rfl rfl rfl rfl rfl rfl rfl ?_) ?_
                                ·
                                  intro b235
                                  refine T_t0 ?_
                                  refine T_acts (fun _ h => by first | exact h.sublist (by repeat first | exact List.nil_sublist _ | exact List.Sublist.refl _ | apply List.Sublist.cons_cons | apply List.Sublist.cons) | exact St.back (by assumption) (h.sublist (by repeat first | exact List.nil_sublist _ | exact List.Sublist.refl _ | apply List.Sublist.cons_cons | apply List.Sublist.cons))) ?_
                                  refine M_a2 rfl rfl (a_call (enters_of Tryd.func22 (by kernel_rfl) rfl) rfl (f22_ok (hI1.mono hJ17) (fun k hk => (hF1 k hk).mono hJ17)) rfl ?_) ?_
                                  ·
                                    rintro v233 J3 _ hJ3 ⟨rx2, rfl, hrl2, hrF2⟩
                                    refine T_t0 ?_
                                    refine T_acts (fun _ h => by first | exact h.sublist (by repeat first | exact List.nil_sublist _ | exact List.Sublist.refl _ | apply List.Sublist.cons_cons | apply List.Sublist.cons) | exact St.back (by assumption) (h.sublist (by repeat first | exact List.nil_sublist _ | exact List.Sublist.refl _ | apply List.Sublist.cons_cons | apply List.Sublist.cons))) ?_
                                    refine M_a2 rfl rfl (a_app (e := eInst) (ys := [loneI ⟨.slice (some ⟨b150, 0, none⟩) 1 1, rfl⟩]) tab rfl rfl rfl rfl rfl (rd_rowall .here) (by simp only [List.length_singleton]; omega) rfl ?_) ?_
                                    ·
                                      intro v236
                                      refine K_f1 (K_drop ?_)
                                      refine K_give (fun J4 hJ4 hrx2 => ?_)
                                      refine T_t0 ?_
                                      refine T_acts (fun _ h => by first | exact h.sublist (by repeat first | exact List.nil_sublist _ | exact List.Sublist.refl _ | apply List.Sublist.cons_cons | apply List.Sublist.cons) | exact St.back (by assumption) (h.sublist (by repeat first | exact List.nil_sublist _ | exact List.Sublist.refl _ | apply List.Sublist.cons_cons | apply List.Sublist.cons))) ?_
                                      refine M_a2 rfl rfl (a_call (enters_of Tryd.func23 (by kernel_rfl) rfl) rfl (f23_ok (insts := (insts.map bare) ++ [loneP (needT job nm val)]) (hg.mono (hIJ7.trans (hJ3.trans hJ4))) (insts_snoc hrx2 (by omega) (fun k hk => ((hrF2 k (by omega)).mono hJ4).ok) (lone_ok ((hneed7.mono hJ3).mono hJ4) hts) (by rw [List.length_map]; omega))) rfl ?_) ?_
                                      ·
                                        rintro _ J5 _ hJ5 ⟨pv, pvs, rfl, hp, rfl⟩
                                        refine T_t0 ?_
                                        refine T_f rfl (fun _ _ => y_move rfl) rfl rfl rfl ?_
                                        refine T_f rfl (fun _ _ => y_extract rfl rfl) rfl rfl rfl ?_
                                        refine T_f rfl (fun _ _ => y_extract rfl rfl) rfl rfl rfl ?_
                                        refine T_acts (fun _ h => by first | exact h.sublist (by repeat first | exact List.nil_sublist _ | exact List.Sublist.refl _ | apply List.Sublist.cons_cons | apply List.Sublist.cons) | exact St.back (by assumption) (h.sublist (by repeat first | exact List.nil_sublist _ | exact List.Sublist.refl _ | apply List.Sublist.cons_cons | apply List.Sublist.cons))) ?_
                                        refine M_a2 rfl rfl (a_alloc tab rfl rfl ?_) ?_
                                        ·
                                          intro b23
                                          refine T_t0 ?_
                                          refine T_f rfl (fun _ _ => y_assign rfl) rfl rfl rfl ?_
                                          refine T_acts (fun _ h => by first | exact h.sublist (by repeat first | exact List.nil_sublist _ | exact List.Sublist.refl _ | apply List.Sublist.cons_cons | apply List.Sublist.cons) | exact St.back (by assumption) (h.sublist (by repeat first | exact List.nil_sublist _ | exact List.Sublist.refl _ | apply List.Sublist.cons_cons | apply List.Sublist.cons))) ?_
                                          refine M_a2 rfl rfl (a_stw (us := eFault.cells (buildP ((insts.map bare) ++ [loneP (needT job nm val)])).2) tab rfl rfl rfl rfl (eFault.one _) rfl ?_) ?_
                                          ·
                                            refine T_t0 ?_
                                            refine T_nil (fun _ h => by first | exact h.sublist (by repeat first | exact List.nil_sublist _ | exact List.Sublist.refl _ | apply List.Sublist.cons_cons | apply List.Sublist.cons) | exact St.back (by assumption) (h.sublist (by repeat first | exact List.nil_sublist _ | exact List.Sublist.refl _ | apply List.Sublist.cons_cons | apply List.Sublist.cons))) ?_
                                            refine K_thenA ?_
                                            exact K_mid (J5, pv, pvs, b23) rfl (by repeat first | exact .nil _ | refine .cons rfl ?_) rfl ⟨hJ3.trans (hJ4.trans hJ5), hp⟩
                                          exact M_nil
                                        exact M_nil
                                      refine M_a2 rfl rfl (a_alloc tab rfl rfl ?_) ?_
                                      ·
                                        intro b23
                                        refine T_t0 ?_
                                        refine T_acts (fun _ h => by first | exact h.sublist (by repeat first | exact List.nil_sublist _ | exact List.Sublist.refl _ | apply List.Sublist.cons_cons | apply List.Sublist.cons) | exact St.back (by assumption) (h.sublist (by repeat first | exact List.nil_sublist _ | exact List.Sublist.refl _ | apply List.Sublist.cons_cons | apply List.Sublist.cons))) ?_
                                        refine M_a2 rfl rfl (a_call (enters_of Tryd.func23 (by kernel_rfl) rfl) rfl (f23_ok (insts := (insts.map bare) ++ [loneP (needT job nm val)]) (hg.mono (hIJ7.trans (hJ3.trans hJ4))) (insts_snoc hrx2 (by omega) (fun k hk => ((hrF2 k (by omega)).mono hJ4).ok) (lone_ok ((hneed7.mono hJ3).mono hJ4) hts) (by rw [List.length_map]; omega))) rfl ?_) ?_
                                        ·
                                          rintro _ J5 _ hJ5 ⟨pv, pvs, rfl, hp, rfl⟩
                                          refine T_t0 ?_
                                          refine T_f rfl (fun _ _ => y_move rfl) rfl rfl rfl ?_
                                          refine T_f rfl (fun _ _ => y_extract rfl rfl) rfl rfl rfl ?_
                                          refine T_f rfl (fun _ _ => y_extract rfl rfl) rfl rfl rfl ?_
                                          refine T_f rfl (fun _ _ => y_assign rfl) rfl rfl rfl ?_
                                          refine T_acts (fun _ h => by first | exact h.sublist (by repeat first | exact List.nil_sublist _ | exact List.Sublist.refl _ | apply List.Sublist.cons_cons | apply List.Sublist.cons) | exact St.back (by assumption) (h.sublist (by repeat first | exact List.nil_sublist _ | exact List.Sublist.refl _ | apply List.Sublist.cons_cons | apply List.Sublist.cons))) ?_
                                          refine M_a2 rfl rfl (a_stw (us := eFault.cells (buildP ((insts.map bare) ++ [loneP (needT job nm val)])).2) tab rfl rfl rfl rfl (eFault.one _) rfl ?_) ?_
                                          ·
                                            refine T_t0 ?_
                                            refine T_nil (fun _ h => by first | exact h.sublist (by repeat first | exact List.nil_sublist _ | exact List.Sublist.refl _ | apply List.Sublist.cons_cons | apply List.Sublist.cons) | exact St.back (by assumption) (h.sublist (by repeat first | exact List.nil_sublist _ | exact List.Sublist.refl _ | apply List.Sublist.cons_cons | apply List.Sublist.cons))) ?_
                                            refine K_thenA ?_
                                            exact K_mid (J5, pv, pvs, b23) rfl (by repeat first | exact .nil _ | refine .cons rfl ?_) rfl ⟨hJ3.trans (hJ4.trans hJ5), hp⟩
                                          exact M_nil
                                        exact M_nil
                                      exact M_nil
                                    refine M_a2 rfl rfl (a_alloc tab rfl rfl ?_) ?_
                                    ·
                                      intro b23
                                      refine K_b2 ?_
                                      refine T_t0 ?_
                                      refine T_acts (fun _ h => by first | exact h.sublist (by repeat first | exact List.nil_sublist _ | exact List.Sublist.refl _ | apply List.Sublist.cons_cons | apply List.Sublist.cons) | exact St.back (by assumption) (h.sublist (by repeat first | exact List.nil_sublist _ | exact List.Sublist.refl _ | apply List.Sublist.cons_cons | apply List.Sublist.cons))) ?_
                                      refine M_a2 rfl rfl (a_app (e := eInst) (ys := [loneI ⟨.slice (some ⟨b150, 0, none⟩) 1 1, rfl⟩]) tab rfl rfl rfl rfl rfl (rd_rowall .here) (by simp only [List.length_singleton]; omega) rfl ?_) ?_
                                      ·
                                        intro v236
                                        refine K_f1 (K_drop ?_)
                                        refine K_give (fun J4 hJ4 hrx2 => ?_)
                                        refine T_t0 ?_
                                        refine T_acts (fun _ h => by first | exact h.sublist (by repeat first | exact List.nil_sublist _ | exact List.Sublist.refl _ | apply List.Sublist.cons_cons | apply List.Sublist.cons) | exact St.back (by assumption) (h.sublist (by repeat first | exact List.nil_sublist _ | exact List.Sublist.refl _ | apply List.Sublist.cons_cons | apply List.Sublist.cons))) ?_
                                        refine M_a2 rfl rfl (a_call (enters_of Tryd.func23 (by kernel_rfl) rfl) rfl (f23_ok (insts := (insts.map bare) ++ [loneP (needT job nm val)]) (hg.mono (hIJ7.trans (hJ3.trans hJ4))) (insts_snoc hrx2 (by omega) (fun k hk => ((hrF2 k (by omega)).mono hJ4).ok) (lone_ok ((hneed7.mono hJ3).mono hJ4) hts) (by rw [List.length_map]; omega))) rfl ?_) ?_
                                        ·
                                          rintro _ J5 _ hJ5 ⟨pv, pvs, rfl, hp, rfl⟩
                                          refine T_t0 ?_
                                          refine T_f rfl (fun _ _ => y_move rfl) rfl rfl rfl ?_
                                          refine T_f rfl (fun _ _ => y_extract rfl rfl) rfl rfl rfl ?_
                                          refine T_f rfl (fun _ _ => y_extract rfl rfl) rfl rfl rfl ?_
                                          refine T_f rfl (fun _ _ => y_assign rfl) rfl rfl rfl ?_
                                          refine T_acts (fun _ h => by first | exact h.sublist (by repeat first | exact List.nil_sublist _ | exact List.Sublist.refl _ | apply List.Sublist.cons_cons | apply List.Sublist.cons) | exact St.back (by assumption) (h.sublist (by repeat first | exact List.nil_sublist _ | exact List.Sublist.refl _ | apply List.Sublist.cons_cons | apply List.Sublist.cons))) ?_
                                          refine M_a2 rfl rfl (a_stw (us := eFault.cells (buildP ((insts.map bare) ++ [loneP (needT job nm val)])).2) tab rfl rfl rfl rfl (eFault.one _) rfl ?_) ?_
                                          ·
                                            refine T_t0 ?_
                                            refine T_nil (fun _ h => by first | exact h.sublist (by repeat first | exact List.nil_sublist _ | exact List.Sublist.refl _ | apply List.Sublist.cons_cons | apply List.Sublist.cons) | exact St.back (by assumption) (h.sublist (by repeat first | exact List.nil_sublist _ | exact List.Sublist.refl _ | apply List.Sublist.cons_cons | apply List.Sublist.cons))) ?_
                                            refine K_thenA ?_
                                            exact K_mid (J5, pv, pvs, b23) rfl (by repeat first | exact .nil _ | refine .cons rfl ?_) rfl ⟨hJ3.trans (hJ4.trans hJ5), hp⟩
                                          exact M_nil
                                        exact M_nil
                                      exact M_nil
                                    exact M_nil
                                  refine M_a2 rfl rfl (a_alloc tab rfl rfl ?_) ?_
                                  ·
                                    intro b23
                                    refine K_b1 ?_
                                    refine T_t0 ?_
                                    refine T_acts (fun _ h => by first | exact h.sublist (by repeat first | exact List.nil_sublist _ | exact List.Sublist.refl _ | apply List.Sublist.cons_cons | apply List.Sublist.cons) | exact St.back (by assumption) (h.sublist (by repeat first | exact List.nil_sublist _ | exact List.Sublist.refl _ | apply List.Sublist.cons_cons | apply List.Sublist.cons))) ?_
                                    refine M_a2 rfl rfl (a_call (enters_of Tryd.func22 (by kernel_rfl) rfl) rfl (f22_ok (hI1.mono hJ17) (fun k hk => (hF1 k hk).mono hJ17)) rfl ?_) ?_
                                    ·
                                      rintro v233 J3 _ hJ3 ⟨rx2, rfl, hrl2, hrF2⟩
                                      refine T_t0 ?_
                                      refine T_acts (fun _ h => by first | exact h.sublist (by repeat first | exact List.nil_sublist _ | exact List.Sublist.refl _ | apply List.Sublist.cons_cons | apply List.Sublist.cons) | exact St.back (by assumption) (h.sublist (by repeat first | exact List.nil_sublist _ | exact List.Sublist.refl _ | apply List.Sublist.cons_cons | apply List.Sublist.cons))) ?_
                                      refine M_a2 rfl rfl (a_app (e := eInst) (ys := [loneI ⟨.slice (some ⟨b150, 0, none⟩) 1 1, rfl⟩]) tab rfl rfl rfl rfl rfl (rd_rowall .here) (by simp only [List.length_singleton]; omega) rfl ?_) ?_
                                      ·
                                        intro v236
                                        refine K_f1 (K_drop ?_)
                                        refine K_give (fun J4 hJ4 hrx2 => ?_)
                                        refine T_t0 ?_
                                        refine T_acts (fun _ h => by first | exact h.sublist (by repeat first | exact List.nil_sublist _ | exact List.Sublist.refl _ | apply List.Sublist.cons_cons | apply List.Sublist.cons) | exact St.back (by assumption) (h.sublist (by repeat first | exact List.nil_sublist _ | exact List.Sublist.refl _ | apply List.Sublist.cons_cons | apply List.Sublist.cons))) ?_
                                        refine M_a2 rfl rfl (a_call (enters_of Tryd.func23 (by kernel_rfl) rfl) rfl (f23_ok (insts := (insts.map bare) ++ [loneP (needT job nm val)]) (hg.mono (hIJ7.trans (hJ3.trans hJ4))) (insts_snoc hrx2 (by omega) (fun k hk => ((hrF2 k (by omega)).mono hJ4).ok) (lone_ok ((hneed7.mono hJ3).mono hJ4) hts) (by rw [List.length_map]; omega))) rfl ?_) ?_
                                        ·
                                          rintro _ J5 _ hJ5 ⟨pv, pvs, rfl, hp, rfl⟩
                                          refine T_t0 ?_
                                          refine T_f rfl (fun _ _ => y_move rfl) rfl rfl rfl ?_
                                          refine T_f rfl (fun _ _ => y_extract rfl rfl) rfl rfl rfl ?_
                                          refine T_f rfl (fun _ _ => y_extract rfl rfl) rfl rfl rfl ?_
                                          refine T_f rfl (fun _ _ => y_assign rfl) rfl rfl rfl ?_
                                          refine T_acts (fun _ h => by first | exact h.sublist (by repeat first | exact List.nil_sublist _ | exact List.Sublist.refl _ | apply List.Sublist.cons_cons | apply List.Sublist.cons) | exact St.back (by assumption) (h.sublist (by repeat first | exact List.nil_sublist _ | exact List.Sublist.refl _ | apply List.Sublist.cons_cons | apply List.Sublist.cons))) ?_
                                          refine M_a2 rfl rfl (a_stw (us := eFault.cells (buildP ((insts.map bare) ++ [loneP (needT job nm val)])).2) tab rfl rfl rfl rfl (eFault.one _) rfl ?_) ?_
                                          ·
                                            refine T_t0 ?_
                                            refine T_nil (fun _ h => by first | exact h.sublist (by repeat first | exact List.nil_sublist _ | exact List.Sublist.refl _ | apply List.Sublist.cons_cons | apply List.Sublist.cons) | exact St.back (by assumption) (h.sublist (by repeat first | exact List.nil_sublist _ | exact List.Sublist.refl _ | apply List.Sublist.cons_cons | apply List.Sublist.cons))) ?_
                                            refine K_thenA ?_
                                            exact K_mid (J5, pv, pvs, b23) rfl (by repeat first | exact .nil _ | refine .cons rfl ?_) rfl ⟨hJ3.trans (hJ4.trans hJ5), hp⟩
                                          exact M_nil
                                        exact M_nil
                                      exact M_nil
                                    exact M_nil
                                  exact M_nil
                                refine M_a1 rfl rfl (a_alloc tab rfl rfl ?_) ?_
                                ·
                                  intro b23
                                  refine T_acts (fun _ h => by first | exact h.sublist (by repeat first | exact List.nil_sublist _ | exact List.Sublist.refl _ | apply List.Sublist.cons_cons | apply List.Sublist.cons) | exact St.back (by assumption) (h.sublist (by repeat first | exact List.nil_sublist _ | exact List.Sublist.refl _ | apply List.Sublist.cons_cons | apply List.Sublist.cons))) ?_
                                  refine M_a1 rfl rfl (a_call (enters_of Tryd.func22 (by kernel_rfl) rfl) rfl (f22_ok (hI1.mono hJ17) (fun k hk => (hF1 k hk).mono hJ17)) rfl ?_) ?_
                                  ·
                                    rintro v233 J3 _ hJ3 ⟨rx2, rfl, hrl2, hrF2⟩
                                    refine T_acts (fun _ h => by first | exact h.sublist (by repeat first | exact List.nil_sublist _ | exact List.Sublist.refl _ | apply List.Sublist.cons_cons | apply List.Sublist.cons) | exact St.back (by assumption) (h.sublist (by repeat first | exact List.nil_sublist _ | exact List.Sublist.refl _ | apply List.Sublist.cons_cons | apply List.Sublist.cons))) ?_
                                    refine M_a2 rfl rfl (a_bs (e := eInst) (xs := [loneI ⟨.slice (some ⟨b150, 0, none⟩) 1 1, rfl⟩]) (os := [.tmp 234]) tab rfl rfl rfl rfl rfl rfl rfl rfl rfl ?_) ?_
                                    ·
                                      intro b235
                                      refine K_b1 ?_
                                      refine T_t0 ?_
                                      refine T_acts (fun _ h => by first | exact h.sublist (by repeat first | exact List.nil_sublist _ | exact List.Sublist.refl _ | apply List.Sublist.cons_cons | apply List.Sublist.cons) | exact St.back (by assumption) (h.sublist (by repeat first | exact List.nil_sublist _ | exact List.Sublist.refl _ | apply List.Sublist.cons_cons | apply List.Sublist.cons))) ?_
                                      refine M_a2 rfl rfl (a_app (e := eInst) (ys := [loneI ⟨.slice (some ⟨b150, 0, none⟩) 1 1, rfl⟩]) tab rfl rfl rfl rfl rfl (rd_rowall .here) (by simp only [List.length_singleton]; omega) rfl ?_) ?_
                                      ·
                                        intro v236
                                        refine K_f1 (K_drop ?_)
                                        refine K_give (fun J4 hJ4 hrx2 => ?_)
                                        refine T_t0 ?_
                                        refine T_acts (fun _ h => by first | exact h.sublist (by repeat first | exact List.nil_sublist _ | exact List.Sublist.refl _ | apply List.Sublist.cons_cons | apply List.Sublist.cons) | exact St.back (by assumption) (h.sublist (by repeat first | exact List.nil_sublist _ | exact List.Sublist.refl _ | apply List.Sublist.cons_cons | apply List.Sublist.cons))) ?_
                                        refine M_a2 rfl rfl (a_call (enters_of Tryd.func23 (by kernel_rfl) rfl) rfl (f23_ok (insts := (insts.map bare) ++ [loneP (needT job nm val)]) (hg.mono (hIJ7.trans (hJ3.trans hJ4))) (insts_snoc hrx2 (by omega) (fun k hk => ((hrF2 k (by omega)).mono hJ4).ok) (lone_ok ((hneed7.mono hJ3).mono hJ4) hts) (by rw [List.length_map]; omega))) rfl ?_) ?_
                                        ·
                                          rintro _ J5 _ hJ5 ⟨pv, pvs, rfl, hp, rfl⟩
                                          refine T_t0 ?_
                                          refine T_f rfl (fun _ _ => y_move rfl) rfl rfl rfl ?_
                                          refine T_f rfl (fun _ _ => y_extract rfl rfl) rfl rfl rfl ?_
                                          refine T_f rfl (fun _ _ => y_extract rfl rfl) rfl rfl rfl ?_
                                          refine T_f rfl (fun _ _ => y_assign rfl) rfl rfl rfl ?_
                                          refine T_acts (fun _ h => by first | exact h.sublist (by repeat first | exact List.nil_sublist _ | exact List.Sublist.refl _ | apply List.Sublist.cons_cons | apply List.Sublist.cons) | exact St.back (by assumption) (h.sublist (by repeat first | exact List.nil_sublist _ | exact List.Sublist.refl _ | apply List.Sublist.cons_cons | apply List.Sublist.cons))) ?_
                                          refine M_a2 rfl rfl (a_stw (us := eFault.cells (buildP ((insts.map bare) ++ [loneP (needT job nm val)])).2) tab rfl rfl rfl rfl (eFault.one _) rfl ?_) ?_
                                          ·
                                            refine T_t0 ?_
                                            refine T_nil (fun _ h => by first | exact h.sublist (by repeat first | exact List.nil_sublist _ | exact List.Sublist.refl _ | apply List.Sublist.cons_cons | apply List.Sublist.cons) | exact St.back (by assumption) (h.sublist (by repeat first | exact List.nil_sublist _ | exact List.Sublist.refl _ | apply List.Sublist.cons_cons | apply List.Sublist.cons))) ?_
                                            refine K_thenA ?_
                                            exact K_mid (J5, pv, pvs, b23) rfl (by repeat first | exact .nil _ | refine .cons rfl ?_) rfl ⟨hJ3.trans (hJ4.trans hJ5), hp⟩
                                          exact M_nil
                                        exact M_nil
                                      exact M_nil
                                    exact M_nil
                                  refine M_a2 rfl rfl (a_bs (e := eInst) (xs := [loneI ⟨.slice (some ⟨b150, 0, none⟩) 1 1, rfl⟩]) (os := [.tmp 234]) tab rfl rfl rfl rfl rfl rfl rfl rfl rfl ?_) ?_
                                  ·
                                    intro b235
                                    refine T_t0 ?_
                                    refine T_acts (fun _ h => by first | exact h.sublist (by repeat first | exact List.nil_sublist _ | exact List.Sublist.refl _ | apply List.Sublist.cons_cons | apply List.Sublist.cons) | exact St.back (by assumption) (h.sublist (by repeat first | exact List.nil_sublist _ | exact List.Sublist.refl _ | apply List.Sublist.cons_cons | apply List.Sublist.cons))) ?_
                                    refine M_a2 rfl rfl (a_call (enters_of Tryd.func22 (by kernel_rfl) rfl) rfl (f22_ok (hI1.mono hJ17) (fun k hk => (hF1 k hk).mono hJ17)) rfl ?_) ?_
                                    ·
                                      rintro v233 J3 _ hJ3 ⟨rx2, rfl, hrl2, hrF2⟩
                                      refine T_t0 ?_
                                      refine T_acts (fun _ h => by first | exact h.sublist (by repeat first | exact List.nil_sublist _ | exact List.Sublist.refl _ | apply List.Sublist.cons_cons | apply List.Sublist.cons) | exact St.back (by assumption) (h.sublist (by repeat first | exact List.nil_sublist _ | exact List.Sublist.refl _ | apply List.Sublist.cons_cons | apply List.Sublist.cons))) ?_
                                      refine M_a2 rfl rfl (a_app (e := eInst) (ys := [loneI ⟨.slice (some ⟨b150, 0, none⟩) 1 1, rfl⟩]) tab rfl rfl rfl rfl rfl (rd_rowall .here) (by simp only [List.length_singleton]; omega) rfl ?_) ?_
                                      ·
                                        intro v236
                                        refine K_f1 (K_drop ?_)
                                        refine K_give (fun J4 hJ4 hrx2 => ?_)
                                        refine T_t0 ?_
                                        refine T_acts (fun _ h => by first | exact h.sublist (by repeat first | exact List.nil_sublist _ | exact List.Sublist.refl _ | apply List.Sublist.cons_cons | apply List.Sublist.cons) | exact St.back (by assumption) (h.sublist (by repeat first | exact List.nil_sublist _ | exact List.Sublist.refl _ | apply List.Sublist.cons_cons | apply List.Sublist.cons))) ?_
                                        refine M_a2 rfl rfl (a_call (enters_of Tryd.func23 (by kernel_rfl) rfl) rfl (f23_ok (insts := (insts.map bare) ++ [loneP (needT job nm val)]) (hg.mono (hIJ7.trans (hJ3.trans hJ4))) (insts_snoc hrx2 (by omega) (fun k hk => ((hrF2 k (by omega)).mono hJ4).ok) (lone_ok ((hneed7.mono hJ3).mono hJ4) hts) (by rw [List.length_map]; omega))) rfl ?_) ?_
                                        ·
                                          rintro _ J5 _ hJ5 ⟨pv, pvs, rfl, hp, rfl⟩
                                          refine T_t0 ?_
                                          refine T_f rfl (fun _ _ => y_move rfl) rfl rfl rfl ?_
                                          refine T_f rfl (fun _ _ => y_extract rfl rfl) rfl rfl rfl ?_
                                          refine T_f rfl (fun _ _ => y_extract rfl rfl) rfl rfl rfl ?_
                                          refine T_f rfl (fun _ _ => y_assign rfl) rfl rfl rfl ?_
                                          refine T_acts (fun _ h => by first | exact h.sublist (by repeat first | exact List.nil_sublist _ | exact List.Sublist.refl _ | apply List.Sublist.cons_cons | apply List.Sublist.cons) | exact St.back (by assumption) (h.sublist (by repeat first | exact List.nil_sublist _ | exact List.Sublist.refl _ | apply List.Sublist.cons_cons | apply List.Sublist.cons))) ?_
                                          refine M_a2 rfl rfl (a_stw (us := eFault.cells (buildP ((insts.map bare) ++ [loneP (needT job nm val)])).2) tab rfl rfl rfl rfl (eFault.one _) rfl ?_) ?_
                                          ·
                                            refine T_t0 ?_
                                            refine T_nil (fun _ h => by first | exact h.sublist (by repeat first | exact List.nil_sublist _ | exact List.Sublist.refl _ | apply List.Sublist.cons_cons | apply List.Sublist.cons) | exact St.back (by assumption) (h.sublist (by repeat first | exact List.nil_sublist _ | exact List.Sublist.refl _ | apply List.Sublist.cons_cons | apply List.Sublist.cons))) ?_
                                            refine K_thenA ?_
                                            exact K_mid (J5, pv, pvs, b23) rfl (by repeat first | exact .nil _ | refine .cons rfl ?_) rfl ⟨hJ3.trans (hJ4.trans hJ5), hp⟩
                                          exact M_nil
                                        exact M_nil
                                      exact M_nil
                                    exact M_nil
                                  exact M_nil
                                exact M_nil
                              ·
                                rintro ⟨J8, pv, pvs, b23⟩ ⟨hJ8, hp⟩
                                simp only at hJ8 hp ⊢
                                refine K_seq ?_
                                refine K_seq ?_
                                have hIJ2 := hIJ7.trans hJ8
                                refine K_sc (.there (.there .here)) (fun hwc => ?_)
                                refine K_region ?_
                                refine W_y (y_move rfl) rfl rfl rfl ?_
                                refine W_y (y_lenc tab hwc rfl rfl) rfl rfl rfl ?_
                                refine W_y (by first | exact y_eq rfl rfl | exact y_seq rfl rfl) rfl rfl rfl ?_
                                refine K_nil ?_
                                refine K_then ?_
                                first | refine K_if rfl (fun h29 => ?_) (fun h29 => ?_) | refine K_ifn rfl (fun h29 => ?_) (fun h29 => ?_) | refine K_cond rfl (fun h29 => ?_) (fun h29 => ?_)
                                ·
                                  have h3 : (allP (meansQ (insts.map bare) job [(nm, val)]) raws.length).length = 0 := by omega
                                  have hcode := hb4 h0 h3
                                  refine K_seq ?_
                                  refine K_region ?_
                                  refine W_y (by first | exact y_fa tab rfl rfl rfl rfl rfl | exact y_fae tab (by assumption) rfl rfl rfl rfl rfl) rfl rfl rfl ?_
                                  refine W_y (y_load rfl (ld_cell tab rfl (rd_one .here rfl))) rfl rfl rfl ?_
                                  refine W_y (by first | exact y_eq rfl rfl | exact y_seq rfl rfl) rfl rfl rfl ?_
                                  refine W_y (y_move rfl) rfl rfl rfl ?_
                                  first | refine K_splitd 246 rfl (fun h30 => ?_) (fun h30 => ?_) | refine K_split 246 rfl (fun h30 => ?_) (fun h30 => ?_)
                                  ·
                                    refine W_a (a_call (enters_of Tryd.func19 (by kernel_rfl) rfl) rfl (f19_ok (hg.mono hIJ2)) rfl ?_) rfl
                                    rintro _ J9 _ hJ9 ⟨rfl, rfl⟩
                                    refine W_y (y_pick rfl rfl) rfl rfl rfl ?_
                                    refine W_y (y_assign rfl) rfl rfl rfl ?_
                                    refine K_nil ?_
                                    refine K_then ?_
                                    refine K_ret ?_
                                    refine K_then_ret ?_
                                    refine K_out1 rfl (.tmp rfl) ?_
                                    first
                                      | exact fun w hw => ⟨_, _, _, rfl, hJ9, hw, rfl⟩
                                      | exact fun w hw => ⟨_, _, _, rfl, hIJ.trans hJ9, hw, rfl⟩
                                      | exact fun w hw => ⟨_, _, _, rfl, hIJ2.trans hJ9, hw, rfl⟩
                                  ·
                                    exact absurd hcode h30
                                ·
                                  have h3 : (allP (meansQ (insts.map bare) job [(nm, val)]) raws.length).length ≠ 0 := by omega
                                  obtain ⟨pr, hpr, hbe⟩ := hb5 h0 h3
                                  rw [hbe] at hp ⊢
                                  simp only at hp ⊢
                                  have hpl := hp.len
                                  rw [List.length_append, List.length_singleton, hpr] at hpl
                                  have hpc := hp.top.sc
                                  have hla := hp.at_ raws.length (by rw [List.length_append, List.length_singleton]; omega)
                                  rw [show (pr ++ [allP (meansQ (insts.map bare) job [(nm, val)]) raws.length]).getD raws.length [] = allP (meansQ (insts.map bare) job [(nm, val)]) raws.length by rw [List.getD_eq_getElem?_getD, List.getElem?_append_right (by omega), show raws.length - pr.length = 0 by omega]; rfl] at hla
                                  have hlc := hla.sc
                                  refine K_skip ?_
                                  refine K_then ?_
                                  refine K_seq ?_
                                  refine K_region ?_
                                  refine W_y (by first | exact y_fa tab rfl rfl rfl rfl rfl | exact y_fae tab (by assumption) rfl rfl rfl rfl rfl) rfl rfl rfl ?_
                                  refine W_y (y_load rfl (ld_cell tab rfl (rd_one .here rfl))) rfl rfl rfl ?_
                                  refine W_y (by first | exact y_eq rfl rfl | exact y_seq rfl rfl) rfl rfl rfl ?_
                                  refine W_y (y_move rfl) rfl rfl rfl ?_
                                  refine K_split 252 rfl (fun h31 => ?_) (fun h31 => ?_)
                                  ·
                                    refine W_y (y_move rfl) rfl rfl rfl ?_
                                    refine W_y (by first | exact y_lenc tab (by assumption) rfl rfl | exact y_lens tab rfl rfl | exact y_lenstr tab rfl rfl) rfl rfl rfl ?_
                                    refine W_y (y_move rfl) rfl rfl rfl ?_
                                    refine W_y (by first | exact y_lenc tab (by assumption) rfl rfl | exact y_lens tab rfl rfl | exact y_lenstr tab rfl rfl) rfl rfl rfl ?_
                                    refine W_y (y_add rfl rfl (by omega)) rfl rfl rfl ?_
                                    refine W_y (by first | exact y_eq rfl rfl | exact y_seq rfl rfl) rfl rfl rfl ?_
                                    refine W_y (y_pick rfl rfl) rfl rfl rfl ?_
                                    refine W_y (y_move rfl) rfl rfl rfl ?_
                                    first | refine K_splitd 260 rfl (fun h32 => ?_) (fun h32 => ?_) | refine K_split 260 rfl (fun h32 => ?_) (fun h32 => ?_)
                                    ·
                                      refine W_y (y_move rfl) rfl rfl rfl ?_
                                      refine W_y (y_move rfl) rfl rfl rfl ?_
                                      refine W_y (by first | exact y_lenc tab (by assumption) rfl rfl | exact y_lens tab rfl rfl | exact y_lenstr tab rfl rfl) rfl rfl rfl ?_
                                      refine W_y (y_ixN raws.length (y_ixi tab hp.top rfl rfl rfl rfl (by omega)) (by omega)) rfl rfl rfl ?_
                                      refine W_y (y_load rfl (ld_vi (i := raws.length) tab hp.top rfl (by omega))) rfl rfl rfl ?_
                                      refine W_y (y_move rfl) rfl rfl rfl ?_
                                      refine K_rdb (.there (.there .here)) (fun hwr => ?_)
                                      refine W_a (a_call (enters_of Tryd.func17 (by kernel_rfl) rfl) rfl (f17_ok (Rdb.ofRowI hla) hwr) rfl ?_) rfl
                                      rintro _ _ _ - ⟨rfl, rfl, rfl⟩
                                      rw [decide_eq_true (rfl : allP (meansQ (insts.map bare) job [(nm, val)]) raws.length = allP (meansQ (insts.map bare) job [(nm, val)]) raws.length)]
                                      refine W_y (y_pick rfl rfl) rfl rfl rfl ?_
                                      refine W_y (y_move rfl) rfl rfl rfl ?_
                                      refine K_split 269 rfl (fun h33 => ?_) (fun h33 => ?_)
                                      ·
                                        refine W_a (a_call (enters_of Tryd.func19 (by kernel_rfl) rfl) rfl (f19_ok (hg.mono hIJ2)) rfl ?_) rfl
                                        rintro _ J9 _ hJ9 ⟨rfl, rfl⟩
                                        refine W_y (y_pick rfl rfl) rfl rfl rfl ?_
                                        refine W_y (y_assign rfl) rfl rfl rfl ?_
                                        refine K_nil ?_
                                        refine K_then ?_
                                        refine K_ret ?_
                                        refine K_out1 rfl (.tmp rfl) ?_
                                        first
                                          | exact fun w hw => ⟨_, _, _, rfl, hJ9, hw, rfl⟩
                                          | exact fun w hw => ⟨_, _, _, rfl, hIJ.trans hJ9, hw, rfl⟩
                                          | exact fun w hw => ⟨_, _, _, rfl, hIJ2.trans hJ9, hw, rfl⟩
                                      ·
                                        cases h33
                                    ·
                                      exact absurd (by omega) h32
                                  ·
                                    exact absurd h31 (by decide)
                          ·
                            have hnmA : nm = ⟨#[65]⟩ := by simpa using h27
                            have hPl : Plain1 nm val := ⟨.inl hnmA, fun hm => by obtain ⟨i, h1, h2⟩ := bytes_mem hm; exact (hin i h1).1 h2, fun hm => by obtain ⟨i, h1, h2⟩ := bytes_mem hm; exact (hin i h1).2 h2⟩
                            have hm2 : nm.size ≤ 2 := by rw [hnmA]; decide
                            refine W_skip rfl rfl rfl ?_
                            refine W_skip rfl rfl rfl ?_
                            refine W_y (y_pick rfl rfl) rfl rfl rfl ?_
                            refine K_nil ?_
                            refine K_then ?_
                            refine K_no rfl ?_
                            refine K_skip ?_
                            refine K_then ?_
                            refine K_seq ?_
                            have hJb5 := hJ5.at_ _ _ hJb
                            refine K_thawrow hJb5 hLent ?_
                            have hJ16 := Imm.le_del2 (hJ2.trans hJ5) hnb
                            have hIJ6 := hJ1.trans hJ16
                            have hts : (needT job nm val).size < 4294967281 := by unfold needT; simp only [ByteArray.size_append, hch]; have := hLow.len; omega
                            refine K_region ?_
                            refine W_y (by first | exact y_fa tab rfl rfl rfl rfl rfl | exact y_fae tab (by assumption) rfl rfl rfl rfl rfl) rfl rfl rfl ?_
                            refine W_y (y_load rfl (ld_cell tab rfl (rd_one (.there .here) rfl))) rfl rfl rfl ?_
                            refine W_y (y_move rfl) rfl rfl rfl ?_
                            refine W_y (y_cat rfl rfl (by simp only [hch]; omega)) rfl rfl rfl ?_
                            refine W_y (y_move rfl) rfl rfl rfl ?_
                            refine W_y (y_cat rfl rfl (by simp only [ByteArray.size_append, hch]; omega)) rfl rfl rfl ?_
                            refine W_y (y_cat rfl rfl (by simp only [ByteArray.size_append, hch]; omega)) rfl rfl rfl ?_
                            refine W_y (y_move rfl) rfl rfl rfl ?_
                            refine W_y (y_cat rfl rfl (by simp only [ByteArray.size_append, hch]; omega)) rfl rfl rfl ?_
                            refine W_y (y_cat rfl rfl (by simp only [ByteArray.size_append, hch]; omega)) rfl rfl rfl ?_
                            refine W_y (y_ixv tab rfl rfl rfl rfl (by omega) (by decide)) rfl rfl rfl ?_
                            refine W_y (y_fae tab ⟨b150, 0, 1, rfl⟩ rfl rfl rfl rfl rfl) rfl rfl rfl ?_
                            refine W_a (a_ste (e := eNeed) (i := 0) (j := 0) (a := ⟨job, hereF⟩) (a' := ⟨needT job nm val, hereF⟩) tab rfl rfl rfl rfl rfl rfl rfl rfl rfl ?_) rfl
                            refine K_lendrow (e := eNeed) (E := 53) (b := b150) (cap := 1) (xs := [⟨needT job nm val, hereF⟩]) (fun J7 cur7 hJ7 hnb7 hJb7 hLent7 hneed7 => ?_)
                            have hJ17 := hJ16.trans hJ7
                            have hIJ7 := hJ1.trans hJ17
                            obtain ⟨_, hb4, hb5⟩ := build_need (insts := (insts.map bare)) (text := needT job nm val) (job := job) (ps := [(nm, val)]) hbare hLow (readP_pair hLow hPl)
                            rw [List.length_map, ← hlen] at hb4 hb5
                            refine K_nil ?_
                            refine K_then ?_
                            refine K_cutS (σ := Imm × Value × List SV × Nat) (fun s => s.1) (fun s => [(0, v), (1, .string job), (2, .string nm), (3, .string val), (10, xv), (13, .int .i64 ((allP (ofQ (insts.map bare) job) raws.length).length : Int)), (14, wv), (18, .pointer (some ⟨b18, 0, none⟩)), (22, s.2.1), (23, .pointer (some ⟨s.2.2.2, 0, none⟩))]) (fun s => blk s.2.2.2 (.cells (eFault.cells (buildP ((insts.map bare) ++ [loneP (needT job nm val)])).2).toArray 44 (0, 0)) :: blk b18 (.cells (eInst.cells (loneI ⟨.slice (some ⟨b150, 0, none⟩) 1 1, rfl⟩)).toArray 46 (0, 0)) :: row eInt 3 wv (allP (meansQ (insts.map bare) job [(nm, val)]) raws.length) :: l) (fun s => J7.le s.1 ∧ RowII eInt s.1 s.2.1 s.2.2.1 (buildP ((insts.map bare) ++ [loneP (needT job nm val)])).1) ?_ ?_
                            ·
                              refine K_drawT (.q 0 false (.q 2 true (.act 1 false [] (.act 3 true [4, 5, 9, 11] (.act 4 true [5, 9, 11] (.act 5 true [9, 11] (.q 6 false (.q 7 false (.q 8 false (.act 9 true [11] (.q 10 false (.act 11 true [] .nil .nil)) .nil)))) (.act 9 true [5, 11] (.act 5 true [11] (.q 6 false (.q 7 false (.q 8 false (.q 10 false (.act 11 true [] .nil .nil))))) .nil) .nil)) (.act 9 true [4, 5, 11] (.act 4 true [5, 11] (.act 5 true [11] (.q 6 false (.q 7 false (.q 8 false (.q 10 false (.act 11 true [] .nil .nil))))) .nil) .nil) .nil)) (.act 9 false [] (.act 3 true [4, 5, 11] (.act 4 true [5, 11] (.act 5 true [11] (.q 6 false (.q 7 false (.q 8 false (.q 10 false (.act 11 true [] .nil .nil))))) .nil) .nil) .nil) .nil)) (.act 3 true [1, 4, 5, 9, 11] (.act 1 true [4, 5, 9, 11] (.act 4 true [5, 9, 11] (.act 5 true [9, 11] (.q 6 false (.q 7 false (.q 8 false (.act 9 true [11] (.q 10 false (.act 11 true [] .nil .nil)) .nil)))) (.act 9 true [5, 11] (.act 5 true [11] (.q 6 false (.q 7 false (.q 8 false (.q 10 false (.act 11 true [] .nil .nil))))) .nil) .nil)) (.act 9 true [4, 5, 11] (.act 4 true [5, 11] (.act 5 true [11] (.q 6 false (.q 7 false (.q 8 false (.q 10 false (.act 11 true [] .nil .nil))))) .nil) .nil) .nil)) (.act 9 true [1, 4, 5, 11] (.act 1 true [4, 5, 11] (.act 4 true [5, 11] (.act 5 true [11] (.q 6 false (.q 7 false (.q 8 false (.q 10 false (.act 11 true [] .nil .nil))))) .nil) .nil) .nil) .nil)) (.act 9 false [] (.act 1 false [] (.act 3 true [4, 5, 11] (.act 4 true [5, 11] (.act 5 true [11] (.q 6 false (.q 7 false (.q 8 false (.q 10 false (.act 11 true [] .nil .nil))))) .nil) .nil) .nil) (.act 3 true [1, 4, 5, 11] (.act 1 true [4, 5, 11] (.act 4 true [5, 11] (.act 5 true [11] (.q 6 false (.q 7 false (.q 8 false (.q 10 false (.act 11 true [] .nil .nil))))) .nil) .nil) .nil) .nil)) .nil))))) [3, 11] [blk b18 (.cells (eInst.cells (loneI ⟨.slice (some ⟨b150, 0, none⟩) 1 1, rfl⟩)).toArray 46 (0, 0))] rfl (by kernel_rfl) (by intro c a d v w h; cases d <;> exact h) ?_
                              refine T_f rfl (fun _ _ => y_move rfl) rfl rfl rfl ?_
                              refine T_y rfl (y_load rfl (ld_agg tab rfl rfl rfl (rd_all .here))) rfl rfl rfl ?_
                              refine T_acts (fun _ h => by first | exact h.sublist (by repeat first | exact List.nil_sublist _ | exact List.Sublist.refl _ | apply List.Sublist.cons_cons | apply List.Sublist.cons) | exact St.back (by assumption) (h.sublist (by repeat first | exact List.nil_sublist _ | exact List.Sublist.refl _ | apply List.Sublist.cons_cons | apply List.Sublist.cons))) ?_
                              refine M_a1 rfl rfl (a_call (enters_of Tryd.func22 (by kernel_rfl) rfl) rfl (f22_ok (hI1.mono hJ17) (fun k hk => (hF1 k hk).mono hJ17)) rfl ?_) ?_
                              ·
                                rintro v233 J3 _ hJ3 ⟨rx2, rfl, hrl2, hrF2⟩
                                refine T_acts (fun _ h => by first | exact h.sublist (by repeat first | exact List.nil_sublist _ | exact List.Sublist.refl _ | apply List.Sublist.cons_cons | apply List.Sublist.cons) | exact St.back (by assumption) (h.sublist (by repeat first | exact List.nil_sublist _ | exact List.Sublist.refl _ | apply List.Sublist.cons_cons | apply List.Sublist.cons))) ?_
                                refine M_a2 rfl rfl (a_bs (e := eInst) (xs := [loneI ⟨.slice (some ⟨b150, 0, none⟩) 1 1, rfl⟩]) (os := [.tmp 234]) tab rfl rfl rfl rfl rfl rfl rfl rfl rfl ?_) ?_
                                ·
                                  intro b235
                                  refine K_b1 ?_
                                  refine T_t0 ?_
                                  refine T_acts (fun _ h => by first | exact h.sublist (by repeat first | exact List.nil_sublist _ | exact List.Sublist.refl _ | apply List.Sublist.cons_cons | apply List.Sublist.cons) | exact St.back (by assumption) (h.sublist (by repeat first | exact List.nil_sublist _ | exact List.Sublist.refl _ | apply List.Sublist.cons_cons | apply List.Sublist.cons))) ?_
                                  refine M_a2 rfl rfl (a_app (e := eInst) (ys := [loneI ⟨.slice (some ⟨b150, 0, none⟩) 1 1, rfl⟩]) tab rfl rfl rfl rfl rfl (rd_rowall .here) (by simp only [List.length_singleton]; omega) rfl ?_) ?_
                                  ·
                                    intro v236
                                    refine K_f1 (K_drop ?_)
                                    refine K_give (fun J4 hJ4 hrx2 => ?_)
                                    refine T_t0 ?_
                                    refine T_acts (fun _ h => by first | exact h.sublist (by repeat first | exact List.nil_sublist _ | exact List.Sublist.refl _ | apply List.Sublist.cons_cons | apply List.Sublist.cons) | exact St.back (by assumption) (h.sublist (by repeat first | exact List.nil_sublist _ | exact List.Sublist.refl _ | apply List.Sublist.cons_cons | apply List.Sublist.cons))) ?_
                                    refine M_a2 rfl rfl (a_call (enters_of Tryd.func23 (by kernel_rfl) rfl) rfl (f23_ok (insts := (insts.map bare) ++ [loneP (needT job nm val)]) (hg.mono (hIJ7.trans (hJ3.trans hJ4))) (insts_snoc hrx2 (by omega) (fun k hk => ((hrF2 k (by omega)).mono hJ4).ok) (lone_ok ((hneed7.mono hJ3).mono hJ4) hts) (by rw [List.length_map]; omega))) rfl ?_) ?_
                                    ·
                                      rintro _ J5 _ hJ5 ⟨pv, pvs, rfl, hp, rfl⟩
                                      refine T_t0 ?_
                                      refine T_f rfl (fun _ _ => y_move rfl) rfl rfl rfl ?_
                                      refine T_f rfl (fun _ _ => y_extract rfl rfl) rfl rfl rfl ?_
                                      refine T_f rfl (fun _ _ => y_extract rfl rfl) rfl rfl rfl ?_
                                      refine T_acts (fun _ h => by first | exact h.sublist (by repeat first | exact List.nil_sublist _ | exact List.Sublist.refl _ | apply List.Sublist.cons_cons | apply List.Sublist.cons) | exact St.back (by assumption) (h.sublist (by repeat first | exact List.nil_sublist _ | exact List.Sublist.refl _ | apply List.Sublist.cons_cons | apply List.Sublist.cons))) ?_
                                      refine M_a2 rfl rfl (a_alloc tab rfl rfl ?_) ?_
                                      ·
                                        intro b23
                                        refine T_t0 ?_
                                        refine T_f rfl (fun _ _ => y_assign rfl) rfl rfl rfl ?_
                                        refine T_acts (fun _ h => by first | exact h.sublist (by repeat first | exact List.nil_sublist _ | exact List.Sublist.refl _ | apply List.Sublist.cons_cons | apply List.Sublist.cons) | exact St.back (by assumption) (h.sublist (by repeat first | exact List.nil_sublist _ | exact List.Sublist.refl _ | apply List.Sublist.cons_cons | apply List.Sublist.cons))) ?_
                                        refine M_a2 rfl rfl (a_stw (us := eFault.cells (buildP ((insts.map bare) ++ [loneP (needT job nm val)])).2) tab rfl rfl rfl rfl (eFault.one _) rfl ?_) ?_
                                        ·
                                          refine T_t0 ?_
                                          refine T_nil (fun _ h => by first | exact h.sublist (by repeat first | exact List.nil_sublist _ | exact List.Sublist.refl _ | apply List.Sublist.cons_cons | apply List.Sublist.cons) | exact St.back (by assumption) (h.sublist (by repeat first | exact List.nil_sublist _ | exact List.Sublist.refl _ | apply List.Sublist.cons_cons | apply List.Sublist.cons))) ?_
                                          refine K_thenA ?_
                                          exact K_mid (J5, pv, pvs, b23) rfl (by repeat first | exact .nil _ | refine .cons rfl ?_) rfl ⟨hJ3.trans (hJ4.trans hJ5), hp⟩
                                        exact M_nil
                                      exact M_nil
                                    refine M_a2 rfl rfl (a_alloc tab rfl rfl ?_) ?_
                                    ·
                                      intro b23
                                      refine T_t0 ?_
                                      refine T_acts (fun _ h => by first | exact h.sublist (by repeat first | exact List.nil_sublist _ | exact List.Sublist.refl _ | apply List.Sublist.cons_cons | apply List.Sublist.cons) | exact St.back (by assumption) (h.sublist (by repeat first | exact List.nil_sublist _ | exact List.Sublist.refl _ | apply List.Sublist.cons_cons | apply List.Sublist.cons))) ?_
                                      refine M_a2 rfl rfl (a_call (enters_of Tryd.func23 (by kernel_rfl) rfl) rfl (f23_ok (insts := (insts.map bare) ++ [loneP (needT job nm val)]) (hg.mono (hIJ7.trans (hJ3.trans hJ4))) (insts_snoc hrx2 (by omega) (fun k hk => ((hrF2 k (by omega)).mono hJ4).ok) (lone_ok ((hneed7.mono hJ3).mono hJ4) hts) (by rw [List.length_map]; omega))) rfl ?_) ?_
                                      ·
                                        rintro _ J5 _ hJ5 ⟨pv, pvs, rfl, hp, rfl⟩
                                        refine T_t0 ?_
                                        refine T_f rfl (fun _ _ => y_move rfl) rfl rfl rfl ?_
                                        refine T_f rfl (fun _ _ => y_extract rfl rfl) rfl rfl rfl ?_
                                        refine T_f rfl (fun _ _ => y_extract rfl rfl) rfl rfl rfl ?_
                                        refine T_f rfl (fun _ _ => y_assign rfl) rfl rfl rfl ?_
                                        refine T_acts (fun _ h => by first | exact h.sublist (by repeat first | exact List.nil_sublist _ | exact List.Sublist.refl _ | apply List.Sublist.cons_cons | apply List.Sublist.cons) | exact St.back (by assumption) (h.sublist (by repeat first | exact List.nil_sublist _ | exact List.Sublist.refl _ | apply List.Sublist.cons_cons | apply List.Sublist.cons))) ?_
                                        refine M_a2 rfl rfl (a_stw (us := eFault.cells (buildP ((insts.map bare) ++ [loneP (needT job nm val)])).2) tab rfl rfl rfl rfl (eFault.one _) rfl ?_) ?_
                                        ·
                                          refine T_t0 ?_
                                          refine T_nil (fun _ h => by first | exact h.sublist (by repeat first | exact List.nil_sublist _ | exact List.Sublist.refl _ | apply List.Sublist.cons_cons | apply List.Sublist.cons) | exact St.back (by assumption) (h.sublist (by repeat first | exact List.nil_sublist _ | exact List.Sublist.refl _ | apply List.Sublist.cons_cons | apply List.Sublist.cons))) ?_
                                          refine K_thenA ?_
                                          exact K_mid (J5, pv, pvs, b23) rfl (by repeat first | exact .nil _ | refine .cons rfl ?_) rfl ⟨hJ3.trans (hJ4.trans hJ5), hp⟩
                                        exact M_nil
                                      exact M_nil
                                    exact M_nil
                                  refine M_a2 rfl rfl (a_alloc tab rfl rfl ?_) ?_
                                  ·
                                    intro b23
                                    refine K_b2 ?_
                                    refine T_t0 ?_
                                    refine T_acts (fun _ h => by first | exact h.sublist (by repeat first | exact List.nil_sublist _ | exact List.Sublist.refl _ | apply List.Sublist.cons_cons | apply List.Sublist.cons) | exact St.back (by assumption) (h.sublist (by repeat first | exact List.nil_sublist _ | exact List.Sublist.refl _ | apply List.Sublist.cons_cons | apply List.Sublist.cons))) ?_
                                    refine M_a2 rfl rfl (a_app (e := eInst) (ys := [loneI ⟨.slice (some ⟨b150, 0, none⟩) 1 1, rfl⟩]) tab rfl rfl rfl rfl rfl (rd_rowall .here) (by simp only [List.length_singleton]; omega) rfl ?_) ?_
                                    ·
                                      intro v236
                                      refine K_f1 (K_drop ?_)
                                      refine K_give (fun J4 hJ4 hrx2 => ?_)
                                      refine T_t0 ?_
                                      refine T_acts (fun _ h => by first | exact h.sublist (by repeat first | exact List.nil_sublist _ | exact List.Sublist.refl _ | apply List.Sublist.cons_cons | apply List.Sublist.cons) | exact St.back (by assumption) (h.sublist (by repeat first | exact List.nil_sublist _ | exact List.Sublist.refl _ | apply List.Sublist.cons_cons | apply List.Sublist.cons))) ?_
                                      refine M_a2 rfl rfl (a_call (enters_of Tryd.func23 (by kernel_rfl) rfl) rfl (f23_ok (insts := (insts.map bare) ++ [loneP (needT job nm val)]) (hg.mono (hIJ7.trans (hJ3.trans hJ4))) (insts_snoc hrx2 (by omega) (fun k hk => ((hrF2 k (by omega)).mono hJ4).ok) (lone_ok ((hneed7.mono hJ3).mono hJ4) hts) (by rw [List.length_map]; omega))) rfl ?_) ?_
                                      ·
                                        rintro _ J5 _ hJ5 ⟨pv, pvs, rfl, hp, rfl⟩
                                        refine T_t0 ?_
                                        refine T_f rfl (fun _ _ => y_move rfl) rfl rfl rfl ?_
                                        refine T_f rfl (fun _ _ => y_extract rfl rfl) rfl rfl rfl ?_
                                        refine T_f rfl (fun _ _ => y_extract rfl rfl) rfl rfl rfl ?_
                                        refine T_f rfl (fun _ _ => y_assign rfl) rfl rfl rfl ?_
                                        refine T_acts (fun _ h => by first | exact h.sublist (by repeat first | exact List.nil_sublist _ | exact List.Sublist.refl _ | apply List.Sublist.cons_cons | apply List.Sublist.cons) | exact St.back (by assumption) (h.sublist (by repeat first | exact List.nil_sublist _ | exact List.Sublist.refl _ | apply List.Sublist.cons_cons | apply List.Sublist.cons))) ?_
                                        refine M_a2 rfl rfl (a_stw (us := eFault.cells (buildP ((insts.map bare) ++ [loneP (needT job nm val)])).2) tab rfl rfl rfl rfl (eFault.one _) rfl ?_) ?_
                                        ·
                                          refine T_t0 ?_
                                          refine T_nil (fun _ h => by first | exact h.sublist (by repeat first | exact List.nil_sublist _ | exact List.Sublist.refl _ | apply List.Sublist.cons_cons | apply List.Sublist.cons) | exact St.back (by assumption) (h.sublist (by repeat first | exact List.nil_sublist _ | exact List.Sublist.refl _ | apply List.Sublist.cons_cons | apply List.Sublist.cons))) ?_
                                          refine K_thenA ?_
                                          exact K_mid (J5, pv, pvs, b23) rfl (by repeat first | exact .nil _ | refine .cons rfl ?_) rfl ⟨hJ3.trans (hJ4.trans hJ5), hp⟩
                                        exact M_nil
                                      exact M_nil
                                    exact M_nil
                                  exact M_nil
                                refine M_a1 rfl rfl (a_alloc tab rfl rfl ?_) ?_
                                ·
                                  intro b23
                                  refine K_b1 ?_
                                  refine T_acts (fun _ h => by first | exact h.sublist (by repeat first | exact List.nil_sublist _ | exact List.Sublist.refl _ | apply List.Sublist.cons_cons | apply List.Sublist.cons) | exact St.back (by assumption) (h.sublist (by repeat first | exact List.nil_sublist _ | exact List.Sublist.refl _ | apply List.Sublist.cons_cons | apply List.Sublist.cons))) ?_
                                  refine M_a2 rfl rfl (a_bs (e := eInst) (xs := [loneI ⟨.slice (some ⟨b150, 0, none⟩) 1 1, rfl⟩]) (os := [.tmp 234]) tab rfl rfl rfl rfl rfl rfl rfl rfl rfl ?_) ?_
                                  ·
                                    intro b235
                                    refine K_b1 ?_
                                    refine T_t0 ?_
                                    refine T_acts (fun _ h => by first | exact h.sublist (by repeat first | exact List.nil_sublist _ | exact List.Sublist.refl _ | apply List.Sublist.cons_cons | apply List.Sublist.cons) | exact St.back (by assumption) (h.sublist (by repeat first | exact List.nil_sublist _ | exact List.Sublist.refl _ | apply List.Sublist.cons_cons | apply List.Sublist.cons))) ?_
                                    refine M_a2 rfl rfl (a_app (e := eInst) (ys := [loneI ⟨.slice (some ⟨b150, 0, none⟩) 1 1, rfl⟩]) tab rfl rfl rfl rfl rfl (rd_rowall .here) (by simp only [List.length_singleton]; omega) rfl ?_) ?_
                                    ·
                                      intro v236
                                      refine K_f1 (K_drop ?_)
                                      refine K_give (fun J4 hJ4 hrx2 => ?_)
                                      refine T_t0 ?_
                                      refine T_acts (fun _ h => by first | exact h.sublist (by repeat first | exact List.nil_sublist _ | exact List.Sublist.refl _ | apply List.Sublist.cons_cons | apply List.Sublist.cons) | exact St.back (by assumption) (h.sublist (by repeat first | exact List.nil_sublist _ | exact List.Sublist.refl _ | apply List.Sublist.cons_cons | apply List.Sublist.cons))) ?_
                                      refine M_a2 rfl rfl (a_call (enters_of Tryd.func23 (by kernel_rfl) rfl) rfl (f23_ok (insts := (insts.map bare) ++ [loneP (needT job nm val)]) (hg.mono (hIJ7.trans (hJ3.trans hJ4))) (insts_snoc hrx2 (by omega) (fun k hk => ((hrF2 k (by omega)).mono hJ4).ok) (lone_ok ((hneed7.mono hJ3).mono hJ4) hts) (by rw [List.length_map]; omega))) rfl ?_) ?_
                                      ·
                                        rintro _ J5 _ hJ5 ⟨pv, pvs, rfl, hp, rfl⟩
                                        refine T_t0 ?_
                                        refine T_f rfl (fun _ _ => y_move rfl) rfl rfl rfl ?_
                                        refine T_f rfl (fun _ _ => y_extract rfl rfl) rfl rfl rfl ?_
                                        refine T_f rfl (fun _ _ => y_extract rfl rfl) rfl rfl rfl ?_
                                        refine T_f rfl (fun _ _ => y_assign rfl) rfl rfl rfl ?_
                                        refine T_acts (fun _ h => by first | exact h.sublist (by repeat first | exact List.nil_sublist _ | exact List.Sublist.refl _ | apply List.Sublist.cons_cons | apply List.Sublist.cons) | exact St.back (by assumption) (h.sublist (by repeat first | exact List.nil_sublist _ | exact List.Sublist.refl _ | apply List.Sublist.cons_cons | apply List.Sublist.cons))) ?_
                                        refine M_a2 rfl rfl (a_stw (us := eFault.cells (buildP ((insts.map bare) ++ [loneP (needT job nm val)])).2) tab rfl rfl rfl rfl (eFault.one _) rfl ?_) ?_
                                        ·
                                          refine T_t0 ?_
                                          refine T_nil (fun _ h => by first | exact h.sublist (by repeat first | exact List.nil_sublist _ | exact List.Sublist.refl _ | apply List.Sublist.cons_cons | apply List.Sublist.cons) | exact St.back (by assumption) (h.sublist (by repeat first | exact List.nil_sublist _ | exact List.Sublist.refl _ | apply List.Sublist.cons_cons | apply List.Sublist.cons))) ?_
                                          refine K_thenA ?_
                                          exact K_mid (J5, pv, pvs, b23) rfl (by repeat first | exact .nil _ | refine .cons rfl ?_) rfl ⟨hJ3.trans (hJ4.trans hJ5), hp⟩
                                        exact M_nil
                                      exact M_nil
                                    exact M_nil
                                  exact M_nil
                                exact M_nil
                              refine M_a2 rfl rfl (a_bs (e := eInst) (xs := [loneI ⟨.slice (some ⟨b150, 0, none⟩) 1 1, rfl⟩]) (os := [.tmp 234]) tab rfl rfl rfl rfl rfl rfl rfl rfl rfl ?_) ?_
                              ·
                                intro b235
                                refine T_t0 ?_
                                refine T_acts (fun _ h => by first | exact h.sublist (by repeat first | exact List.nil_sublist _ | exact List.Sublist.refl _ | apply List.Sublist.cons_cons | apply List.Sublist.cons) | exact St.back (by assumption) (h.sublist (by repeat first | exact List.nil_sublist _ | exact List.Sublist.refl _ | apply List.Sublist.cons_cons | apply List.Sublist.cons))) ?_
                                refine M_a2 rfl rfl (a_call (enters_of Tryd.func22 (by kernel_rfl) rfl) rfl (f22_ok (hI1.mono hJ17) (fun k hk => (hF1 k hk).mono hJ17)) rfl ?_) ?_
                                ·
                                  rintro v233 J3 _ hJ3 ⟨rx2, rfl, hrl2, hrF2⟩
                                  refine T_t0 ?_
                                  refine T_acts (fun _ h => by first | exact h.sublist (by repeat first | exact List.nil_sublist _ | exact List.Sublist.refl _ | apply List.Sublist.cons_cons | apply List.Sublist.cons) | exact St.back (by assumption) (h.sublist (by repeat first | exact List.nil_sublist _ | exact List.Sublist.refl _ | apply List.Sublist.cons_cons | apply List.Sublist.cons))) ?_
                                  refine M_a2 rfl rfl (a_app (e := eInst) (ys := [loneI ⟨.slice (some ⟨b150, 0, none⟩) 1 1, rfl⟩]) tab rfl rfl rfl rfl rfl (rd_rowall .here) (by simp only [List.length_singleton]; omega) rfl ?_) ?_
                                  ·
                                    intro v236
                                    refine K_f1 (K_drop ?_)
                                    refine K_give (fun J4 hJ4 hrx2 => ?_)
                                    refine T_t0 ?_
                                    refine T_acts (fun _ h => by first | exact h.sublist (by repeat first | exact List.nil_sublist _ | exact List.Sublist.refl _ | apply List.Sublist.cons_cons | apply List.Sublist.cons) | exact St.back (by assumption) (h.sublist (by repeat first | exact List.nil_sublist _ | exact List.Sublist.refl _ | apply List.Sublist.cons_cons | apply List.Sublist.cons))) ?_
                                    refine M_a2 rfl rfl (a_call (enters_of Tryd.func23 (by kernel_rfl) rfl) rfl (f23_ok (insts := (insts.map bare) ++ [loneP (needT job nm val)]) (hg.mono (hIJ7.trans (hJ3.trans hJ4))) (insts_snoc hrx2 (by omega) (fun k hk => ((hrF2 k (by omega)).mono hJ4).ok) (lone_ok ((hneed7.mono hJ3).mono hJ4) hts) (by rw [List.length_map]; omega))) rfl ?_) ?_
                                    ·
                                      rintro _ J5 _ hJ5 ⟨pv, pvs, rfl, hp, rfl⟩
                                      refine T_t0 ?_
                                      refine T_f rfl (fun _ _ => y_move rfl) rfl rfl rfl ?_
                                      refine T_f rfl (fun _ _ => y_extract rfl rfl) rfl rfl rfl ?_
                                      refine T_f rfl (fun _ _ => y_extract rfl rfl) rfl rfl rfl ?_
                                      refine T_acts (fun _ h => by first | exact h.sublist (by repeat first | exact List.nil_sublist _ | exact List.Sublist.refl _ | apply List.Sublist.cons_cons | apply List.Sublist.cons) | exact St.back (by assumption) (h.sublist (by repeat first | exact List.nil_sublist _ | exact List.Sublist.refl _ | apply List.Sublist.cons_cons | apply List.Sublist.cons))) ?_
                                      refine M_a2 rfl rfl (a_alloc tab rfl rfl ?_) ?_
                                      ·
                                        intro b23
                                        refine T_t0 ?_
                                        refine T_f rfl (fun _ _ => y_assign rfl) rfl rfl rfl ?_
                                        refine T_acts (fun _ h => by first | exact h.sublist (by repeat first | exact List.nil_sublist _ | exact List.Sublist.refl _ | apply List.Sublist.cons_cons | apply List.Sublist.cons) | exact St.back (by assumption) (h.sublist (by repeat first | exact List.nil_sublist _ | exact List.Sublist.refl _ | apply List.Sublist.cons_cons | apply List.Sublist.cons))) ?_
                                        refine M_a2 rfl rfl (a_stw (us := eFault.cells (buildP ((insts.map bare) ++ [loneP (needT job nm val)])).2) tab rfl rfl rfl rfl (eFault.one _) rfl ?_) ?_
                                        ·
                                          refine T_t0 ?_
                                          refine T_nil (fun _ h => by first | exact h.sublist (by repeat first | exact List.nil_sublist _ | exact List.Sublist.refl _ | apply List.Sublist.cons_cons | apply List.Sublist.cons) | exact St.back (by assumption) (h.sublist (by repeat first | exact List.nil_sublist _ | exact List.Sublist.refl _ | apply List.Sublist.cons_cons | apply List.Sublist.cons))) ?_
                                          refine K_thenA ?_
                                          exact K_mid (J5, pv, pvs, b23) rfl (by repeat first | exact .nil _ | refine .cons rfl ?_) rfl ⟨hJ3.trans (hJ4.trans hJ5), hp⟩
                                        exact M_nil
                                      exact M_nil
                                    refine M_a2 rfl rfl (a_alloc tab rfl rfl ?_) ?_
                                    ·
                                      intro b23
                                      refine T_t0 ?_
                                      refine T_acts (fun _ h => by first | exact h.sublist (by repeat first | exact List.nil_sublist _ | exact List.Sublist.refl _ | apply List.Sublist.cons_cons | apply List.Sublist.cons) | exact St.back (by assumption) (h.sublist (by repeat first | exact List.nil_sublist _ | exact List.Sublist.refl _ | apply List.Sublist.cons_cons | apply List.Sublist.cons))) ?_
                                      refine M_a2 rfl rfl (a_call (enters_of Tryd.func23 (by kernel_rfl) rfl) rfl (f23_ok (insts := (insts.map bare) ++ [loneP (needT job nm val)]) (hg.mono (hIJ7.trans (hJ3.trans hJ4))) (insts_snoc hrx2 (by omega) (fun k hk => ((hrF2 k (by omega)).mono hJ4).ok) (lone_ok ((hneed7.mono hJ3).mono hJ4) hts) (by rw [List.length_map]; omega))) rfl ?_) ?_
                                      ·
                                        rintro _ J5 _ hJ5 ⟨pv, pvs, rfl, hp, rfl⟩
                                        refine T_t0 ?_
                                        refine T_f rfl (fun _ _ => y_move rfl) rfl rfl rfl ?_
                                        refine T_f rfl (fun _ _ => y_extract rfl rfl) rfl rfl rfl ?_
                                        refine T_f rfl (fun _ _ => y_extract rfl rfl) rfl rfl rfl ?_
                                        refine T_f rfl (fun _ _ => y_assign rfl) rfl rfl rfl ?_
                                        refine T_acts (fun _ h => by first | exact h.sublist (by repeat first | exact List.nil_sublist _ | exact List.Sublist.refl _ | apply List.Sublist.cons_cons | apply List.Sublist.cons) | exact St.back (by assumption) (h.sublist (by repeat first | exact List.nil_sublist _ | exact List.Sublist.refl _ | apply List.Sublist.cons_cons | apply List.Sublist.cons))) ?_
                                        refine M_a2 rfl rfl (a_stw (us := eFault.cells (buildP ((insts.map bare) ++ [loneP (needT job nm val)])).2) tab rfl rfl rfl rfl (eFault.one _) rfl ?_) ?_
                                        ·
                                          refine T_t0 ?_
                                          refine T_nil (fun _ h => by first | exact h.sublist (by repeat first | exact List.nil_sublist _ | exact List.Sublist.refl _ | apply List.Sublist.cons_cons | apply List.Sublist.cons) | exact St.back (by assumption) (h.sublist (by repeat first | exact List.nil_sublist _ | exact List.Sublist.refl _ | apply List.Sublist.cons_cons | apply List.Sublist.cons))) ?_
                                          refine K_thenA ?_
                                          exact K_mid (J5, pv, pvs, b23) rfl (by repeat first | exact .nil _ | refine .cons rfl ?_) rfl ⟨hJ3.trans (hJ4.trans hJ5), hp⟩
                                        exact M_nil
                                      exact M_nil
                                    exact M_nil
                                  refine M_a2 rfl rfl (a_alloc tab rfl rfl ?_) ?_
                                  ·
                                    intro b23
                                    refine K_b2 ?_
                                    refine T_t0 ?_
                                    refine T_acts (fun _ h => by first | exact h.sublist (by repeat first | exact List.nil_sublist _ | exact List.Sublist.refl _ | apply List.Sublist.cons_cons | apply List.Sublist.cons) | exact St.back (by assumption) (h.sublist (by repeat first | exact List.nil_sublist _ | exact List.Sublist.refl _ | apply List.Sublist.cons_cons | apply List.Sublist.cons))) ?_
                                    refine M_a2 rfl rfl (a_app (e := eInst) (ys := [loneI ⟨.slice (some ⟨b150, 0, none⟩) 1 1, rfl⟩]) tab rfl rfl rfl rfl rfl (rd_rowall .here) (by simp only [List.length_singleton]; omega) rfl ?_) ?_
                                    ·
                                      intro v236
                                      refine K_f1 (K_drop ?_)
                                      refine K_give (fun J4 hJ4 hrx2 => ?_)
                                      refine T_t0 ?_
                                      refine T_acts (fun _ h => by first | exact h.sublist (by repeat first | exact List.nil_sublist _ | exact List.Sublist.refl _ | apply List.Sublist.cons_cons | apply List.Sublist.cons) | exact St.back (by assumption) (h.sublist (by repeat first | exact List.nil_sublist _ | exact List.Sublist.refl _ | apply List.Sublist.cons_cons | apply List.Sublist.cons))) ?_
                                      refine M_a2 rfl rfl (a_call (enters_of Tryd.func23 (by kernel_rfl) rfl) rfl (f23_ok (insts := (insts.map bare) ++ [loneP (needT job nm val)]) (hg.mono (hIJ7.trans (hJ3.trans hJ4))) (insts_snoc hrx2 (by omega) (fun k hk => ((hrF2 k (by omega)).mono hJ4).ok) (lone_ok ((hneed7.mono hJ3).mono hJ4) hts) (by rw [List.length_map]; omega))) rfl ?_) ?_
                                      ·
                                        rintro _ J5 _ hJ5 ⟨pv, pvs, rfl, hp, rfl⟩
                                        refine T_t0 ?_
                                        refine T_f rfl (fun _ _ => y_move rfl) rfl rfl rfl ?_
                                        refine T_f rfl (fun _ _ => y_extract rfl rfl) rfl rfl rfl ?_
                                        refine T_f rfl (fun _ _ => y_extract rfl rfl) rfl rfl rfl ?_
                                        refine T_f rfl (fun _ _ => y_assign rfl) rfl rfl rfl ?_
                                        refine T_acts (fun _ h => by first | exact h.sublist (by repeat first | exact List.nil_sublist _ | exact List.Sublist.refl _ | apply List.Sublist.cons_cons | apply List.Sublist.cons) | exact St.back (by assumption) (h.sublist (by repeat first | exact List.nil_sublist _ | exact List.Sublist.refl _ | apply List.Sublist.cons_cons | apply List.Sublist.cons))) ?_
                                        refine M_a2 rfl rfl (a_stw (us := eFault.cells (buildP ((insts.map bare) ++ [loneP (needT job nm val)])).2) tab rfl rfl rfl rfl (eFault.one _) rfl ?_) ?_
                                        ·
                                          refine T_t0 ?_
                                          refine T_nil (fun _ h => by first | exact h.sublist (by repeat first | exact List.nil_sublist _ | exact List.Sublist.refl _ | apply List.Sublist.cons_cons | apply List.Sublist.cons) | exact St.back (by assumption) (h.sublist (by repeat first | exact List.nil_sublist _ | exact List.Sublist.refl _ | apply List.Sublist.cons_cons | apply List.Sublist.cons))) ?_
                                          refine K_thenA ?_
                                          exact K_mid (J5, pv, pvs, b23) rfl (by repeat first | exact .nil _ | refine .cons rfl ?_) rfl ⟨hJ3.trans (hJ4.trans hJ5), hp⟩
                                        exact M_nil
                                      exact M_nil
                                    exact M_nil
                                  exact M_nil
                                refine M_a2 rfl rfl (a_alloc tab rfl rfl ?_) ?_
                                ·
                                  intro b23
                                  refine K_b1 ?_
                                  refine T_t0 ?_
                                  refine T_acts (fun _ h => by first | exact h.sublist (by repeat first | exact List.nil_sublist _ | exact List.Sublist.refl _ | apply List.Sublist.cons_cons | apply List.Sublist.cons) | exact St.back (by assumption) (h.sublist (by repeat first | exact List.nil_sublist _ | exact List.Sublist.refl _ | apply List.Sublist.cons_cons | apply List.Sublist.cons))) ?_
                                  refine M_a2 rfl rfl (a_call (enters_of Tryd.func22 (by kernel_rfl) rfl) rfl (f22_ok (hI1.mono hJ17) (fun k hk => (hF1 k hk).mono hJ17)) rfl ?_) ?_
                                  ·
                                    rintro v233 J3 _ hJ3 ⟨rx2, rfl, hrl2, hrF2⟩
                                    refine T_t0 ?_
                                    refine T_acts (fun _ h => by first | exact h.sublist (by repeat first | exact List.nil_sublist _ | exact List.Sublist.refl _ | apply List.Sublist.cons_cons | apply List.Sublist.cons) | exact St.back (by assumption) (h.sublist (by repeat first | exact List.nil_sublist _ | exact List.Sublist.refl _ | apply List.Sublist.cons_cons | apply List.Sublist.cons))) ?_
                                    refine M_a2 rfl rfl (a_app (e := eInst) (ys := [loneI ⟨.slice (some ⟨b150, 0, none⟩) 1 1, rfl⟩]) tab rfl rfl rfl rfl rfl (rd_rowall .here) (by simp only [List.length_singleton]; omega) rfl ?_) ?_
                                    ·
                                      intro v236
                                      refine K_f1 (K_drop ?_)
                                      refine K_give (fun J4 hJ4 hrx2 => ?_)
                                      refine T_t0 ?_
                                      refine T_acts (fun _ h => by first | exact h.sublist (by repeat first | exact List.nil_sublist _ | exact List.Sublist.refl _ | apply List.Sublist.cons_cons | apply List.Sublist.cons) | exact St.back (by assumption) (h.sublist (by repeat first | exact List.nil_sublist _ | exact List.Sublist.refl _ | apply List.Sublist.cons_cons | apply List.Sublist.cons))) ?_
                                      refine M_a2 rfl rfl (a_call (enters_of Tryd.func23 (by kernel_rfl) rfl) rfl (f23_ok (insts := (insts.map bare) ++ [loneP (needT job nm val)]) (hg.mono (hIJ7.trans (hJ3.trans hJ4))) (insts_snoc hrx2 (by omega) (fun k hk => ((hrF2 k (by omega)).mono hJ4).ok) (lone_ok ((hneed7.mono hJ3).mono hJ4) hts) (by rw [List.length_map]; omega))) rfl ?_) ?_
                                      ·
                                        rintro _ J5 _ hJ5 ⟨pv, pvs, rfl, hp, rfl⟩
                                        refine T_t0 ?_
                                        refine T_f rfl (fun _ _ => y_move rfl) rfl rfl rfl ?_
                                        refine T_f rfl (fun _ _ => y_extract rfl rfl) rfl rfl rfl ?_
                                        refine T_f rfl (fun _ _ => y_extract rfl rfl) rfl rfl rfl ?_
                                        refine T_f rfl (fun _ _ => y_assign rfl) rfl rfl rfl ?_
                                        refine T_acts (fun _ h => by first | exact h.sublist (by repeat first | exact List.nil_sublist _ | exact List.Sublist.refl _ | apply List.Sublist.cons_cons | apply List.Sublist.cons) | exact St.back (by assumption) (h.sublist (by repeat first | exact List.nil_sublist _ | exact List.Sublist.refl _ | apply List.Sublist.cons_cons | apply List.Sublist.cons))) ?_
                                        refine M_a2 rfl rfl (a_stw (us := eFault.cells (buildP ((insts.map bare) ++ [loneP (needT job nm val)])).2) tab rfl rfl rfl rfl (eFault.one _) rfl ?_) ?_
                                        ·
                                          refine T_t0 ?_
                                          refine T_nil (fun _ h => by first | exact h.sublist (by repeat first | exact List.nil_sublist _ | exact List.Sublist.refl _ | apply List.Sublist.cons_cons | apply List.Sublist.cons) | exact St.back (by assumption) (h.sublist (by repeat first | exact List.nil_sublist _ | exact List.Sublist.refl _ | apply List.Sublist.cons_cons | apply List.Sublist.cons))) ?_
                                          refine K_thenA ?_
                                          exact K_mid (J5, pv, pvs, b23) rfl (by repeat first | exact .nil _ | refine .cons rfl ?_) rfl ⟨hJ3.trans (hJ4.trans hJ5), hp⟩
                                        exact M_nil
                                      exact M_nil
                                    exact M_nil
                                  exact M_nil
                                exact M_nil
                              refine M_a1 rfl rfl (a_alloc tab rfl rfl ?_) ?_
                              ·
                                intro b23
                                refine T_acts (fun _ h => by first | exact h.sublist (by repeat first | exact List.nil_sublist _ | exact List.Sublist.refl _ | apply List.Sublist.cons_cons | apply List.Sublist.cons) | exact St.back (by assumption) (h.sublist (by repeat first | exact List.nil_sublist _ | exact List.Sublist.refl _ | apply List.Sublist.cons_cons | apply List.Sublist.cons))) ?_
                                refine M_a1 rfl rfl (a_call (enters_of Tryd.func22 (by kernel_rfl) rfl) rfl (f22_ok (hI1.mono hJ17) (fun k hk => (hF1 k hk).mono hJ17)) rfl ?_) ?_
                                ·
                                  rintro v233 J3 _ hJ3 ⟨rx2, rfl, hrl2, hrF2⟩
                                  refine T_acts (fun _ h => by first | exact h.sublist (by repeat first | exact List.nil_sublist _ | exact List.Sublist.refl _ | apply List.Sublist.cons_cons | apply List.Sublist.cons) | exact St.back (by assumption) (h.sublist (by repeat first | exact List.nil_sublist _ | exact List.Sublist.refl _ | apply List.Sublist.cons_cons | apply List.Sublist.cons))) ?_
                                  refine M_a2 rfl rfl (a_bs (e := eInst) (xs := [loneI ⟨.slice (some ⟨b150, 0, none⟩) 1 1, rfl⟩]) (os := [.tmp 234]) tab rfl rfl rfl rfl rfl rfl rfl rfl rfl ?_) ?_
                                  ·
                                    intro b235
                                    refine K_b1 ?_
                                    refine T_t0 ?_
                                    refine T_acts (fun _ h => by first | exact h.sublist (by repeat first | exact List.nil_sublist _ | exact List.Sublist.refl _ | apply List.Sublist.cons_cons | apply List.Sublist.cons) | exact St.back (by assumption) (h.sublist (by repeat first | exact List.nil_sublist _ | exact List.Sublist.refl _ | apply List.Sublist.cons_cons | apply List.Sublist.cons))) ?_
                                    refine M_a2 rfl rfl (a_app (e := eInst) (ys := [loneI ⟨.slice (some ⟨b150, 0, none⟩) 1 1, rfl⟩]) tab rfl rfl rfl rfl rfl (rd_rowall .here) (by simp only [List.length_singleton]; omega) rfl ?_) ?_
                                    ·
                                      intro v236
                                      refine K_f1 (K_drop ?_)
                                      refine K_give (fun J4 hJ4 hrx2 => ?_)
                                      refine T_t0 ?_
                                      refine T_acts (fun _ h => by first | exact h.sublist (by repeat first | exact List.nil_sublist _ | exact List.Sublist.refl _ | apply List.Sublist.cons_cons | apply List.Sublist.cons) | exact St.back (by assumption) (h.sublist (by repeat first | exact List.nil_sublist _ | exact List.Sublist.refl _ | apply List.Sublist.cons_cons | apply List.Sublist.cons))) ?_
                                      refine M_a2 rfl rfl (a_call (enters_of Tryd.func23 (by kernel_rfl) rfl) rfl (f23_ok (insts := (insts.map bare) ++ [loneP (needT job nm val)]) (hg.mono (hIJ7.trans (hJ3.trans hJ4))) (insts_snoc hrx2 (by omega) (fun k hk => ((hrF2 k (by omega)).mono hJ4).ok) (lone_ok ((hneed7.mono hJ3).mono hJ4) hts) (by rw [List.length_map]; omega))) rfl ?_) ?_
                                      ·
                                        rintro _ J5 _ hJ5 ⟨pv, pvs, rfl, hp, rfl⟩
                                        refine T_t0 ?_
                                        refine T_f rfl (fun _ _ => y_move rfl) rfl rfl rfl ?_
                                        refine T_f rfl (fun _ _ => y_extract rfl rfl) rfl rfl rfl ?_
                                        refine T_f rfl (fun _ _ => y_extract rfl rfl) rfl rfl rfl ?_
                                        refine T_f rfl (fun _ _ => y_assign rfl) rfl rfl rfl ?_
                                        refine T_acts (fun _ h => by first | exact h.sublist (by repeat first | exact List.nil_sublist _ | exact List.Sublist.refl _ | apply List.Sublist.cons_cons | apply List.Sublist.cons) | exact St.back (by assumption) (h.sublist (by repeat first | exact List.nil_sublist _ | exact List.Sublist.refl _ | apply List.Sublist.cons_cons | apply List.Sublist.cons))) ?_
                                        refine M_a2 rfl rfl (a_stw (us := eFault.cells (buildP ((insts.map bare) ++ [loneP (needT job nm val)])).2) tab rfl rfl rfl rfl (eFault.one _) rfl ?_) ?_
                                        ·
                                          refine T_t0 ?_
                                          refine T_nil (fun _ h => by first | exact h.sublist (by repeat first | exact List.nil_sublist _ | exact List.Sublist.refl _ | apply List.Sublist.cons_cons | apply List.Sublist.cons) | exact St.back (by assumption) (h.sublist (by repeat first | exact List.nil_sublist _ | exact List.Sublist.refl _ | apply List.Sublist.cons_cons | apply List.Sublist.cons))) ?_
                                          refine K_thenA ?_
                                          exact K_mid (J5, pv, pvs, b23) rfl (by repeat first | exact .nil _ | refine .cons rfl ?_) rfl ⟨hJ3.trans (hJ4.trans hJ5), hp⟩
                                        exact M_nil
                                      exact M_nil
                                    exact M_nil
                                  exact M_nil
                                refine M_a2 rfl rfl (a_bs (e := eInst) (xs := [loneI ⟨.slice (some ⟨b150, 0, none⟩) 1 1, rfl⟩]) (os := [.tmp 234]) tab rfl rfl rfl rfl rfl rfl rfl rfl rfl ?_) ?_
                                ·
                                  intro b235
                                  refine T_t0 ?_
                                  refine T_acts (fun _ h => by first | exact h.sublist (by repeat first | exact List.nil_sublist _ | exact List.Sublist.refl _ | apply List.Sublist.cons_cons | apply List.Sublist.cons) | exact St.back (by assumption) (h.sublist (by repeat first | exact List.nil_sublist _ | exact List.Sublist.refl _ | apply List.Sublist.cons_cons | apply List.Sublist.cons))) ?_
                                  refine M_a2 rfl rfl (a_call (enters_of Tryd.func22 (by kernel_rfl) rfl) rfl (f22_ok (hI1.mono hJ17) (fun k hk => (hF1 k hk).mono hJ17)) rfl ?_) ?_
                                  ·
                                    rintro v233 J3 _ hJ3 ⟨rx2, rfl, hrl2, hrF2⟩
                                    refine T_t0 ?_
                                    refine T_acts (fun _ h => by first | exact h.sublist (by repeat first | exact List.nil_sublist _ | exact List.Sublist.refl _ | apply List.Sublist.cons_cons | apply List.Sublist.cons) | exact St.back (by assumption) (h.sublist (by repeat first | exact List.nil_sublist _ | exact List.Sublist.refl _ | apply List.Sublist.cons_cons | apply List.Sublist.cons))) ?_
                                    refine M_a2 rfl rfl (a_app (e := eInst) (ys := [loneI ⟨.slice (some ⟨b150, 0, none⟩) 1 1, rfl⟩]) tab rfl rfl rfl rfl rfl (rd_rowall .here) (by simp only [List.length_singleton]; omega) rfl ?_) ?_
                                    ·
                                      intro v236
                                      refine K_f1 (K_drop ?_)
                                      refine K_give (fun J4 hJ4 hrx2 => ?_)
                                      refine T_t0 ?_
                                      refine T_acts (fun _ h => by first | exact h.sublist (by repeat first | exact List.nil_sublist _ | exact List.Sublist.refl _ | apply List.Sublist.cons_cons | apply List.Sublist.cons) | exact St.back (by assumption) (h.sublist (by repeat first | exact List.nil_sublist _ | exact List.Sublist.refl _ | apply List.Sublist.cons_cons | apply List.Sublist.cons))) ?_
                                      refine M_a2 rfl rfl (a_call (enters_of Tryd.func23 (by kernel_rfl) rfl) rfl (f23_ok (insts := (insts.map bare) ++ [loneP (needT job nm val)]) (hg.mono (hIJ7.trans (hJ3.trans hJ4))) (insts_snoc hrx2 (by omega) (fun k hk => ((hrF2 k (by omega)).mono hJ4).ok) (lone_ok ((hneed7.mono hJ3).mono hJ4) hts) (by rw [List.length_map]; omega))) rfl ?_) ?_
                                      ·
                                        rintro _ J5 _ hJ5 ⟨pv, pvs, rfl, hp, rfl⟩
                                        refine T_t0 ?_
                                        refine T_f rfl (fun _ _ => y_move rfl) rfl rfl rfl ?_
                                        refine T_f rfl (fun _ _ => y_extract rfl rfl) rfl rfl rfl ?_
                                        refine T_f rfl (fun _ _ => y_extract rfl rfl) rfl rfl rfl ?_
                                        refine T_f rfl (fun _ _ => y_assign rfl) rfl rfl rfl ?_
                                        refine T_acts (fun _ h => by first | exact h.sublist (by repeat first | exact List.nil_sublist _ | exact List.Sublist.refl _ | apply List.Sublist.cons_cons | apply List.Sublist.cons) | exact St.back (by assumption) (h.sublist (by repeat first | exact List.nil_sublist _ | exact List.Sublist.refl _ | apply List.Sublist.cons_cons | apply List.Sublist.cons))) ?_
                                        refine M_a2 rfl rfl (a_stw (us := eFault.cells (buildP ((insts.map bare) ++ [loneP (needT job nm val)])).2) tab rfl rfl rfl rfl (eFault.one _) rfl ?_) ?_
                                        ·
                                          refine T_t0 ?_
                                          refine T_nil (fun _ h => by first | exact h.sublist (by repeat first | exact List.nil_sublist _ | exact List.Sublist.refl _ | apply List.Sublist.cons_cons | apply List.Sublist.cons) | exact St.back (by assumption) (h.sublist (by repeat first | exact List.nil_sublist _ | exact List.Sublist.refl _ | apply List.Sublist.cons_cons | apply List.Sublist.cons))) ?_
                                          refine K_thenA ?_
                                          exact K_mid (J5, pv, pvs, b23) rfl (by repeat first | exact .nil _ | refine .cons rfl ?_) rfl ⟨hJ3.trans (hJ4.trans hJ5), hp⟩
                                        exact M_nil
                                      exact M_nil
                                    exact M_nil
                                  exact M_nil
                                exact M_nil
                              exact M_nil
                            ·
                              rintro ⟨J8, pv, pvs, b23⟩ ⟨hJ8, hp⟩
                              simp only at hJ8 hp ⊢
                              refine K_seq ?_
                              refine K_seq ?_
                              have hIJ2 := hIJ7.trans hJ8
                              refine K_sc (.there (.there .here)) (fun hwc => ?_)
                              refine K_region ?_
                              refine W_y (y_move rfl) rfl rfl rfl ?_
                              refine W_y (y_lenc tab hwc rfl rfl) rfl rfl rfl ?_
                              refine W_y (by first | exact y_eq rfl rfl | exact y_seq rfl rfl) rfl rfl rfl ?_
                              refine K_nil ?_
                              refine K_then ?_
                              first | refine K_if rfl (fun h34 => ?_) (fun h34 => ?_) | refine K_ifn rfl (fun h34 => ?_) (fun h34 => ?_) | refine K_cond rfl (fun h34 => ?_) (fun h34 => ?_)
                              ·
                                have h3 : (allP (meansQ (insts.map bare) job [(nm, val)]) raws.length).length = 0 := by omega
                                have hcode := hb4 h0 h3
                                refine K_seq ?_
                                refine K_region ?_
                                refine W_y (by first | exact y_fa tab rfl rfl rfl rfl rfl | exact y_fae tab (by assumption) rfl rfl rfl rfl rfl) rfl rfl rfl ?_
                                refine W_y (y_load rfl (ld_cell tab rfl (rd_one .here rfl))) rfl rfl rfl ?_
                                refine W_y (by first | exact y_eq rfl rfl | exact y_seq rfl rfl) rfl rfl rfl ?_
                                refine W_y (y_move rfl) rfl rfl rfl ?_
                                first | refine K_splitd 246 rfl (fun h35 => ?_) (fun h35 => ?_) | refine K_split 246 rfl (fun h35 => ?_) (fun h35 => ?_)
                                ·
                                  refine W_a (a_call (enters_of Tryd.func19 (by kernel_rfl) rfl) rfl (f19_ok (hg.mono hIJ2)) rfl ?_) rfl
                                  rintro _ J9 _ hJ9 ⟨rfl, rfl⟩
                                  refine W_y (y_pick rfl rfl) rfl rfl rfl ?_
                                  refine W_y (y_assign rfl) rfl rfl rfl ?_
                                  refine K_nil ?_
                                  refine K_then ?_
                                  refine K_ret ?_
                                  refine K_then_ret ?_
                                  refine K_out1 rfl (.tmp rfl) ?_
                                  first
                                    | exact fun w hw => ⟨_, _, _, rfl, hJ9, hw, rfl⟩
                                    | exact fun w hw => ⟨_, _, _, rfl, hIJ.trans hJ9, hw, rfl⟩
                                    | exact fun w hw => ⟨_, _, _, rfl, hIJ2.trans hJ9, hw, rfl⟩
                                ·
                                  exact absurd hcode h35
                              ·
                                have h3 : (allP (meansQ (insts.map bare) job [(nm, val)]) raws.length).length ≠ 0 := by omega
                                obtain ⟨pr, hpr, hbe⟩ := hb5 h0 h3
                                rw [hbe] at hp ⊢
                                simp only at hp ⊢
                                have hpl := hp.len
                                rw [List.length_append, List.length_singleton, hpr] at hpl
                                have hpc := hp.top.sc
                                have hla := hp.at_ raws.length (by rw [List.length_append, List.length_singleton]; omega)
                                rw [show (pr ++ [allP (meansQ (insts.map bare) job [(nm, val)]) raws.length]).getD raws.length [] = allP (meansQ (insts.map bare) job [(nm, val)]) raws.length by rw [List.getD_eq_getElem?_getD, List.getElem?_append_right (by omega), show raws.length - pr.length = 0 by omega]; rfl] at hla
                                have hlc := hla.sc
                                refine K_skip ?_
                                refine K_then ?_
                                refine K_seq ?_
                                refine K_region ?_
                                refine W_y (by first | exact y_fa tab rfl rfl rfl rfl rfl | exact y_fae tab (by assumption) rfl rfl rfl rfl rfl) rfl rfl rfl ?_
                                refine W_y (y_load rfl (ld_cell tab rfl (rd_one .here rfl))) rfl rfl rfl ?_
                                refine W_y (by first | exact y_eq rfl rfl | exact y_seq rfl rfl) rfl rfl rfl ?_
                                refine W_y (y_move rfl) rfl rfl rfl ?_
                                refine K_split 252 rfl (fun h36 => ?_) (fun h36 => ?_)
                                ·
                                  refine W_y (y_move rfl) rfl rfl rfl ?_
                                  refine W_y (by first | exact y_lenc tab (by assumption) rfl rfl | exact y_lens tab rfl rfl | exact y_lenstr tab rfl rfl) rfl rfl rfl ?_
                                  refine W_y (y_move rfl) rfl rfl rfl ?_
                                  refine W_y (by first | exact y_lenc tab (by assumption) rfl rfl | exact y_lens tab rfl rfl | exact y_lenstr tab rfl rfl) rfl rfl rfl ?_
                                  refine W_y (y_add rfl rfl (by omega)) rfl rfl rfl ?_
                                  refine W_y (by first | exact y_eq rfl rfl | exact y_seq rfl rfl) rfl rfl rfl ?_
                                  refine W_y (y_pick rfl rfl) rfl rfl rfl ?_
                                  refine W_y (y_move rfl) rfl rfl rfl ?_
                                  first | refine K_splitd 260 rfl (fun h37 => ?_) (fun h37 => ?_) | refine K_split 260 rfl (fun h37 => ?_) (fun h37 => ?_)
                                  ·
                                    refine W_y (y_move rfl) rfl rfl rfl ?_
                                    refine W_y (y_move rfl) rfl rfl rfl ?_
                                    refine W_y (by first | exact y_lenc tab (by assumption) rfl rfl | exact y_lens tab rfl rfl | exact y_lenstr tab rfl rfl) rfl rfl rfl ?_
                                    refine W_y (y_ixN raws.length (y_ixi tab hp.top rfl rfl rfl rfl (by omega)) (by omega)) rfl rfl rfl ?_
                                    refine W_y (y_load rfl (ld_vi (i := raws.length) tab hp.top rfl (by omega))) rfl rfl rfl ?_
                                    refine W_y (y_move rfl) rfl rfl rfl ?_
                                    refine K_rdb (.there (.there .here)) (fun hwr => ?_)
                                    refine W_a (a_call (enters_of Tryd.func17 (by kernel_rfl) rfl) rfl (f17_ok (Rdb.ofRowI hla) hwr) rfl ?_) rfl
                                    rintro _ _ _ - ⟨rfl, rfl, rfl⟩
                                    rw [decide_eq_true (rfl : allP (meansQ (insts.map bare) job [(nm, val)]) raws.length = allP (meansQ (insts.map bare) job [(nm, val)]) raws.length)]
                                    refine W_y (y_pick rfl rfl) rfl rfl rfl ?_
                                    refine W_y (y_move rfl) rfl rfl rfl ?_
                                    refine K_split 269 rfl (fun h38 => ?_) (fun h38 => ?_)
                                    ·
                                      refine W_a (a_call (enters_of Tryd.func19 (by kernel_rfl) rfl) rfl (f19_ok (hg.mono hIJ2)) rfl ?_) rfl
                                      rintro _ J9 _ hJ9 ⟨rfl, rfl⟩
                                      refine W_y (y_pick rfl rfl) rfl rfl rfl ?_
                                      refine W_y (y_assign rfl) rfl rfl rfl ?_
                                      refine K_nil ?_
                                      refine K_then ?_
                                      refine K_ret ?_
                                      refine K_out1 rfl (.tmp rfl) ?_
                                      first
                                        | exact fun w hw => ⟨_, _, _, rfl, hJ9, hw, rfl⟩
                                        | exact fun w hw => ⟨_, _, _, rfl, hIJ.trans hJ9, hw, rfl⟩
                                        | exact fun w hw => ⟨_, _, _, rfl, hIJ2.trans hJ9, hw, rfl⟩
                                    ·
                                      cases h38
                                  ·
                                    exact absurd (by omega) h37
                                ·
                                  exact absurd h36 (by decide)
end Go.Proofs.YtfnmcpgajjkemaaDoor
