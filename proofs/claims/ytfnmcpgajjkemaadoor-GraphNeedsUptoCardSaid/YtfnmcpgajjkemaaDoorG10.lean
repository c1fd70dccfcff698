/- graph.Build. Printed by wip/gen/g10.py. -/
import Derived.Test.YtfnmcpgajjkemaaDoorG9
import Derived.Test.YtfnmcpgajjkemaaDoorG5
namespace Go.Proofs.YtfnmcpgajjkemaaDoor
open Go Go.RowKit Go.Proofs.YtfnmcpgajjkemaaDoor.SW
set_option maxRecDepth 100000
set_option maxHeartbeats 400000
def stageQ (insts : List InstP) (i k : Nat) : Bool := decide ((insts.getD k ip0).stage < (insts.getD i ip0).stage)
/-- What stands ahead of an instance, or its needs' first fault. -/
def predsOf (insts : List InstP) (i : Nat) : List Int × FaultV := if (insts.getD i ip0).has then neededR insts (insts.getD i ip0).needs else (allP (stageQ insts i) insts.length, fault0)
def predErr (insts : List InstP) (i : Nat) : Option FaultV := if (predsOf insts i).2.code = 0 then none else some (predsOf insts i).2
def predsL (insts : List InstP) : List (List Int) := tb insts.length fun i => (predsOf insts i).1
def ranksL (insts : List InstP) : List Int := tb insts.length fun i => (insts.getD i ip0).stage
/-- What Build comes to. -/
def buildP (insts : List InstP) : List (List Int) × FaultV := match (List.range insts.length).findSome? (predErr insts) with
  | some f => ([], f)
  | none => if (orderRes (predsL insts) (ranksL insts)).2 = 0 then (predsL insts, fault0)
    else ([], { (insts.getD (Lib.minOf (leftP insts.length (orderRes (predsL insts) (ranksL insts)).1)).toNat ip0).at_ with code := (orderRes (predsL insts) (ranksL insts)).2 })
theorem range_hit {β : Type} {q : Nat → Option β} {n k : Nat} {y : β} (hn : ∀ i, i < k → q i = none) (hk : k < n) (h : q k = some y) : (List.range n).findSome? q = some y :=
  findSome_hit (k := k) 0 (fun i hi => by rw [List.getD_eq_getElem?_getD, List.getElem?_range (by omega)]; exact hn i hi) (by simpa using hk) (by rw [List.getD_eq_getElem?_getD, List.getElem?_range hk]; exact h)
theorem range_miss {β : Type} {q : Nat → Option β} {n : Nat} (hn : ∀ i, i < n → q i = none) : (List.range n).findSome? q = none :=
  findSome_miss 0 (fun i hi => by simp at hi; rw [List.getD_eq_getElem?_getD, List.getElem?_range hi]; exact hn i hi)
theorem tb_succ {α : Type} {n : Nat} {f : Nat → α} : tb (n + 1) f = tb n f ++ [f n] := by simp [tb, List.range_succ]
theorem orderRes_left {insts : List InstP} (h : (orderRes (predsL insts) (ranksL insts)).2 ≠ 0) : (∀ k, k < (orderRes (predsL insts) (ranksL insts)).1.length → 0 ≤ (orderRes (predsL insts) (ranksL insts)).1.getD k 0 ∧ (orderRes (predsL insts) (ranksL insts)).1.getD k 0 < insts.length) ∧ (orderRes (predsL insts) (ranksL insts)).1.length < insts.length := by
  have hl : (predsL insts).length = insts.length := tb_len
  have hl2 : (ranksL insts).length = insts.length := tb_len
  unfold orderRes at h ⊢
  split at h
  · rename_i hc
    rw [if_pos hc]
    refine ⟨fun k hk => ?_, ?_⟩
    · have := orderL_range (preds := predsL insts) (ranks := ranksL insts) k hk
      rw [hl] at this; exact this
    · simp only at h ⊢
      split at h
      · omega
      · exact absurd rfl h
  · rename_i hc
    rw [if_neg hc]
    refine ⟨fun k hk => by simp at hk, ?_⟩
    rcases Nat.eq_zero_or_pos insts.length with h0 | h0
    · exact absurd ⟨by rw [hl, hl2], fun i hi => by omega⟩ hc
    · exact h0
theorem f23_ok {I : Imm} {l : List Itm} {v : Value} {raws : List InstV} {insts : List InstP} (hg : GlobI I) (hi : Insts I v raws insts) :
    Ct Tryd.prog 23 [v] I l (fun r J m => ∃ ov vs, r = .tuple #[ov, .agg (eFault.cells (buildP insts).2).toArray] ∧ RowII eInt J ov vs (buildP insts).1 ∧ l = m) := by
  refine Ct_enter Tryd.func23 rfl rfl rfl ?_
  have hc := hi.row.sc
  have hfew := hi.few
  have hil := hi.len
  refine K_seq ?_
  refine K_region ?_
  refine W_y (y_assign rfl) rfl rfl rfl ?_
  refine W_a (a_alloc tab rfl rfl ?_) rfl
  intro b3
  refine K_nil ?_
  refine K_then ?_
  refine K_seq ?_
  refine K_region ?_
  refine W_y (y_assign rfl) rfl rfl rfl ?_
  refine K_nil ?_
  refine K_then ?_
  refine K_seq ?_
  refine K_region ?_
  refine W_y (y_assign rfl) rfl rfl rfl ?_
  refine K_nil ?_
  refine K_then ?_
  refine K_seq ?_
  refine K_seq ?_
  refine K_region ?_
  refine W_y (y_move rfl) rfl rfl rfl ?_
  refine W_y (by first | exact y_lenc tab (by assumption) rfl rfl | exact y_lens tab rfl rfl | exact y_lenstr tab rfl rfl) rfl rfl rfl ?_
  refine W_y (y_move rfl) rfl rfl rfl ?_
  refine K_nil ?_
  refine K_then ?_
  refine K_block ?_
  refine K_nilrow eInt 3 (K_nilrow eVal 23 (K_f2 ?_))
  refine K_lp (σ := Nat × Value × List SV × Value × Imm) (fun s => s.2.2.2.2) (fun s => [(0, v), (3, .pointer (some ⟨b3, 0, none⟩)), (4, s.2.1), (5, s.2.2.2.1), (13, v), (14, .int .i64 raws.length), (15, .int .i64 s.1)]) (fun s => blk b3 (.cells (eFault.cells fault0).toArray 44 (0, 0)) :: row eVal 23 s.2.1 s.2.2.1 :: row eInt 3 s.2.2.2.1 (tb s.1 fun i => (insts.getD i ip0).stage) :: l) (fun s => s.1 ≤ insts.length ∧ I.le s.2.2.2.2 ∧ s.2.2.1.length = s.1 ∧ (∀ i, i < s.1 → RowI eInt s.2.2.2.2 (s.2.2.1.getD i svnil).1 (predsOf insts i).1) ∧ ∀ i, i < s.1 → predErr insts i = none) (fun s => insts.length - s.1) (0, .slice none 0 0, [], .slice none 0 0, I) rfl (by repeat first | exact .nil _ | refine .cons rfl ?_) rfl ⟨Nat.zero_le _, Imm.le.refl _, rfl, fun i h => absurd h (Nat.not_lt_zero i), fun i h => absurd h (Nat.not_lt_zero i)⟩ ?_
  rintro ⟨k, pv, pvs, rv, J⟩ ⟨hk, hJ, hpl, hrows, hin⟩
  simp only at hk hJ hpl hrows hin ⊢
  refine K_seq ?_
  refine K_region ?_
  refine W_y (y_lt rfl rfl) rfl rfl rfl ?_
  refine K_nil ?_
  refine K_then ?_
  refine K_seq ?_
  first | refine K_if rfl (fun h1 => ?_) (fun h1 => ?_) | refine K_ifn rfl (fun h1 => ?_) (fun h1 => ?_) | refine K_cond rfl (fun h1 => ?_) (fun h1 => ?_)
  ·
    have hkl : k < raws.length := by omega
    have hok := (hi.at_ k hkl).mono hJ
    refine K_skip ?_
    refine K_then ?_
    refine K_seq ?_
    refine K_block ?_
    refine K_seq ?_
    refine K_region ?_
    refine W_y (y_ixi tab hi.row rfl rfl rfl rfl (by omega)) rfl rfl rfl ?_
    refine W_y (y_load rfl (ld_rowia (i := k) tab (hi.row.mono hJ) rfl rfl rfl rfl (get_of inst0 (by omega)))) rfl rfl rfl ?_
    refine W_a (a_alloc tab rfl rfl ?_) rfl
    intro b7
    refine W_a (a_stw (us := eInst.cells (raws.getD k inst0)) tab rfl rfl rfl rfl (eInst.one _) rfl ?_) rfl
    refine K_nil ?_
    refine K_then ?_
    refine K_seq ?_
    refine K_region ?_
    refine W_y (y_assign rfl) rfl rfl rfl ?_
    refine K_nil ?_
    refine K_then ?_
    refine K_seq ?_
    refine K_seq ?_
    refine K_region ?_
    refine W_y (by first | exact y_fa tab rfl rfl rfl rfl rfl | exact y_fae tab (by assumption) rfl rfl rfl rfl rfl) rfl rfl rfl ?_
    refine W_y (y_load rfl (v := .bool (raws.getD k inst0).has) (ld_cell tab rfl (rd_one .here rfl))) rfl rfl rfl ?_
    refine K_nil ?_
    refine K_then ?_
    refine K_cond rfl (fun h2 => ?_) (fun h2 => ?_)
    ·
      have hhas := h2
      have hpo : predsOf insts k = neededR insts (insts.getD k ip0).needs := by unfold predsOf; rw [if_pos (by rw [← hok.has, hhas])]
      refine K_seq ?_
      refine K_region ?_
      refine W_a (a_alloc tab rfl rfl ?_) rfl
      intro b9
      refine K_nil ?_
      refine K_then ?_
      refine K_seq ?_
      refine K_region ?_
      refine W_y (y_move rfl) rfl rfl rfl ?_
      refine W_y (y_load rfl (v := .agg (eInst.cells (raws.getD k inst0)).toArray) (ld_agg tab rfl rfl rfl (rd_all (.there .here)))) rfl rfl rfl ?_
      refine W_a (a_call (enters_of Tryd.func37 (by kernel_rfl) rfl) rfl (f37_ok (hg.mono hJ) (hi.mono hJ) hok) rfl ?_) rfl
      rintro _ J2 _ hJ2 ⟨u, rfl, rfl⟩
      have hJ2' := hJ.trans hJ2
      refine W_y (y_move rfl) rfl rfl rfl ?_
      refine W_y (y_extract rfl rfl) rfl rfl rfl ?_
      refine W_y (y_extract rfl rfl) rfl rfl rfl ?_
      refine W_y (y_assign rfl) rfl rfl rfl ?_
      refine K_f1 ?_
      refine W_a (a_stw (us := eFault.cells (neededR insts (insts.getD k ip0).needs).2) tab rfl rfl rfl rfl (eFault.one _) rfl ?_) rfl
      refine K_nil ?_
      refine K_then ?_
      refine K_seq ?_
      refine K_region ?_
      refine W_y (by first | exact y_fa tab rfl rfl rfl rfl rfl | exact y_fae tab (by assumption) rfl rfl rfl rfl rfl) rfl rfl rfl ?_
      refine W_y (y_load rfl (v := .int .i64 (neededR insts (insts.getD k ip0).needs).2.code) (ld_cell tab rfl (rd_one .here rfl))) rfl rfl rfl ?_
      refine W_y (by first | exact y_ne rfl rfl | exact y_sne rfl rfl) rfl rfl rfl ?_
      refine K_nil ?_
      refine K_then ?_
      first | refine K_if rfl (fun h3 => ?_) (fun h3 => ?_) | refine K_ifn rfl (fun h3 => ?_) (fun h3 => ?_) | refine K_cond rfl (fun h3 => ?_) (fun h3 => ?_)
      ·
        have hcode := h3
        have herr : predErr insts k = some (neededR insts (insts.getD k ip0).needs).2 := by unfold predErr; rw [hpo, if_neg hcode]
        have hres : buildP insts = ([], (neededR insts (insts.getD k ip0).needs).2) := by unfold buildP; rw [range_hit hin (by omega) herr]
        refine K_seq ?_
        refine K_draw [(0, 0, []), (1, 3, []), (2, 2, [])] [2] [blk b9 (.cells (eFault.cells (neededR insts (insts.getD k ip0).needs).2).toArray 44 (0, 0))] rfl (by kernel_rfl) (by intro c a d v w h; cases d <;> exact h) ?_
        refine D_y rfl (y_load rfl (v := .agg (eFault.cells (neededR insts (insts.getD k ip0).needs).2).toArray) (ld_agg tab rfl rfl rfl (rd_all .here))) rfl rfl rfl ?_
        refine D_f rfl (fun _ _ => y_assign rfl) rfl rfl rfl ?_
        refine K_f3 ?_
        refine D_a2 (fun _ h => (h.perm (List.Perm.swap _ _ _)).sublist (List.Sublist.cons_cons _ (List.nil_sublist _))) rfl (a_stw (us := eFault.cells (neededR insts (insts.getD k ip0).needs).2) tab rfl rfl rfl rfl (eFault.one _) rfl ?_) rfl
        refine D_tz ?_
        refine K_then ?_
        refine K_ret ?_
        refine K_then_ret ?_
        refine K_in_ret ?_
        refine K_then_ret ?_
        refine K_then_ret ?_
        refine K_in_ret ?_
        refine K_then_ret ?_
        refine K_out2 rfl (.tmp rfl) (.cell rfl (ld_agg tab rfl rfl rfl (rd_all .here))) ?_
        first
          | exact fun w hw => ⟨_, _, _, rfl, hJ.trans (hJJ.trans (hJ5'.trans hJ6)), hw.drop, .slice none 0 0, [], by rw [hres, ← (hi.at_ _ (by omega)).at_]; done, by rw [hres]; exact RowII.nil _ _, rfl⟩
          | exact fun w hw => ⟨_, _, _, rfl, hJ.trans (hJJ.trans hJ5'), hw.drop, pv, pvs, by rw [hres]; done, by rw [hres]; exact (RowII.mono (I := J4) ⟨hpv, by rw [show (predsL insts).length = insts.length from tb_len]; omega, fun i hi' => by rw [show (predsL insts).length = insts.length from tb_len] at hi'; rw [predsL, tb_get [] hi']; exact (hrows i (by omega)).mono hJJ⟩ hJ5'), rfl⟩
          | exact fun w hw => ⟨_, _, _, rfl, hJ2', (show St _ w l from hw.sublist (by repeat first | exact List.Sublist.refl _ | apply List.Sublist.cons)), .slice none 0 0, [], by rw [hres]; done, by rw [hres]; exact RowII.nil _ _, rfl⟩
      ·
        have hcode := h3
        refine K_drop ?_
        refine K_skip ?_
        refine K_then ?_
        refine K_seq ?_
        refine K_ocv .here (fun hou => ?_)
        refine K_give (fun J3 hJ3 hou2 => ?_)
        refine K_region ?_
        refine W_y (y_move rfl) rfl rfl rfl ?_
        refine W_y (y_move rfl) rfl rfl rfl ?_
        refine W_a (a_bs (e := eVal) (xs := [⟨u, hou⟩]) (os := [.tmp 35]) tab rfl rfl rfl rfl rfl rfl rfl (congrArg (fun c : Array Value => [c.toList]) (cells_one hou)) rfl ?_) rfl
        intro b36
        refine K_f3 ?_
        refine W_a (a_app (e := eVal) (ys := [⟨u, hou⟩]) tab rfl rfl rfl rfl rfl (rd_rowall .here) (by simp only [List.length_singleton]; omega) rfl ?_) rfl
        intro v37
        refine K_f1 (K_drop ?_)
        refine W_y (y_assign rfl) rfl rfl rfl ?_
        refine K_nil ?_
        refine K_then ?_
        refine K_region ?_
        refine W_y (y_move rfl) rfl rfl rfl ?_
        refine W_y (by first | exact y_fa tab rfl rfl rfl rfl rfl | exact y_fae tab (by assumption) rfl rfl rfl rfl rfl) rfl rfl rfl ?_
        refine W_y (y_load rfl (v := .int .i64 (raws.getD k inst0).stage) (ld_cell tab rfl (rd_one (.there .here) rfl))) rfl rfl rfl ?_
        refine W_a (a_bs (e := eInt) (xs := [(raws.getD k inst0).stage]) (os := [.tmp 40]) tab rfl rfl rfl rfl rfl rfl rfl rfl rfl ?_) rfl
        intro b41
        refine K_f4 ?_
        refine W_a (a_app (e := eInt) (ys := [(raws.getD k inst0).stage]) tab rfl rfl rfl rfl rfl (rd_rowall .here) (by rw [tb_len]; simp only [List.length_singleton]; omega) rfl ?_) rfl
        intro v42
        refine K_f1 (K_drop ?_)
        refine K_f2 (K_drop (K_f1 (K_f2 ?_)))
        refine W_y (y_assign rfl) rfl rfl rfl ?_
        refine K_nil ?_
        refine K_in ?_
        refine K_then ?_
        refine K_region ?_
        refine W_y (y_add rfl rfl (by omega)) rfl rfl rfl ?_
        refine W_y (y_move rfl) rfl rfl rfl ?_
        refine K_nil ?_
        refine K_thenA ?_
        have hnone : predErr insts k = none := by unfold predErr; rw [hpo]; first | rw [if_pos hcode] | rfl
        rw [show (raws.getD k inst0).stage = (insts.getD k ip0).stage from hok.stage, ← tb_succ (f := fun i => (insts.getD i ip0).stage)]
        exact K_back (k + 1, v37, pvs ++ [⟨u, hou⟩], v42, J3) rfl (by repeat first | exact .nil _ | refine .cons rfl ?_) rfl ⟨by simp only; omega, hJ2'.trans hJ3, by simp only [List.length_append, List.length_singleton]; omega, rows_snoc hpl (fun i hi' => (hrows i hi').mono (by first | exact hJ2.trans hJ3 | exact hJ3)) (by rw [hpo]; exact hou2), all_succ hin hnone⟩ (by simp only; omega)
    ·
      have hhas := h2
      refine K_region ?_
      refine W_y (y_move rfl) rfl rfl rfl ?_
      refine W_y (y_mkfn (vs := []) (us := [.pointer (some ⟨b7, 0, none⟩)]) rfl rfl) rfl rfl rfl ?_
      refine W_a (a_call (enters_of Tryd.func38 (by kernel_rfl) rfl) rfl (f38_ok (f := 39) (first := []) (cap := [.pointer (some ⟨b7, 0, none⟩)]) (q := stageQ insts k) (hi.mono hJ).row (enters_of Tryd.func39 (by kernel_rfl) rfl) (fun j hj m0 => (f39_ok (x := raws.getD j inst0) (y := (raws.getD k inst0)) (at_app .here m0)).mono fun v J' m _ h => ⟨by rw [h.1, (hi.at_ j hj).stage, hok.stage]; rfl, h.2⟩) (by omega)) rfl ?_) rfl
      rintro u _ _ - ⟨rfl, rfl⟩
      have hJ2' := hJ
      have hpo : predsOf insts k = (allP (stageQ insts k) raws.length, fault0) := by unfold predsOf; rw [if_neg (by rw [← hok.has, hhas]; decide), hil]
      refine W_y (y_assign rfl) rfl rfl rfl ?_
      refine K_nil ?_
      refine K_then ?_
      refine K_seq ?_
      refine K_ocv .here (fun hou => ?_)
      refine K_give (fun J3 hJ3 hou2 => ?_)
      refine K_region ?_
      refine W_y (y_move rfl) rfl rfl rfl ?_
      refine W_y (y_move rfl) rfl rfl rfl ?_
      refine W_a (a_bs (e := eVal) (xs := [⟨u, hou⟩]) (os := [.tmp 35]) tab rfl rfl rfl rfl rfl rfl rfl (congrArg (fun c : Array Value => [c.toList]) (cells_one hou)) rfl ?_) rfl
      intro b36
      refine K_f3 ?_
      refine W_a (a_app (e := eVal) (ys := [⟨u, hou⟩]) tab rfl rfl rfl rfl rfl (rd_rowall .here) (by simp only [List.length_singleton]; omega) rfl ?_) rfl
      intro v37
      refine K_f1 (K_drop ?_)
      refine W_y (y_assign rfl) rfl rfl rfl ?_
      refine K_nil ?_
      refine K_then ?_
      refine K_region ?_
      refine W_y (y_move rfl) rfl rfl rfl ?_
      refine W_y (by first | exact y_fa tab rfl rfl rfl rfl rfl | exact y_fae tab (by assumption) rfl rfl rfl rfl rfl) rfl rfl rfl ?_
      refine W_y (y_load rfl (v := .int .i64 (raws.getD k inst0).stage) (ld_cell tab rfl (rd_one (.there .here) rfl))) rfl rfl rfl ?_
      refine W_a (a_bs (e := eInt) (xs := [(raws.getD k inst0).stage]) (os := [.tmp 40]) tab rfl rfl rfl rfl rfl rfl rfl rfl rfl ?_) rfl
      intro b41
      refine K_f4 ?_
      refine W_a (a_app (e := eInt) (ys := [(raws.getD k inst0).stage]) tab rfl rfl rfl rfl rfl (rd_rowall .here) (by rw [tb_len]; simp only [List.length_singleton]; omega) rfl ?_) rfl
      intro v42
      refine K_f1 (K_drop ?_)
      refine K_f2 (K_drop (K_f1 (K_f2 ?_)))
      refine W_y (y_assign rfl) rfl rfl rfl ?_
      refine K_nil ?_
      refine K_in ?_
      refine K_then ?_
      refine K_region ?_
      refine W_y (y_add rfl rfl (by omega)) rfl rfl rfl ?_
      refine W_y (y_move rfl) rfl rfl rfl ?_
      refine K_nil ?_
      refine K_thenA ?_
      have hnone : predErr insts k = none := by unfold predErr; rw [hpo]; first | rw [if_pos hcode] | rfl
      rw [show (raws.getD k inst0).stage = (insts.getD k ip0).stage from hok.stage, ← tb_succ (f := fun i => (insts.getD i ip0).stage)]
      exact K_back (k + 1, v37, pvs ++ [⟨u, hou⟩], v42, J3) rfl (by repeat first | exact .nil _ | refine .cons rfl ?_) rfl ⟨by simp only; omega, hJ2'.trans hJ3, by simp only [List.length_append, List.length_singleton]; omega, rows_snoc hpl (fun i hi' => (hrows i hi').mono (by first | exact hJ2.trans hJ3 | exact hJ3)) (by rw [hpo]; exact hou2), all_succ hin hnone⟩ (by simp only; omega)
  ·
    have hke : k = insts.length := by omega
    subst hke
    have hmiss := range_miss hin
    refine K_f1 (K_give (fun J3 hJ3 hpv0 => ?_))
    refine K_f1 (K_give (fun J4 hJ4 hrk => ?_))
    have hJJ := hJ3.trans hJ4
    have hpv := hpv0.mono hJ4
    have hpc := hpv.sc
    rw [hpl] at hpc
    refine K_exit ?_
    refine K_then_exit ?_
    refine K_then_exit ?_
    refine K_in_exit ?_
    refine K_then ?_
    refine K_seq ?_
    refine K_region ?_
    refine W_y (y_move rfl) rfl rfl rfl ?_
    refine W_y (y_move rfl) rfl rfl rfl ?_
    refine W_a (a_call (enters_of Tryd.func13 (by kernel_rfl) rfl) rfl (f13_ok (preds := predsL insts) (ranks := ranksL insts) ⟨hpv, by rw [show (predsL insts).length = insts.length from tb_len]; omega, fun i hi' => by rw [show (predsL insts).length = insts.length from tb_len] at hi'; rw [predsL, tb_get [] hi']; exact (hrows i (by omega)).mono hJJ⟩ hrk (by rw [show (predsL insts).length = insts.length from tb_len]; omega)) rfl ?_) rfl
    rintro _ J5 _ hJ5' ⟨ov, rfl, rfl⟩
    refine W_y (y_move rfl) rfl rfl rfl ?_
    refine W_y (y_extract rfl rfl) rfl rfl rfl ?_
    refine W_y (y_extract rfl rfl) rfl rfl rfl ?_
    refine W_y (y_assign rfl) rfl rfl rfl ?_
    refine W_y (y_assign rfl) rfl rfl rfl ?_
    refine K_nil ?_
    refine K_then ?_
    refine K_seq ?_
    refine K_seq ?_
    refine K_region ?_
    refine W_y (y_move rfl) rfl rfl rfl ?_
    refine W_y (by first | exact y_eq rfl rfl | exact y_seq rfl rfl) rfl rfl rfl ?_
    refine K_nil ?_
    refine K_then ?_
    first | refine K_if rfl (fun h4 => ?_) (fun h4 => ?_) | refine K_ifn rfl (fun h4 => ?_) (fun h4 => ?_) | refine K_cond rfl (fun h4 => ?_) (fun h4 => ?_)
    ·
      have hres : buildP insts = (predsL insts, fault0) := by unfold buildP; rw [hmiss]; simp only; rw [if_pos h4]
      refine K_seq ?_
      refine K_drop ?_
      refine K_region ?_
      refine W_y (y_move rfl) rfl rfl rfl ?_
      refine W_y (y_build tab rfl rfl rfl rfl rfl) rfl rfl rfl ?_
      refine W_y (y_assign rfl) rfl rfl rfl ?_
      refine W_a (a_stw (us := eFault.cells fault0) tab rfl rfl rfl rfl (eFault.one _) rfl ?_) rfl
      refine K_nil ?_
      refine K_then ?_
      refine K_ret ?_
      refine K_then_ret ?_
      refine K_out2 rfl (.tmp rfl) (.cell rfl (ld_agg tab rfl rfl rfl (rd_all .here))) ?_
      first
        | exact fun w hw => ⟨_, _, _, rfl, hJ.trans (hJJ.trans (hJ5'.trans hJ6)), hw.drop, .slice none 0 0, [], by rw [hres, ← (hi.at_ _ (by omega)).at_]; done, by rw [hres]; exact RowII.nil _ _, rfl⟩
        | exact fun w hw => ⟨_, _, _, rfl, hJ.trans (hJJ.trans hJ5'), hw.drop, pv, pvs, by rw [hres]; done, by rw [hres]; exact (RowII.mono (I := J4) ⟨hpv, by rw [show (predsL insts).length = insts.length from tb_len]; omega, fun i hi' => by rw [show (predsL insts).length = insts.length from tb_len] at hi'; rw [predsL, tb_get [] hi']; exact (hrows i (by omega)).mono hJJ⟩ hJ5'), rfl⟩
        | exact fun w hw => ⟨_, _, _, rfl, hJ2', (show St _ w l from hw.sublist (by repeat first | exact List.Sublist.refl _ | apply List.Sublist.cons)), .slice none 0 0, [], by rw [hres]; done, by rw [hres]; exact RowII.nil _ _, rfl⟩
    ·
      have hcode := h4
      have hol := orderRes_left hcode
      have hJ5 := hJ.trans (hJJ.trans hJ5')
      have hres : buildP insts = ([], { (insts.getD (Lib.minOf (leftP insts.length (orderRes (predsL insts) (ranksL insts)).1)).toNat ip0).at_ with code := (orderRes (predsL insts) (ranksL insts)).2 }) := by unfold buildP; rw [hmiss]; simp only; rw [if_neg hcode]
      refine K_give (fun J6 hJ6 hor => ?_)
      refine K_skip ?_
      refine K_then ?_
      refine K_seq ?_
      refine K_region ?_
      refine W_y (y_move rfl) rfl rfl rfl ?_
      refine W_y (by first | exact y_lenc tab (by assumption) rfl rfl | exact y_lens tab rfl rfl | exact y_lenstr tab rfl rfl) rfl rfl rfl ?_
      refine W_y (y_move rfl) rfl rfl rfl ?_
      refine W_a (a_call (enters_of Tryd.func29 (by kernel_rfl) rfl) rfl (f29_ok (n := insts.length) hor (by omega) hol.1) rfl ?_) rfl
      rintro u25 _ _ - ⟨rfl, rfl⟩
      refine W_a (a_call (enters_of Tryd.func40 (by kernel_rfl) rfl) rfl (c_min (Cl.ofRow .here) (leftP_ne hol.2)) rfl ?_) rfl
      rintro _ _ _ - ⟨rfl, rfl, rfl⟩
      refine K_drop ?_
      have hmin := leftP_mem.1 (minOf_mem (leftP_ne hol.2))
      refine W_y (y_assign rfl) rfl rfl rfl ?_
      refine K_nil ?_
      refine K_then ?_
      refine K_seq ?_
      refine K_region ?_
      refine W_y (y_move rfl) rfl rfl rfl ?_
      refine W_y (y_move rfl) rfl rfl rfl ?_
      refine W_y (y_move rfl) rfl rfl rfl ?_
      refine W_y (y_ixi tab hi.row rfl rfl rfl rfl (by omega)) rfl rfl rfl ?_
      refine W_y (y_fae tab (hi.row.sl (by omega)) rfl rfl rfl rfl rfl) rfl rfl rfl ?_
      refine W_y (y_load rfl (v := .agg (eFault.cells (raws.getD (Lib.minOf (leftP insts.length (orderRes (predsL insts) (ranksL insts)).1)).toNat inst0).at_).toArray) (ld_rowib (i := (Lib.minOf (leftP insts.length (orderRes (predsL insts) (ranksL insts)).1)).toNat) tab (hi.row.mono (hJ5.trans hJ6)) rfl rfl rfl rfl (get_of inst0 (by omega)) rfl)) rfl rfl rfl ?_
      refine W_a (a_call (enters_of Tryd.func41 (by kernel_rfl) rfl) rfl (f41_ok (x := (raws.getD (Lib.minOf (leftP insts.length (orderRes (predsL insts) (ranksL insts)).1)).toNat inst0).at_)) rfl ?_) rfl
      rintro _ _ _ - ⟨rfl, rfl, rfl⟩
      refine W_y (y_assign rfl) rfl rfl rfl ?_
      refine W_a (a_stw (us := eFault.cells { (raws.getD (Lib.minOf (leftP insts.length (orderRes (predsL insts) (ranksL insts)).1)).toNat inst0).at_ with code := (orderRes (predsL insts) (ranksL insts)).2 }) tab rfl rfl rfl rfl (eFault.one _) rfl ?_) rfl
      refine K_nil ?_
      refine K_then ?_
      refine K_ret ?_
      refine K_out2 rfl (.tmp rfl) (.cell rfl (ld_agg tab rfl rfl rfl (rd_all .here))) ?_
      first
        | exact fun w hw => ⟨_, _, _, rfl, hJ.trans (hJJ.trans (hJ5'.trans hJ6)), hw.drop, .slice none 0 0, [], by rw [hres, ← (hi.at_ _ (by omega)).at_]; done, by rw [hres]; exact RowII.nil _ _, rfl⟩
        | exact fun w hw => ⟨_, _, _, rfl, hJ.trans (hJJ.trans hJ5'), hw.drop, pv, pvs, by rw [hres]; done, by rw [hres]; exact (RowII.mono (I := J4) ⟨hpv, by rw [show (predsL insts).length = insts.length from tb_len]; omega, fun i hi' => by rw [show (predsL insts).length = insts.length from tb_len] at hi'; rw [predsL, tb_get [] hi']; exact (hrows i (by omega)).mono hJJ⟩ hJ5'), rfl⟩
        | exact fun w hw => ⟨_, _, _, rfl, hJ2', (show St _ w l from hw.sublist (by repeat first | exact List.Sublist.refl _ | apply List.Sublist.cons)), .slice none 0 0, [], by rw [hres]; done, by rw [hres]; exact RowII.nil _ _, rfl⟩
end Go.Proofs.YtfnmcpgajjkemaaDoor
