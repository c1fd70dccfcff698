/- graph.Order. Printed by wip/gen/g4.py. -/
import Derived.Test.YtfnmcpgajjkemaaDoorG2
import Derived.Test.YtfnmcpgajjkemaaDoorG3
namespace Go.Proofs.YtfnmcpgajjkemaaDoor
open Go Go.RowKit Go.Proofs.YtfnmcpgajjkemaaDoor.SW
set_option maxRecDepth 100000
set_option maxHeartbeats 400000
/-- What Order comes to. -/
def orderRes (preds : List (List Int)) (ranks : List Int) : List Int × Int :=
  if ranks.length = preds.length ∧ formOk preds then (orderL preds ranks, if (orderL preds ranks).length < preds.length then 163 else 0) else ([], 160)
def openA (preds : List (List Int)) (K i : Nat) : Int := if i < K then ((preds.getD i []).length : Int) else 0
theorem openA_step {preds : List (List Int)} {n K : Nat} : (tb n (openA preds K)).set K ((preds.getD K []).length : Int) = tb n (openA preds (K + 1)) := by
  rw [tb_set]
  refine tb_ext fun i _ => ?_
  unfold openA
  by_cases h : i = K
  · subst h; rw [if_pos rfl, if_pos (Nat.lt_succ_self _)]
  · rw [if_neg h]
    by_cases h2 : i < K
    · rw [if_pos h2, if_pos (by omega)]
    · rw [if_neg h2, if_neg (by omega)]
theorem f13_ok {I : Imm} {l : List Itm} {v rv : Value} {vs : List SV} {preds : List (List Int)} {ranks : List Int} (hr : RowII eInt I v vs preds) (hk : RowI eInt I rv ranks) (hm : preds.length * 32 ≤ 140737488355000) :
    Ct Tryd.prog 13 [v, rv] I l (fun r _ m => ∃ ov, r = .tuple #[ov, .int .i64 (orderRes preds ranks).2] ∧ m = row eInt 3 ov (orderRes preds ranks).1 :: l) := by
  refine Ct_enter Tryd.func13 rfl rfl rfl ?_
  have hl := hr.len
  have hc := hr.top.sc
  rw [hl] at hc
  have hck := hk.sc
  refine K_seq ?_
  refine K_region ?_
  refine W_y (y_assign rfl) rfl rfl rfl ?_
  refine W_y (y_assign rfl) rfl rfl rfl ?_
  refine K_nil ?_
  refine K_then ?_
  refine K_seq ?_
  refine K_seq ?_
  refine K_region ?_
  refine W_y (y_move rfl) rfl rfl rfl ?_
  refine W_y (by first | exact y_lenc tab (by assumption) rfl rfl | exact y_lens tab rfl rfl | exact y_lenstr tab rfl rfl) rfl rfl rfl ?_
  refine W_y (y_move rfl) rfl rfl rfl ?_
  refine W_y (by first | exact y_lenc tab (by assumption) rfl rfl | exact y_lens tab rfl rfl | exact y_lenstr tab rfl rfl) rfl rfl rfl ?_
  refine W_y (by first | exact y_ne rfl rfl | exact y_sne rfl rfl) rfl rfl rfl ?_
  refine W_y (y_move rfl) rfl rfl rfl ?_
  first | refine K_splitd 22 rfl (fun h1 => ?_) (fun h1 => ?_) | refine K_split 22 rfl (fun h1 => ?_) (fun h1 => ?_)
  ·
    have hres : orderRes preds ranks = ([], 160) := by unfold orderRes; rw [if_neg (fun e => by have h' := h1; rw [e.1] at h'; simp at h')]
    refine W_skip rfl rfl rfl ?_
    refine W_skip rfl rfl rfl ?_
    refine W_skip rfl rfl rfl ?_
    refine W_y (y_pick rfl rfl) rfl rfl rfl ?_
    refine K_nil ?_
    refine K_then ?_
    refine K_yes rfl ?_
    refine K_seq ?_
    refine K_nilrow eInt 3 ?_
    refine K_region ?_
    refine W_y (y_assign rfl) rfl rfl rfl ?_
    refine W_y (y_assign rfl) rfl rfl rfl ?_
    refine K_nil ?_
    refine K_then ?_
    refine K_ret ?_
    refine K_then_ret ?_
    refine K_out2 rfl (.tmp rfl) (.tmp rfl) ?_
    first
      | exact fun w hw => ⟨_, _, _, rfl, Imm.le.refl _, hw, .slice none 0 0, by rw [hres], by rw [hres]⟩
      | exact fun w hw => ⟨_, _, _, rfl, hJ, hw, ov, by rw [hres], by rw [hres]⟩
  ·
    have hlen : ranks.length = preds.length := by have h' := h1; simp at h'; omega
    refine W_y (y_move rfl) rfl rfl rfl ?_
    refine W_a (a_call (enters_of Tryd.func25 (by kernel_rfl) rfl) rfl (f25_ok hr (by omega)) rfl ?_) rfl
    rintro _ _ _ - ⟨rfl, rfl, rfl⟩
    refine W_y (y_not rfl) rfl rfl rfl ?_
    refine W_y (y_pick rfl rfl) rfl rfl rfl ?_
    refine K_nil ?_
    refine K_then ?_
    first | refine K_if rfl (fun h2 => ?_) (fun h2 => ?_) | refine K_ifn rfl (fun h2 => ?_) (fun h2 => ?_) | refine K_cond rfl (fun h2 => ?_) (fun h2 => ?_)
    ·
      have hres : orderRes preds ranks = ([], 160) := by unfold orderRes; rw [if_neg (fun e => h2 e.2)]
      refine K_seq ?_
      refine K_nilrow eInt 3 ?_
      refine K_region ?_
      refine W_y (y_assign rfl) rfl rfl rfl ?_
      refine W_y (y_assign rfl) rfl rfl rfl ?_
      refine K_nil ?_
      refine K_then ?_
      refine K_ret ?_
      refine K_then_ret ?_
      refine K_out2 rfl (.tmp rfl) (.tmp rfl) ?_
      first
        | exact fun w hw => ⟨_, _, _, rfl, Imm.le.refl _, hw, .slice none 0 0, by rw [hres], by rw [hres]⟩
        | exact fun w hw => ⟨_, _, _, rfl, hJ, hw, ov, by rw [hres], by rw [hres]⟩
    ·
      have hf : formOk preds := h2
      refine K_skip ?_
      refine K_then ?_
      refine K_seq ?_
      refine K_region ?_
      refine W_y (y_move rfl) rfl rfl rfl ?_
      refine W_y (by first | exact y_lenc tab (by assumption) rfl rfl | exact y_lens tab rfl rfl | exact y_lenstr tab rfl rfl) rfl rfl rfl ?_
      refine W_a (a_mk (e := eInt) (z0 := 0) tab rfl rfl rfl rfl rfl (by omega) rfl ?_) rfl
      intro b29
      refine W_y (y_assign rfl) rfl rfl rfl ?_
      refine K_nil ?_
      refine K_then ?_
      refine K_seq ?_
      refine K_region ?_
      refine W_y (y_move rfl) rfl rfl rfl ?_
      refine W_y (by first | exact y_lenc tab (by assumption) rfl rfl | exact y_lens tab rfl rfl | exact y_lenstr tab rfl rfl) rfl rfl rfl ?_
      refine W_a (a_mk (e := eVal) (z0 := svnil) tab rfl rfl rfl rfl rfl (by omega) rfl ?_) rfl
      intro b32
      refine K_rowsnil eInt 3 preds.length ?_
      refine K_mid1 (K_mid2 ?_)
      refine W_y (y_assign rfl) rfl rfl rfl ?_
      refine K_nil ?_
      refine K_then ?_
      refine K_seq ?_
      refine K_region ?_
      refine W_a (a_bs0 (e := ePair) tab rfl rfl rfl ?_) rfl
      intro b33
      refine W_a (a_box rfl rfl ?_) rfl
      intro b34
      refine W_y (y_assign rfl) rfl rfl rfl ?_
      refine K_nil ?_
      refine K_then ?_
      refine K_seq ?_
      refine K_seq ?_
      refine K_region ?_
      refine W_y (y_move rfl) rfl rfl rfl ?_
      refine W_y (by first | exact y_lenc tab (by assumption) rfl rfl | exact y_lens tab rfl rfl | exact y_lenstr tab rfl rfl) rfl rfl rfl ?_
      refine W_y (y_move rfl) rfl rfl rfl ?_
      refine K_nil ?_
      refine K_then ?_
      refine K_block ?_
      rw [tb_const (n := preds.length) (0 : Int), tb_const (n := preds.length) ([] : List Int), show (fun _ => (0 : Int)) = openA preds 0 from funext fun i => by simp [openA], show (fun _ => ([] : List Int)) = bhd preds 0 from funext fun q => by simp [bhd]]
      refine K_lp (σ := Nat × Value × List (Int × Int) × List SV) (fun s => I) (fun s => [(0, v), (1, rv), (6, .slice (some ⟨b29, 0, none⟩) preds.length preds.length), (7, .slice (some ⟨b32, 0, none⟩) preds.length preds.length), (8, .pointer (some ⟨b34, 0, none⟩)), (35, v), (36, .int .i64 preds.length), (37, .int .i64 s.1)]) (fun s => blk b34 (.cells #[s.2.1] 57 (0, 0)) :: row ePair 60 (s.2.1) (s.2.2.1) :: row eVal 23 (.slice (some ⟨b32, 0, none⟩) preds.length preds.length) (s.2.2.2) :: row eInt 3 (.slice (some ⟨b29, 0, none⟩) preds.length preds.length) (tb preds.length (openA preds s.1)) :: (rowsL eInt 3 (s.2.2.2) (tb preds.length (bhd preds s.1)) ++ l)) (fun s => s.1 ≤ preds.length ∧ s.2.2.2.length = preds.length ∧ HS preds.length ranks (fun i => i < s.1 ∧ preds.getD i [] = []) s.2.2.1) (fun s => preds.length - s.1) (0, .slice (some ⟨b33, 0, none⟩) 0 0, [], List.replicate preds.length svnil) rfl (by repeat first | exact .nil _ | refine .cons rfl ?_) rfl ⟨Nat.zero_le _, by simp, HS.nil fun i _ h => absurd h.1 (Nat.not_lt_zero i)⟩ ?_
      rintro ⟨K, hv, xs, vs'⟩ ⟨hK, hvs, hHS⟩
      simp only at hK hvs hHS ⊢
      refine K_seq ?_
      refine K_region ?_
      refine W_y (y_lt rfl rfl) rfl rfl rfl ?_
      refine K_nil ?_
      refine K_then ?_
      refine K_seq ?_
      first | refine K_if rfl (fun h3 => ?_) (fun h3 => ?_) | refine K_ifn rfl (fun h3 => ?_) (fun h3 => ?_) | refine K_cond rfl (fun h3 => ?_) (fun h3 => ?_)
      ·
        have hKl : K < preds.length := by omega
        obtain ⟨u, hu⟩ : ∃ u, u = (vs.getD K svnil).1 := ⟨_, rfl⟩
        have hru := hr.at_ K hKl
        rw [← hu] at hru
        have hcu := hru.sc
        have hrow := hf.row hKl
        have hml := ints_le hrow.1 hrow.2
        refine K_skip ?_
        refine K_then ?_
        refine K_seq ?_
        refine K_block ?_
        refine K_seq ?_
        refine K_region ?_
        refine W_y (y_move rfl) rfl rfl rfl ?_
        refine W_y (y_ixi tab hr.top rfl rfl rfl rfl (by omega)) rfl rfl rfl ?_
        refine W_y (hu ▸ y_load rfl (ld_vi (i := K) tab hr.top rfl (by omega))) rfl rfl rfl ?_
        refine W_y (y_assign rfl) rfl rfl rfl ?_
        refine W_y (y_assign rfl) rfl rfl rfl ?_
        refine K_nil ?_
        refine K_then ?_
        refine K_seq ?_
        refine K_region ?_
        refine W_y (y_move rfl) rfl rfl rfl ?_
        refine W_y (y_move rfl) rfl rfl rfl ?_
        refine W_y (y_move rfl) rfl rfl rfl ?_
        refine W_y (by first | exact y_lenc tab (by assumption) rfl rfl | exact y_lens tab rfl rfl | exact y_lenstr tab rfl rfl) rfl rfl rfl ?_
        refine W_y (y_ixv tab rfl rfl rfl rfl (by omega) (by omega)) rfl rfl rfl ?_
        refine K_f3 ?_
        refine W_a (a_ste (e := eInt) (i := K) (a' := ((preds.getD K []).length : Int)) tab rfl rfl rfl rfl rfl rfl (get_of 0 (by rw [tb_len]; omega)) rfl rfl ?_) rfl
        rw [openA_step]
        refine K_b3 ?_
        refine K_nil ?_
        refine K_then ?_
        refine K_seq ?_
        refine K_seq ?_
        refine K_region ?_
        refine W_y (y_move rfl) rfl rfl rfl ?_
        refine W_y (by first | exact y_lenc tab (by assumption) rfl rfl | exact y_lens tab rfl rfl | exact y_lenstr tab rfl rfl) rfl rfl rfl ?_
        refine W_y (y_move rfl) rfl rfl rfl ?_
        refine K_nil ?_
        refine K_then ?_
        refine K_block ?_
        rw [show bhd preds K = bhdAt preds K 0 from funext fun q => (bhdAt_zero K q).symm]
        refine K_lp (σ := Nat × List SV) (fun s => I) (fun s => [(0, v), (1, rv), (6, .slice (some ⟨b29, 0, none⟩) preds.length preds.length), (7, .slice (some ⟨b32, 0, none⟩) preds.length preds.length), (8, .pointer (some ⟨b34, 0, none⟩)), (35, v), (36, .int .i64 preds.length), (37, .int .i64 K), (9, .int .i64 K), (10, u), (47, u), (48, .int .i64 (preds.getD K []).length), (49, .int .i64 s.1)]) (fun s => blk b34 (.cells #[hv] 57 (0, 0)) :: row ePair 60 (hv) (xs) :: row eVal 23 (.slice (some ⟨b32, 0, none⟩) preds.length preds.length) (s.2) :: row eInt 3 (.slice (some ⟨b29, 0, none⟩) preds.length preds.length) (tb preds.length (openA preds (K + 1))) :: (rowsL eInt 3 (s.2) (tb preds.length (bhdAt preds K s.1)) ++ l)) (fun s => s.1 ≤ (preds.getD K []).length ∧ s.2.length = preds.length) (fun s => (preds.getD K []).length - s.1) (0, vs') rfl (by repeat first | exact .nil _ | refine .cons rfl ?_) rfl ⟨Nat.zero_le _, hvs⟩ ?_
        rintro ⟨j, ws⟩ ⟨hj, hws⟩
        simp only at hj hws ⊢
        refine K_seq ?_
        refine K_region ?_
        refine W_y (y_lt rfl rfl) rfl rfl rfl ?_
        refine K_nil ?_
        refine K_then ?_
        refine K_seq ?_
        first | refine K_if rfl (fun h4 => ?_) (fun h4 => ?_) | refine K_ifn rfl (fun h4 => ?_) (fun h4 => ?_) | refine K_cond rfl (fun h4 => ?_) (fun h4 => ?_)
        ·
          refine K_skip ?_
          refine K_then ?_
          refine K_seq ?_
          refine K_block ?_
          refine K_seq ?_
          refine K_region ?_
          refine W_y (y_ixi tab hru rfl rfl rfl rfl (by omega)) rfl rfl rfl ?_
          refine W_y (y_load rfl (ld_ii (i := j) tab hru rfl (by omega))) rfl rfl rfl ?_
          have hp := hrow.2 _ (getD_mem (i := j) 0 (by omega))
          obtain ⟨q, hq⟩ : ∃ q : Nat, (q : Int) = (preds.getD K []).getD j 0 := ⟨((preds.getD K []).getD j 0).toNat, by omega⟩
          rw [← hq] at hp ⊢
          have hqn : q < preds.length := by omega
          refine W_y (y_assign rfl) rfl rfl rfl ?_
          refine K_nil ?_
          refine K_then ?_
          refine K_region ?_
          refine W_y (y_move rfl) rfl rfl rfl ?_
          refine W_y (y_move rfl) rfl rfl rfl ?_
          refine W_y (y_move rfl) rfl rfl rfl ?_
          refine W_y (y_move rfl) rfl rfl rfl ?_
          refine W_y (y_ixv tab rfl rfl rfl rfl (by omega) (by omega)) rfl rfl rfl ?_
          refine W_y (y_load rfl (ld_vr (i := q) tab (.there (.there .here)) rfl (by omega))) rfl rfl rfl ?_
          refine W_y (y_move rfl) rfl rfl rfl ?_
          refine W_a (a_bs (e := eInt) (xs := [(K : Int)]) (os := [.tmp 59]) tab rfl rfl rfl rfl rfl rfl rfl rfl rfl ?_) rfl
          intro b60
          refine K_pull [_, _, _, _, _] (rowsL_take (i := q) (by rw [tb_len]; exact hws) (by rw [tb_len]; exact hqn)) ?_
          refine W_a (a_app (e := eInt) (ys := [(K : Int)]) tab rfl rfl rfl rfl rfl (rd_rowall .here) (by rw [tb_get [] hqn]; have := bhdAt_len (preds := preds) K j q; simp only [List.length_singleton]; omega) rfl ?_) rfl
          intro v61
          refine K_f1 (K_drop ?_)
          refine K_ocv .here (fun ho => ?_)
          refine W_y (y_ixv tab rfl rfl rfl rfl (by omega) (by omega)) rfl rfl rfl ?_
          refine K_f3 ?_
          refine W_a (a_ste (e := eVal) (i := q) (a' := ⟨v61, ho⟩) tab rfl rfl rfl rfl rfl ho (get_of svnil (by omega)) rfl rfl ?_) rfl
          refine K_b3 ?_
          refine K_put [_, _, _, _] (rowsL_put (by rw [tb_len]; exact hws) (by rw [tb_len]; exact hqn) ⟨v61, ho⟩ _) ?_
          rw [tb_get [] hqn, tb_set, tb_ext (g := bhdAt preds K (j + 1)) (fun i _ => (bhdAt_step hrow.1 (by omega) hq i).symm)]
          refine K_nil ?_
          refine K_in ?_
          refine K_then ?_
          refine K_region ?_
          refine W_y (y_add rfl rfl (by omega)) rfl rfl rfl ?_
          refine W_y (y_move rfl) rfl rfl rfl ?_
          refine K_nil ?_
          refine K_thenA ?_
          exact K_back (j + 1, ws.set q ⟨v61, ho⟩) rfl (by repeat first | exact .nil _ | refine .cons rfl ?_) rfl ⟨by omega, by simp only; rw [List.length_set]; exact hws⟩ (by simp only; omega)
        ·
          have hje : j = (preds.getD K []).length := by omega
          subst hje
          rw [show bhdAt preds K (preds.getD K []).length = bhd preds (K + 1) from funext fun q => bhdAt_end K q]
          refine K_exit ?_
          refine K_then_exit ?_
          refine K_then_exit ?_
          refine K_in_exit ?_
          refine K_then ?_
          refine K_seq ?_
          refine K_region ?_
          refine W_y (y_move rfl) rfl rfl rfl ?_
          refine W_y (by first | exact y_lenc tab (by assumption) rfl rfl | exact y_lens tab rfl rfl | exact y_lenstr tab rfl rfl) rfl rfl rfl ?_
          refine W_y (by first | exact y_eq rfl rfl | exact y_seq rfl rfl) rfl rfl rfl ?_
          refine K_nil ?_
          refine K_then ?_
          first | refine K_if rfl (fun h5 => ?_) (fun h5 => ?_) | refine K_ifn rfl (fun h5 => ?_) (fun h5 => ?_) | refine K_cond rfl (fun h5 => ?_) (fun h5 => ?_)
          ·
            have h0 : preds.getD K [] = [] := List.eq_nil_of_length_eq_zero (by omega)
            refine K_region ?_
            refine W_y (y_move rfl) rfl rfl rfl ?_
            refine W_y (y_mkif tab rfl rfl) rfl rfl rfl ?_
            refine W_y (y_move rfl) rfl rfl rfl ?_
            refine W_y (y_move rfl) rfl rfl rfl ?_
            refine W_y (y_ixi tab hk rfl rfl rfl rfl (by omega)) rfl rfl rfl ?_
            refine W_y (y_load rfl (ld_ii (i := K) tab hk rfl (by omega))) rfl rfl rfl ?_
            refine W_y (y_move rfl) rfl rfl rfl ?_
            refine W_y (y_build tab rfl rfl rfl rfl rfl) rfl rfl rfl ?_
            refine W_y (y_mkif tab rfl rfl) rfl rfl rfl ?_
            refine W_a (a_call (enters_of Tryd.func26 (by kernel_rfl) rfl) rfl (f26_ok (xs := xs) (x := (ranks.getD K 0, ((K : Nat) : Int))) (by have := hHS.le; omega)) rfl ?_) rfl
            rintro _ _ _ - ⟨v', ho, rfl, rfl⟩
            refine K_nil ?_
            refine K_in ?_
            refine K_then ?_
            refine K_region ?_
            refine W_y (y_add rfl rfl (by omega)) rfl rfl rfl ?_
            refine W_y (y_move rfl) rfl rfl rfl ?_
            refine K_nil ?_
            refine K_thenA ?_
            first
              | exact K_back (K + 1, v', hpush xs (ranks.getD K 0, (K : Int)), ws) rfl (by repeat first | exact .nil _ | refine .cons rfl ?_) rfl ⟨by omega, hws, (hHS.push (x := K) hKl (fun h => absurd h.1 (Nat.lt_irrefl K))).congr (fun i _ => ⟨fun h => h.elim (fun h => ⟨by omega, h.2⟩) (fun h => by subst h; exact ⟨Nat.lt_succ_self _, h0⟩), fun h => (Nat.lt_succ_iff_lt_or_eq.1 h.1).elim (fun h' => .inl ⟨h', h.2⟩) .inr⟩)⟩ (by simp only; omega)
              | exact K_back (K + 1, hv, xs, ws) rfl (by repeat first | exact .nil _ | refine .cons rfl ?_) rfl ⟨by omega, hws, hHS.congr (fun i _ => ⟨fun h => ⟨by omega, h.2⟩, fun h => (Nat.lt_succ_iff_lt_or_eq.1 h.1).elim (fun h' => ⟨h', h.2⟩) (fun h' => by subst h'; exact absurd h.2 h0)⟩)⟩ (by simp only; omega)
          ·
            have h0 : ¬ preds.getD K [] = [] := fun e => h5 (by rw [e]; rfl)
            refine K_skip ?_
            refine K_in ?_
            refine K_then ?_
            refine K_region ?_
            refine W_y (y_add rfl rfl (by omega)) rfl rfl rfl ?_
            refine W_y (y_move rfl) rfl rfl rfl ?_
            refine K_nil ?_
            refine K_thenA ?_
            first
              | exact K_back (K + 1, v', hpush xs (ranks.getD K 0, (K : Int)), ws) rfl (by repeat first | exact .nil _ | refine .cons rfl ?_) rfl ⟨by omega, hws, (hHS.push (x := K) hKl (fun h => absurd h.1 (Nat.lt_irrefl K))).congr (fun i _ => ⟨fun h => h.elim (fun h => ⟨by omega, h.2⟩) (fun h => by subst h; exact ⟨Nat.lt_succ_self _, h0⟩), fun h => (Nat.lt_succ_iff_lt_or_eq.1 h.1).elim (fun h' => .inl ⟨h', h.2⟩) .inr⟩)⟩ (by simp only; omega)
              | exact K_back (K + 1, hv, xs, ws) rfl (by repeat first | exact .nil _ | refine .cons rfl ?_) rfl ⟨by omega, hws, hHS.congr (fun i _ => ⟨fun h => ⟨by omega, h.2⟩, fun h => (Nat.lt_succ_iff_lt_or_eq.1 h.1).elim (fun h' => ⟨h', h.2⟩) (fun h' => by subst h'; exact absurd h.2 h0)⟩)⟩ (by simp only; omega)
      ·
        have hKe : K = preds.length := by omega
        subst hKe
        refine K_exit ?_
        refine K_then_exit ?_
        refine K_then_exit ?_
        refine K_in_exit ?_
        refine K_then ?_
        refine K_seq ?_
        refine K_f2 ?_
        refine K_give (fun J1 hJ1 hbt1 => ?_)
        refine K_rot [_, _, _] ?_
        refine K_rowsgive (by rw [tb_len]; exact hvs) (fun J2 hJ2 hbs => ?_)
        refine K_nilrow eInt 3 ?_
        refine K_b3 ?_
        have hJ := hJ1.trans hJ2
        have hk2 := hk.mono hJ
        have hbt := hbt1.mono hJ2
        rw [tb_len] at hbs
        rw [tb_ext (g := fun i => ((cnt preds [] i : Nat) : Int)) (fun i hi => by rw [openA, if_pos hi, cnt_nil])]
        have hHS0 := hHS.congr (P' := fun i => rdy preds [] i = true) (fun i hi => by
          rw [rdy_cnt, cnt_nil]
          constructor
          · intro h; exact ⟨List.not_mem_nil, by rw [h.2]; rfl⟩
          · intro h; exact ⟨hi, List.eq_nil_of_length_eq_zero h.2⟩)
        refine K_region ?_
        refine W_y (y_assign rfl) rfl rfl rfl ?_
        refine K_nil ?_
        refine K_then ?_
        refine K_seq ?_
        refine K_block ?_
        refine K_lp (σ := Value × List (Int × Int) × Value × List Int) (fun s => J2) (fun s => [(0, v), (1, rv), (6, .slice (some ⟨b29, 0, none⟩) preds.length preds.length), (7, .slice (some ⟨b32, 0, none⟩) preds.length preds.length), (8, .pointer (some ⟨b34, 0, none⟩)), (13, s.2.2.1)]) (fun s => blk b34 (.cells #[s.1] 57 (0, 0)) :: row ePair 60 (s.1) (s.2.1) :: row eInt 3 (.slice (some ⟨b29, 0, none⟩) preds.length preds.length) (tb preds.length (fun i => ((cnt preds s.2.2.2 i : Nat) : Int))) :: row eInt 3 (s.2.2.1) (s.2.2.2) :: l) (fun s => OnWay preds ranks s.2.2.2 ∧ HS preds.length ranks (fun i => rdy preds s.2.2.2 i = true) s.2.1) (fun s => preds.length - s.2.2.2.length) (hv, xs, .slice none 0 0, []) rfl (by repeat first | exact .nil _ | refine .cons rfl ?_) rfl ⟨.nil, hHS0⟩ ?_
        rintro ⟨hv, xs, ov, out⟩ ⟨hW, hHS⟩
        simp only at hW hHS ⊢
        refine K_sc (.there .here) (fun hcx => ?_)
        refine K_seq ?_
        refine K_seq ?_
        refine K_region ?_
        refine W_y (y_move rfl) rfl rfl rfl ?_
        refine W_y (y_nil rfl) rfl rfl rfl ?_
        refine W_y (y_load rfl (by first | exact ld_cell tab rfl (rd_one (by first | exact .here | exact .there .here | exact .there (.there .here) | exact .there (.there (.there .here)) | exact .there (.there (.there (.there .here))) | exact .there (.there (.there (.there (.there .here))))) rfl) | exact ld_agg tab rfl rfl rfl (rd_all (by first | exact .here | exact .there .here | exact .there (.there .here) | exact .there (.there (.there .here)) | exact .there (.there (.there (.there .here))) | exact .there (.there (.there (.there (.there .here)))))))) rfl rfl rfl ?_
        refine W_a (a_call (enters_of Tryd.func27 (by kernel_rfl) rfl) rfl (f27_ok hcx) rfl ?_) rfl
        rintro _ _ _ - ⟨rfl, rfl, rfl⟩
        refine W_y (y_gt rfl rfl) rfl rfl rfl ?_
        refine K_nil ?_
        refine K_then ?_
        first | refine K_if rfl (fun h6 => ?_) (fun h6 => ?_) | refine K_ifn rfl (fun h6 => ?_) (fun h6 => ?_) | refine K_cond rfl (fun h6 => ?_) (fun h6 => ?_)
        ·
          have hx0 : 0 < xs.length := by omega
          obtain ⟨x, hxn, hrx, hxe, hHS', hmin⟩ := hHS.pop hx0
          have hxo := (rdy_iff.1 hrx).1
          have hb : IsBest preds ranks out preds.length x := ⟨hxn, hrx, hmin⟩
          have hlt := hW.lt hb
          refine K_skip ?_
          refine K_then ?_
          refine K_block ?_
          refine K_seq ?_
          refine K_region ?_
          refine W_y (y_move rfl) rfl rfl rfl ?_
          refine W_y (y_mkif tab rfl rfl) rfl rfl rfl ?_
          refine W_a (a_call (enters_of Tryd.func28 (by kernel_rfl) rfl) rfl (f28_ok (xs := xs) (by have := hHS.le; omega) hx0) rfl ?_) rfl
          rintro _ _ _ - ⟨hv1, rfl, _, rfl, rfl⟩
          rw [hxe]
          refine W_y (y_tas tab rfl rfl) rfl rfl rfl ?_
          refine W_y (y_field1 tab rfl rfl rfl rfl rfl) rfl rfl rfl ?_
          have hout1 := hlt
          refine W_y (y_assign rfl) rfl rfl rfl ?_
          refine K_nil ?_
          refine K_then ?_
          refine K_seq ?_
          refine K_region ?_
          refine W_y (y_move rfl) rfl rfl rfl ?_
          refine W_y (y_move rfl) rfl rfl rfl ?_
          refine W_a (a_bs (e := eInt) (xs := [(x : Int)]) (os := [.tmp 89]) tab rfl rfl rfl rfl rfl rfl rfl rfl rfl ?_) rfl
          intro b90
          refine K_f4 ?_
          refine W_a (a_app (e := eInt) (ys := [(x : Int)]) tab rfl rfl rfl rfl rfl (rd_rowall .here) (by simp only [List.length_singleton]; omega) rfl ?_) rfl
          intro v91
          refine K_f1 (K_drop ?_)
          refine K_b3 ?_
          refine W_y (y_assign rfl) rfl rfl rfl ?_
          refine K_nil ?_
          refine K_then ?_
          refine K_seq ?_
          refine K_region ?_
          refine W_y (y_move rfl) rfl rfl rfl ?_
          refine W_y (y_move rfl) rfl rfl rfl ?_
          obtain ⟨bu, hbue⟩ : ∃ u, u = (vs'.getD x svnil).1 := ⟨_, rfl⟩
          have hbu := hbs x hxn
          rw [tb_get [] hxn, ← hbue] at hbu
          have hbc := hbu.sc
          have hbl := bhd_len (preds := preds) preds.length x
          refine W_y (y_ixi tab hbt rfl rfl rfl rfl (by omega)) rfl rfl rfl ?_
          refine W_y (hbue ▸ y_load rfl (ld_vi (i := x) tab hbt rfl (by omega))) rfl rfl rfl ?_
          refine W_y (by first | exact y_lenc tab (by assumption) rfl rfl | exact y_lens tab rfl rfl | exact y_lenstr tab rfl rfl) rfl rfl rfl ?_
          refine W_y (y_move rfl) rfl rfl rfl ?_
          refine K_nil ?_
          refine K_then ?_
          refine K_block ?_
          rw [show (fun i => ((cnt preds out i : Nat) : Int)) = (fun i => ((cntAt preds out x ((bhd preds preds.length x).take 0) i : Nat) : Int)) from funext fun i => by simp [cntAt]]
          refine K_lp (σ := Nat × Value × List (Int × Int)) (fun s => J2) (fun s => [(0, v), (1, rv), (6, .slice (some ⟨b29, 0, none⟩) preds.length preds.length), (7, .slice (some ⟨b32, 0, none⟩) preds.length preds.length), (8, .pointer (some ⟨b34, 0, none⟩)), (13, v91), (14, .int .i64 x), (95, bu), (96, .int .i64 (bhd preds preds.length x).length), (97, .int .i64 s.1)]) (fun s => blk b34 (.cells #[s.2.1] 57 (0, 0)) :: row ePair 60 (s.2.1) (s.2.2) :: row eInt 3 (.slice (some ⟨b29, 0, none⟩) preds.length preds.length) (tb preds.length (fun i => ((cntAt preds out x ((bhd preds preds.length x).take s.1) i : Nat) : Int))) :: row eInt 3 (v91) ((out ++ [(x : Int)])) :: l) (fun s => s.1 ≤ (bhd preds preds.length x).length ∧ HS preds.length ranks (RdyAt preds out x ((bhd preds preds.length x).take s.1)) s.2.2) (fun s => (bhd preds preds.length x).length - s.1) (0, hv1, hpop xs) rfl (by repeat first | exact .nil _ | refine .cons rfl ?_) rfl ⟨Nat.zero_le _, hHS'.congr (fun i _ => rdyAt_zero.symm)⟩ ?_
          rintro ⟨j, hv, xs⟩ ⟨hj, hHS⟩
          simp only at hj hHS ⊢
          refine K_seq ?_
          refine K_region ?_
          refine W_y (y_lt rfl rfl) rfl rfl rfl ?_
          refine K_nil ?_
          refine K_then ?_
          refine K_seq ?_
          first | refine K_if rfl (fun h7 => ?_) (fun h7 => ?_) | refine K_ifn rfl (fun h7 => ?_) (fun h7 => ?_) | refine K_cond rfl (fun h7 => ?_) (fun h7 => ?_)
          ·
            obtain ⟨m, hB⟩ := behind_of hf hW hb (j := j) (by omega)
            have hmn := hB.lt
            refine K_skip ?_
            refine K_then ?_
            refine K_seq ?_
            refine K_block ?_
            refine K_seq ?_
            refine K_region ?_
            refine W_y (y_ixi tab hbu rfl rfl rfl rfl (by omega)) rfl rfl rfl ?_
            refine W_y (y_load rfl (ld_ii (i := j) tab hbu rfl (by omega))) rfl rfl rfl ?_
            rw [← hB.is_]
            refine W_y (y_assign rfl) rfl rfl rfl ?_
            refine K_nil ?_
            refine K_then ?_
            refine K_seq ?_
            refine K_region ?_
            refine W_y (y_move rfl) rfl rfl rfl ?_
            refine W_y (y_move rfl) rfl rfl rfl ?_
            refine W_y (y_ixv tab rfl rfl rfl rfl (by omega) (by omega)) rfl rfl rfl ?_
            refine W_y (y_load rfl (ld_ri (i := m) tab (.there (.there .here)) rfl (by rw [tb_len]; omega))) rfl rfl rfl ?_
            have hcb := cnt_le hf (out := out ++ [(x : Int)]) hmn
            rw [tb_get 0 hmn, hB.at_, hB.cnt_]
            refine W_y (Yv.to (.int .i64 ((cnt preds (out ++ [(x : Int)]) m : Nat) : Int)) (y_sub rfl rfl (by omega)) (by congr 1; omega)) rfl rfl rfl ?_
            refine W_y (y_ixv tab rfl rfl rfl rfl (by omega) (by omega)) rfl rfl rfl ?_
            refine K_f2 ?_
            refine W_a (a_ste (e := eInt) (i := m) (a' := ((cnt preds (out ++ [(x : Int)]) m : Nat) : Int)) tab rfl rfl rfl rfl rfl rfl (get_of 0 (by rw [tb_len]; omega)) rfl rfl ?_) rfl
            rw [tb_set, tb_ext (g := fun i => ((cntAt preds out x ((bhd preds preds.length x).take (j + 1)) i : Nat) : Int)) (fun i _ => by rw [hB.next i]; split <;> rfl)]
            refine K_b2 ?_
            refine K_nil ?_
            refine K_then ?_
            refine K_seq ?_
            refine K_region ?_
            refine W_y (y_move rfl) rfl rfl rfl ?_
            refine W_y (y_move rfl) rfl rfl rfl ?_
            refine W_y (y_ixv tab rfl rfl rfl rfl (by omega) (by omega)) rfl rfl rfl ?_
            refine W_y (y_load rfl (ld_ri (i := m) tab (.there (.there .here)) rfl (by rw [tb_len]; omega))) rfl rfl rfl ?_
            rw [tb_get 0 hmn, hB.next m, if_pos rfl]
            refine W_y (by first | exact y_eq rfl rfl | exact y_seq rfl rfl) rfl rfl rfl ?_
            refine K_nil ?_
            refine K_then ?_
            first | refine K_if rfl (fun h8 => ?_) (fun h8 => ?_) | refine K_ifn rfl (fun h8 => ?_) (fun h8 => ?_) | refine K_cond rfl (fun h8 => ?_) (fun h8 => ?_)
            ·
              have h0 : cnt preds (out ++ [(x : Int)]) m = 0 := by omega
              refine K_region ?_
              refine W_y (y_move rfl) rfl rfl rfl ?_
              refine W_y (y_mkif tab rfl rfl) rfl rfl rfl ?_
              refine W_y (y_move rfl) rfl rfl rfl ?_
              refine W_y (y_move rfl) rfl rfl rfl ?_
              refine W_y (y_ixi tab hk2 rfl rfl rfl rfl (by omega)) rfl rfl rfl ?_
              refine W_y (y_load rfl (ld_ii (i := m) tab hk2 rfl (by omega))) rfl rfl rfl ?_
              refine W_y (y_move rfl) rfl rfl rfl ?_
              refine W_y (y_build tab rfl rfl rfl rfl rfl) rfl rfl rfl ?_
              refine W_y (y_mkif tab rfl rfl) rfl rfl rfl ?_
              refine W_a (a_call (enters_of Tryd.func26 (by kernel_rfl) rfl) rfl (f26_ok (xs := xs) (x := (ranks.getD m 0, ((m : Nat) : Int))) (by have := hHS.le; omega)) rfl ?_) rfl
              rintro _ _ _ - ⟨v', ho, rfl, rfl⟩
              refine K_nil ?_
              refine K_in ?_
              refine K_then ?_
              refine K_region ?_
              refine W_y (y_add rfl rfl (by omega)) rfl rfl rfl ?_
              refine W_y (y_move rfl) rfl rfl rfl ?_
              refine K_nil ?_
              refine K_thenA ?_
              first
                | exact K_back (j + 1, v', hpush xs (ranks.getD m 0, (m : Int))) rfl (by repeat first | exact .nil _ | refine .cons rfl ?_) rfl ⟨by omega, (hHS.push hmn hB.not_rdy).congr (fun i _ => hB.rdy_zero h0 i)⟩ (by simp only; omega)
                | exact K_back (j + 1, hv, xs) rfl (by repeat first | exact .nil _ | refine .cons rfl ?_) rfl ⟨by omega, hHS.congr (fun i _ => hB.rdy_pos h0 i)⟩ (by simp only; omega)
            ·
              have h0 : cnt preds (out ++ [(x : Int)]) m ≠ 0 := by omega
              refine K_skip ?_
              refine K_in ?_
              refine K_then ?_
              refine K_region ?_
              refine W_y (y_add rfl rfl (by omega)) rfl rfl rfl ?_
              refine W_y (y_move rfl) rfl rfl rfl ?_
              refine K_nil ?_
              refine K_thenA ?_
              first
                | exact K_back (j + 1, v', hpush xs (ranks.getD m 0, (m : Int))) rfl (by repeat first | exact .nil _ | refine .cons rfl ?_) rfl ⟨by omega, (hHS.push hmn hB.not_rdy).congr (fun i _ => hB.rdy_zero h0 i)⟩ (by simp only; omega)
                | exact K_back (j + 1, hv, xs) rfl (by repeat first | exact .nil _ | refine .cons rfl ?_) rfl ⟨by omega, hHS.congr (fun i _ => hB.rdy_pos h0 i)⟩ (by simp only; omega)
          ·
            have hje : j = (bhd preds preds.length x).length := by omega
            subst hje
            rw [List.take_length] at hHS
            rw [List.take_length, tb_ext (g := fun i => ((cnt preds (out ++ [(x : Int)]) i : Nat) : Int)) (fun i hi => by rw [cntAt_end hf hxo hi])]
            refine K_exit ?_
            refine K_then_exit ?_
            refine K_then_exit ?_
            refine K_in_exit ?_
            refine K_in ?_
            refine K_thenA ?_
            exact K_back (hv, xs, v91, out ++ [(x : Int)]) rfl (by repeat first | exact .nil _ | refine .cons rfl ?_) rfl ⟨hW.step hb, hHS.congr (fun i hi => rdyAt_end hf hxo hi)⟩ (by simp only [List.length_append, List.length_singleton]; omega)
        ·
          have hxs : xs = [] := List.eq_nil_of_length_eq_zero (by omega)
          have hout : out = orderL preds ranks := hW.fin (bestK_none.2 fun i hi => Bool.eq_false_iff.2 fun e => by
            have := (hHS.mem _).2 ⟨i, hi, e, rfl⟩
            rw [hxs] at this; cases this)
          subst hout
          refine K_exit ?_
          refine K_then_exit ?_
          refine K_then_exit ?_
          refine K_in_exit ?_
          refine K_then ?_
          refine K_seq ?_
          refine K_seq ?_
          refine K_sc (.there (.there (.there .here))) (fun hco => ?_)
          refine K_region ?_
          refine W_y (y_move rfl) rfl rfl rfl ?_
          refine W_y (by first | exact y_lenc tab (by assumption) rfl rfl | exact y_lens tab rfl rfl | exact y_lenstr tab rfl rfl) rfl rfl rfl ?_
          refine W_y (y_move rfl) rfl rfl rfl ?_
          refine W_y (by first | exact y_lenc tab (by assumption) rfl rfl | exact y_lens tab rfl rfl | exact y_lenstr tab rfl rfl) rfl rfl rfl ?_
          refine W_y (y_lt rfl rfl) rfl rfl rfl ?_
          refine K_nil ?_
          refine K_then ?_
          first | refine K_if rfl (fun h9 => ?_) (fun h9 => ?_) | refine K_ifn rfl (fun h9 => ?_) (fun h9 => ?_) | refine K_cond rfl (fun h9 => ?_) (fun h9 => ?_)
          ·
            have hres : orderRes preds ranks = (orderL preds ranks, 163) := by unfold orderRes; rw [if_pos ⟨hlen, hf⟩, if_pos (by omega)]
            refine K_seq ?_
            refine K_f3 (K_f1 (K_drop (K_f1 (K_drop (K_f1 (K_drop ?_))))))
            refine K_region ?_
            refine W_y (y_move rfl) rfl rfl rfl ?_
            refine W_y (y_assign rfl) rfl rfl rfl ?_
            refine W_y (y_assign rfl) rfl rfl rfl ?_
            refine K_nil ?_
            refine K_then ?_
            refine K_ret ?_
            refine K_then_ret ?_
            refine K_out2 rfl (.tmp rfl) (.tmp rfl) ?_
            first
              | exact fun w hw => ⟨_, _, _, rfl, Imm.le.refl _, hw, .slice none 0 0, by rw [hres], by rw [hres]⟩
              | exact fun w hw => ⟨_, _, _, rfl, hJ, hw, ov, by rw [hres], by rw [hres]⟩
          ·
            have hres : orderRes preds ranks = (orderL preds ranks, 0) := by unfold orderRes; rw [if_pos ⟨hlen, hf⟩, if_neg (by omega)]
            refine K_skip ?_
            refine K_then ?_
            refine K_seq ?_
            refine K_f3 (K_f1 (K_drop (K_f1 (K_drop (K_f1 (K_drop ?_))))))
            refine K_region ?_
            refine W_y (y_move rfl) rfl rfl rfl ?_
            refine W_y (y_assign rfl) rfl rfl rfl ?_
            refine W_y (y_assign rfl) rfl rfl rfl ?_
            refine K_nil ?_
            refine K_then ?_
            refine K_ret ?_
            refine K_out2 rfl (.tmp rfl) (.tmp rfl) ?_
            first
              | exact fun w hw => ⟨_, _, _, rfl, Imm.le.refl _, hw, .slice none 0 0, by rw [hres], by rw [hres]⟩
              | exact fun w hw => ⟨_, _, _, rfl, hJ, hw, ov, by rw [hres], by rw [hres]⟩
end Go.Proofs.YtfnmcpgajjkemaaDoor
