/- shuttleref16.Order. Printed by wip/gen/g13.py. -/
import Derived.Test.YtfnmcpgajjkemaaDoorG11
namespace Go.Proofs.YtfnmcpgajjkemaaDoor
open Go Go.RowKit Go.Proofs.YtfnmcpgajjkemaaDoor.SW
set_option maxRecDepth 100000
set_option maxHeartbeats 400000
def bvP : Option Nat → Int
  | none => -1
  | some b => (b : Int)
theorem bvP_neg {o : Option Nat} : bvP o < 0 ↔ o = none := by
  cases o with
  | none => simp [bvP]
  | some b => simp [bvP]
def inP (n : Nat) (out : List Int) : List Bool := tb n fun i => decide ((i : Int) ∈ out)
theorem inP_get {n i : Nat} {out : List Int} (h : i < n) : (inP n out).getD i false = decide ((i : Int) ∈ out) := tb_get false h
theorem inP_set {n b : Nat} {out : List Int} : (inP n out).set b true = inP n (out ++ [(b : Int)]) := by
  unfold inP
  rw [tb_set]
  refine tb_ext fun i _ => ?_
  by_cases e : i = b
  · subst e; simp
  · have : ¬ (i : Int) = (b : Int) := fun h => e (by omega)
    simp [e, this]
/-- Is the i-th ready, as far as its first k preds tell? -/
def rdyK (preds : List (List Int)) (out : List Int) (i k : Nat) : Bool := !decide ((i : Int) ∈ out) && ((preds.getD i []).take k).all fun p => decide (p ∈ out)
theorem rdyK_len {preds : List (List Int)} {out : List Int} {i : Nat} : rdyK preds out i (preds.getD i []).length = rdy preds out i := by unfold rdyK rdy; rw [List.take_length]
theorem take_all_succ {xs : List Int} {k : Nat} (hk : k < xs.length) {q : Int → Bool} : (xs.take (k + 1)).all q = ((xs.take k).all q && q (xs.getD k 0)) := by
  rw [List.take_add_one, List.getElem?_eq_getElem hk, List.all_append, List.getD_eq_getElem?_getD, List.getElem?_eq_getElem hk]
  simp
theorem rdyK_succ {preds : List (List Int)} {out : List Int} {i k : Nat} (hk : k < (preds.getD i []).length) (h : rdyK preds out i k = true) : rdyK preds out i (k + 1) = decide ((preds.getD i []).getD k 0 ∈ out) := by
  unfold rdyK at h ⊢
  rw [take_all_succ hk, ← Bool.and_assoc, h, Bool.true_and]
theorem rdyK_false {preds : List (List Int)} {out : List Int} {i k : Nat} (h : rdyK preds out i k = false) : rdy preds out i = false := by
  cases hr : rdy preds out i with
  | false => rfl
  | true =>
    rw [rdy_iff] at hr
    have : rdyK preds out i k = true := by
      unfold rdyK
      rw [Bool.and_eq_true]
      refine ⟨by simpa using hr.1, List.all_eq_true.2 fun p hp => decide_eq_true (hr.2 p (List.mem_of_mem_take hp))⟩
    rw [this] at h; cases h
theorem f10_ok {I : Imm} {l : List Itm} {v rv : Value} {vs : List SV} {preds : List (List Int)} {ranks : List Int} (hr : RowII eInt I v vs preds) (hk : RowI eInt I rv ranks) (hm : preds.length * 32 ≤ 140737488355000) :
    Ct Tryd.prog 10 [v, rv] I l (fun r J m => ∃ ov, r = .tuple #[ov, .int .i64 (orderRes preds ranks).2] ∧ I = J ∧ m = row eInt 3 ov (orderRes preds ranks).1 :: l) := by
  refine Ct_enter Tryd.func10 rfl rfl rfl ?_
  have hl := hr.len
  have hc := hr.top.sc
  rw [hl] at hc
  have hck := hk.sc
  refine K_seq ?_
  refine K_region ?_
  refine W_y (y_assign rfl) rfl rfl rfl ?_
  refine W_y (y_assign rfl) rfl rfl rfl ?_
  refine K_nil ?_
  refine K_then ?_
  refine K_seq ?_
  refine K_seq ?_
  refine K_region ?_
  refine W_y (y_move rfl) rfl rfl rfl ?_
  refine W_y (by first | exact y_lenc tab (by assumption) rfl rfl | exact y_lens tab rfl rfl | exact y_lenstr tab rfl rfl) rfl rfl rfl ?_
  refine W_y (y_move rfl) rfl rfl rfl ?_
  refine W_y (by first | exact y_lenc tab (by assumption) rfl rfl | exact y_lens tab rfl rfl | exact y_lenstr tab rfl rfl) rfl rfl rfl ?_
  refine W_y (by first | exact y_ne rfl rfl | exact y_sne rfl rfl) rfl rfl rfl ?_
  refine W_y (y_move rfl) rfl rfl rfl ?_
  first | refine K_splitd 17 rfl (fun h1 => ?_) (fun h1 => ?_) | refine K_split 17 rfl (fun h1 => ?_) (fun h1 => ?_)
  ·
    have hres : orderRes preds ranks = ([], 160) := by unfold orderRes; rw [if_neg (fun e => by have h' := h1; rw [e.1] at h'; simp at h')]
    refine W_skip rfl rfl rfl ?_
    refine W_skip rfl rfl rfl ?_
    refine W_skip rfl rfl rfl ?_
    refine W_y (y_pick rfl rfl) rfl rfl rfl ?_
    refine K_nil ?_
    refine K_then ?_
    refine K_yes rfl ?_
    refine K_seq ?_
    refine K_nilrow eInt 3 ?_
    refine K_region ?_
    refine W_y (y_assign rfl) rfl rfl rfl ?_
    refine W_y (y_assign rfl) rfl rfl rfl ?_
    refine K_nil ?_
    refine K_then ?_
    refine K_ret ?_
    refine K_then_ret ?_
    refine K_out2 rfl (.tmp rfl) (.tmp rfl) ?_
    first
      | exact fun w hw => ⟨_, _, _, rfl, Imm.le.refl _, hw, ov, by rw [hres], rfl, by rw [hres]⟩
      | exact fun w hw => ⟨_, _, _, rfl, Imm.le.refl _, hw, .slice none 0 0, by rw [hres], rfl, by rw [hres]⟩
  ·
    have hlen : ranks.length = preds.length := by have h' := h1; simp at h'; omega
    refine W_y (y_move rfl) rfl rfl rfl ?_
    refine W_a (a_call (enters_of Tryd.func24 (by kernel_rfl) rfl) rfl (f24_ok hr (by omega)) rfl ?_) rfl
    rintro _ _ _ - ⟨rfl, rfl, rfl⟩
    refine W_y (y_not rfl) rfl rfl rfl ?_
    refine W_y (y_pick rfl rfl) rfl rfl rfl ?_
    refine K_nil ?_
    refine K_then ?_
    first | refine K_if rfl (fun h2 => ?_) (fun h2 => ?_) | refine K_ifn rfl (fun h2 => ?_) (fun h2 => ?_) | refine K_cond rfl (fun h2 => ?_) (fun h2 => ?_)
    ·
      have hres : orderRes preds ranks = ([], 160) := by unfold orderRes; rw [if_neg (fun e => h2 e.2)]
      refine K_seq ?_
      refine K_nilrow eInt 3 ?_
      refine K_region ?_
      refine W_y (y_assign rfl) rfl rfl rfl ?_
      refine W_y (y_assign rfl) rfl rfl rfl ?_
      refine K_nil ?_
      refine K_then ?_
      refine K_ret ?_
      refine K_then_ret ?_
      refine K_out2 rfl (.tmp rfl) (.tmp rfl) ?_
      first
        | exact fun w hw => ⟨_, _, _, rfl, Imm.le.refl _, hw, ov, by rw [hres], rfl, by rw [hres]⟩
        | exact fun w hw => ⟨_, _, _, rfl, Imm.le.refl _, hw, .slice none 0 0, by rw [hres], rfl, by rw [hres]⟩
    ·
      have hf : formOk preds := h2
      refine K_skip ?_
      refine K_then ?_
      refine K_seq ?_
      refine K_region ?_
      refine W_y (y_move rfl) rfl rfl rfl ?_
      refine W_y (by first | exact y_lenc tab (by assumption) rfl rfl | exact y_lens tab rfl rfl | exact y_lenstr tab rfl rfl) rfl rfl rfl ?_
      refine W_a (a_mk (e := eBool) (z0 := false) tab rfl rfl rfl rfl rfl (by omega) rfl ?_) rfl
      intro b24
      refine W_y (y_assign rfl) rfl rfl rfl ?_
      refine K_nil ?_
      refine K_then ?_
      refine K_seq ?_
      refine K_region ?_
      refine W_y (y_assign rfl) rfl rfl rfl ?_
      refine K_nil ?_
      refine K_then ?_
      refine K_seq ?_
      refine K_block ?_
      rw [tb_const, show (fun _ => false) = (fun (i : Nat) => decide ((i : Int) ∈ ([] : List Int))) from funext fun i => by simp]
      refine K_nilrow eInt 3 (K_f1 ?_)
      refine K_lp (σ := Value × List Int) (fun s => I) (fun s => [(0, v), (1, rv), (6, .slice (some ⟨b24, 0, none⟩) preds.length preds.length), (7, s.1)]) (fun s => row eBool 4 (.slice (some ⟨b24, 0, none⟩) preds.length preds.length) (inP preds.length s.2) :: row eInt 3 s.1 s.2 :: l) (fun s => OnWay preds ranks s.2) (fun s => preds.length - s.2.length) (.slice none 0 0, []) rfl (by repeat first | exact .nil _ | refine .cons rfl ?_) rfl .nil ?_
      rintro ⟨ov, out⟩ hW
      simp only at hW ⊢
      refine K_block ?_
      refine K_seq ?_
      refine K_region ?_
      refine W_y (y_assign rfl) rfl rfl rfl ?_
      refine K_nil ?_
      refine K_then ?_
      refine K_seq ?_
      refine K_seq ?_
      refine K_region ?_
      refine W_y (y_assign rfl) rfl rfl rfl ?_
      refine K_nil ?_
      refine K_then ?_
      refine K_block ?_
      refine K_lp (σ := Nat) (fun s => I) (fun s => [(0, v), (1, rv), (6, .slice (some ⟨b24, 0, none⟩) preds.length preds.length), (7, ov), (8, .int .i64 (bvP (bestK preds ranks out s))), (9, .int .i64 s)]) (fun s => row eBool 4 (.slice (some ⟨b24, 0, none⟩) preds.length preds.length) (inP preds.length out) :: row eInt 3 ov out :: l) (fun s => s ≤ preds.length) (fun s => preds.length - s) 0 rfl (by repeat first | exact .nil _ | refine .cons rfl ?_) rfl (Nat.zero_le _) ?_
      intro i hi
      refine K_seq ?_
      refine K_seq ?_
      refine K_region ?_
      refine W_y (y_move rfl) rfl rfl rfl ?_
      refine W_y (y_move rfl) rfl rfl rfl ?_
      refine W_y (by first | exact y_lenc tab (by assumption) rfl rfl | exact y_lens tab rfl rfl | exact y_lenstr tab rfl rfl) rfl rfl rfl ?_
      refine W_y (y_lt rfl rfl) rfl rfl rfl ?_
      refine K_nil ?_
      refine K_then ?_
      first | refine K_if rfl (fun h3 => ?_) (fun h3 => ?_) | refine K_ifn rfl (fun h3 => ?_) (fun h3 => ?_) | refine K_cond rfl (fun h3 => ?_) (fun h3 => ?_)
      ·
        have hin : i < preds.length := by omega
        obtain ⟨u, hu⟩ : ∃ u, u = (vs.getD i svnil).1 := ⟨_, rfl⟩
        have hru := hr.at_ i hin
        rw [← hu] at hru
        have hcu := hru.sc
        have hrow := hf.row hin
        have hml := ints_le hrow.1 hrow.2
        refine K_skip ?_
        refine K_then ?_
        refine K_seq ?_
        refine K_block ?_
        refine K_seq ?_
        refine K_region ?_
        refine W_y (y_move rfl) rfl rfl rfl ?_
        refine W_y (y_move rfl) rfl rfl rfl ?_
        refine W_y (y_ixv tab rfl rfl rfl rfl (by omega) (by omega)) rfl rfl rfl ?_
        refine W_y (y_load rfl (ld_rb (i := i) tab .here rfl (by rw [inP, tb_len]; omega))) rfl rfl rfl ?_
        rw [inP_get hin]
        refine W_y (y_not rfl) rfl rfl rfl ?_
        refine W_y (y_assign rfl) rfl rfl rfl ?_
        refine K_nil ?_
        refine K_then ?_
        refine K_seq ?_
        refine K_seq ?_
        refine K_region ?_
        refine W_y (y_assign rfl) rfl rfl rfl ?_
        refine K_nil ?_
        refine K_then ?_
        refine K_block ?_
        rw [show (!decide ((i : Int) ∈ out)) = rdyK preds out i 0 by simp [rdyK]]
        refine K_lp (σ := Nat) (fun s => I) (fun s => [(0, v), (1, rv), (6, .slice (some ⟨b24, 0, none⟩) preds.length preds.length), (7, ov), (8, .int .i64 (bvP (bestK preds ranks out i))), (9, .int .i64 i), (10, .bool (rdyK preds out i s)), (11, .int .i64 s)]) (fun s => row eBool 4 (.slice (some ⟨b24, 0, none⟩) preds.length preds.length) (inP preds.length out) :: row eInt 3 ov out :: l) (fun s => s ≤ (preds.getD i []).length) (fun s => (preds.getD i []).length - s) 0 rfl (by repeat first | exact .nil _ | refine .cons rfl ?_) rfl (Nat.zero_le _) ?_
        intro k hkk
        refine K_seq ?_
        refine K_seq ?_
        refine K_region ?_
        refine W_y (y_move rfl) rfl rfl rfl ?_
        refine W_y (y_move rfl) rfl rfl rfl ?_
        refine K_split 37 rfl (fun h4 => ?_) (fun h4 => ?_)
        ·
          have hrk := h4
          refine W_y (y_move rfl) rfl rfl rfl ?_
          refine W_y (y_move rfl) rfl rfl rfl ?_
          refine W_y (y_move rfl) rfl rfl rfl ?_
          refine W_y (y_ixi tab hr.top rfl rfl rfl rfl (by omega)) rfl rfl rfl ?_
          refine W_y (hu ▸ y_load rfl (ld_vi (i := i) tab hr.top rfl (by omega))) rfl rfl rfl ?_
          refine W_y (by first | exact y_lenc tab (by assumption) rfl rfl | exact y_lens tab rfl rfl | exact y_lenstr tab rfl rfl) rfl rfl rfl ?_
          refine W_y (y_lt rfl rfl) rfl rfl rfl ?_
          refine W_y (y_pick rfl rfl) rfl rfl rfl ?_
          refine K_nil ?_
          refine K_then ?_
          first | refine K_if rfl (fun h5 => ?_) (fun h5 => ?_) | refine K_ifn rfl (fun h5 => ?_) (fun h5 => ?_) | refine K_cond rfl (fun h5 => ?_) (fun h5 => ?_)
          ·
            have hkl : k < (preds.getD i []).length := by have h' := h5; omega
            refine K_skip ?_
            refine K_then ?_
            refine K_seq ?_
            refine K_block ?_
            refine K_region ?_
            refine W_y (y_move rfl) rfl rfl rfl ?_
            refine W_y (y_move rfl) rfl rfl rfl ?_
            refine W_y (y_move rfl) rfl rfl rfl ?_
            refine W_y (y_ixi tab hr.top rfl rfl rfl rfl (by omega)) rfl rfl rfl ?_
            refine W_y (hu ▸ y_load rfl (ld_vi (i := i) tab hr.top rfl (by omega))) rfl rfl rfl ?_
            refine W_y (y_move rfl) rfl rfl rfl ?_
            refine W_y (y_ixi tab hru rfl rfl rfl rfl (by omega)) rfl rfl rfl ?_
            refine W_y (y_load rfl (ld_ii (i := k) tab hru rfl (by omega))) rfl rfl rfl ?_
            have hp := hrow.2 _ (getD_mem (i := k) 0 hkl)
            obtain ⟨q, hq⟩ : ∃ q : Nat, (q : Int) = (preds.getD i []).getD k 0 := ⟨((preds.getD i []).getD k 0).toNat, by omega⟩
            have hsucc := rdyK_succ hkl hrk
            rw [← hq] at hp hsucc ⊢
            have hqn : q < preds.length := by omega
            refine W_y (y_ixv tab rfl rfl rfl rfl (by omega) (by omega)) rfl rfl rfl ?_
            refine W_y (y_load rfl (ld_rb (i := q) tab .here rfl (by rw [inP, tb_len]; omega))) rfl rfl rfl ?_
            rw [inP_get hqn, ← hsucc]
            refine W_y (y_assign rfl) rfl rfl rfl ?_
            refine K_nil ?_
            refine K_in ?_
            refine K_then ?_
            refine K_region ?_
            refine W_y (y_move rfl) rfl rfl rfl ?_
            refine W_y (y_add rfl rfl (by omega)) rfl rfl rfl ?_
            refine W_y (y_assign rfl) rfl rfl rfl ?_
            refine K_nil ?_
            refine K_thenA ?_
            exact K_back (k + 1) rfl (by repeat first | exact .nil _ | refine .cons rfl ?_) rfl (by omega) (by first | omega | (simp only; omega))
          ·
            have hke : k = (preds.getD i []).length := by have h' := h5; omega
            have hrd : rdyK preds out i k = rdy preds out i := by rw [hke]; exact rdyK_len
            rw [hrd]
            refine K_exit ?_
            refine K_then_exit ?_
            refine K_then_exit ?_
            refine K_in_exit ?_
            refine K_then ?_
            refine K_seq ?_
            refine K_draw [(0, 3, []), (1, 3, []), (2, 3, []), (3, 3, []), (4, 3, []), (5, 3, []), (6, 3, []), (7, 3, []), (8, 0, []), (9, 3, []), (10, 3, []), (11, 3, []), (12, 0, []), (13, 3, []), (14, 3, []), (15, 3, [])] [] [] rfl (by kernel_rfl) (by intro c a d v w h; cases d <;> exact h) ?_
            refine D_f rfl (fun _ _ => y_move rfl) rfl rfl rfl ?_
            refine D_f rfl (fun _ _ => y_move rfl) rfl rfl rfl ?_
            refine K_split 59 rfl (fun h6 => ?_) (fun h6 => ?_)
            ·
              have hrd1 := h6
              refine D_f rfl (fun _ _ => y_move rfl) rfl rfl rfl ?_
              refine D_f rfl (fun _ _ => y_lt rfl rfl) rfl rfl rfl ?_
              refine D_f rfl (fun _ _ => y_move rfl) rfl rfl rfl ?_
              first | refine K_splitd 62 rfl (fun h7 => ?_) (fun h7 => ?_) | refine K_split 62 rfl (fun h7 => ?_) (fun h7 => ?_)
              ·
                have hbn := bvP_neg.1 h7
                have hnew : bestK preds ranks out (i + 1) = some i := by simp only [bestK]; rw [hbn]; simp [hrd1]
                refine D_skip3 rfl rfl rfl rfl ?_
                refine D_skip3 rfl rfl rfl rfl ?_
                refine D_skip3 rfl rfl rfl rfl ?_
                refine D_skip rfl rfl rfl rfl ?_
                refine D_skip3 rfl rfl rfl rfl ?_
                refine D_skip3 rfl rfl rfl rfl ?_
                refine D_skip3 rfl rfl rfl rfl ?_
                refine D_skip rfl rfl rfl rfl ?_
                refine D_skip3 rfl rfl rfl rfl ?_
                refine D_f rfl (fun _ _ => y_pick rfl rfl) rfl rfl rfl ?_
                refine D_f rfl (fun _ _ => y_pick rfl rfl) rfl rfl rfl ?_
                refine D_nil (fun _ h => h.sublist (by repeat first | exact List.nil_sublist _ | exact List.Sublist.refl _ | apply List.Sublist.cons_cons | apply List.Sublist.cons)) ?_
                refine K_then ?_
                refine K_yes rfl ?_
                refine K_region ?_
                refine W_y (y_move rfl) rfl rfl rfl ?_
                refine W_y (y_assign rfl) rfl rfl rfl ?_
                refine K_nil ?_
                refine K_in ?_
                refine K_then ?_
                refine K_region ?_
                refine W_y (y_move rfl) rfl rfl rfl ?_
                refine W_y (y_add rfl rfl (by omega)) rfl rfl rfl ?_
                refine W_y (y_assign rfl) rfl rfl rfl ?_
                refine K_nil ?_
                refine K_thenA ?_
                exact K_back (i + 1) rfl (.cons rfl (.cons rfl (.cons rfl (.cons rfl (.cons (by rw [hnew]; rfl) (.cons rfl (.nil _))))))) rfl (by omega) (by first | omega | (simp only; omega))
              ·
                obtain ⟨b, hbe⟩ : ∃ b, bestK preds ranks out i = some b := Option.ne_none_iff_exists'.1 (fun e => h7 (bvP_neg.2 e))
                have hbi := (bestK_some hbe).1
                refine D_f rfl (fun _ _ => y_move rfl) rfl rfl rfl ?_
                refine D_f rfl (fun _ _ => y_move rfl) rfl rfl rfl ?_
                refine D_f rfl (fun _ _ => y_ixi tab hk rfl rfl rfl rfl (by omega)) rfl rfl rfl ?_
                refine D_y rfl (y_load rfl (ld_ii (i := i) tab hk rfl (by omega))) rfl rfl rfl ?_
                refine D_f rfl (fun _ _ => y_move rfl) rfl rfl rfl ?_
                refine D_f rfl (fun _ _ => y_move rfl) rfl rfl rfl ?_
                refine D_f rfl (fun _ _ => y_ixN b (y_ixi tab hk rfl rfl rfl rfl (by rw [hbe]; simp only [bvP]; omega)) (by rw [hbe]; rfl)) rfl rfl rfl ?_
                refine D_y rfl (y_load rfl (ld_ii (i := b) tab hk rfl (by omega))) rfl rfl rfl ?_
                refine D_f rfl (fun _ _ => y_lt rfl rfl) rfl rfl rfl ?_
                refine D_f rfl (fun _ _ => y_pick rfl rfl) rfl rfl rfl ?_
                refine D_f rfl (fun _ _ => y_pick rfl rfl) rfl rfl rfl ?_
                refine D_nil (fun _ h => h.sublist (by repeat first | exact List.nil_sublist _ | exact List.Sublist.refl _ | apply List.Sublist.cons_cons | apply List.Sublist.cons)) ?_
                refine K_then ?_
                first | refine K_if rfl (fun h8 => ?_) (fun h8 => ?_) | refine K_ifn rfl (fun h8 => ?_) (fun h8 => ?_) | refine K_cond rfl (fun h8 => ?_) (fun h8 => ?_)
                ·
                  have hnew : bestK preds ranks out (i + 1) = some i := by simp only [bestK]; rw [hbe]; simp only; rw [if_pos (by rw [hrd1, decide_eq_true h8]; rfl)]
                  refine K_region ?_
                  refine W_y (y_move rfl) rfl rfl rfl ?_
                  refine W_y (y_assign rfl) rfl rfl rfl ?_
                  refine K_nil ?_
                  refine K_in ?_
                  refine K_then ?_
                  refine K_region ?_
                  refine W_y (y_move rfl) rfl rfl rfl ?_
                  refine W_y (y_add rfl rfl (by omega)) rfl rfl rfl ?_
                  refine W_y (y_assign rfl) rfl rfl rfl ?_
                  refine K_nil ?_
                  refine K_thenA ?_
                  exact K_back (i + 1) rfl (.cons rfl (.cons rfl (.cons rfl (.cons rfl (.cons (by rw [hnew]; rfl) (.cons rfl (.nil _))))))) rfl (by omega) (by first | omega | (simp only; omega))
                ·
                  have hnew : bestK preds ranks out (i + 1) = bestK preds ranks out i := by simp only [bestK]; rw [hbe]; simp only; rw [if_neg (by rw [decide_eq_false h8]; simp)]
                  refine K_skip ?_
                  refine K_in ?_
                  refine K_then ?_
                  refine K_region ?_
                  refine W_y (y_move rfl) rfl rfl rfl ?_
                  refine W_y (y_add rfl rfl (by omega)) rfl rfl rfl ?_
                  refine W_y (y_assign rfl) rfl rfl rfl ?_
                  refine K_nil ?_
                  refine K_thenA ?_
                  exact K_back (i + 1) rfl (.cons rfl (.cons rfl (.cons rfl (.cons rfl (.cons (by rw [hnew]; rfl) (.cons rfl (.nil _))))))) rfl (by omega) (by first | omega | (simp only; omega))
            ·
              have hrd1 := h6
              have hnew : bestK preds ranks out (i + 1) = bestK preds ranks out i := by simp only [bestK]; cases bestK preds ranks out i <;> simp [hrd1]
              refine D_skip3 rfl rfl rfl rfl ?_
              refine D_skip3 rfl rfl rfl rfl ?_
              refine D_skip3 rfl rfl rfl rfl ?_
              refine D_skip3 rfl rfl rfl rfl ?_
              refine D_skip3 rfl rfl rfl rfl ?_
              refine D_skip3 rfl rfl rfl rfl ?_
              refine D_skip rfl rfl rfl rfl ?_
              refine D_skip3 rfl rfl rfl rfl ?_
              refine D_skip3 rfl rfl rfl rfl ?_
              refine D_skip3 rfl rfl rfl rfl ?_
              refine D_skip rfl rfl rfl rfl ?_
              refine D_skip3 rfl rfl rfl rfl ?_
              refine D_skip3 rfl rfl rfl rfl ?_
              refine D_f rfl (fun _ _ => y_pick rfl rfl) rfl rfl rfl ?_
              refine D_nil (fun _ h => h.sublist (by repeat first | exact List.nil_sublist _ | exact List.Sublist.refl _ | apply List.Sublist.cons_cons | apply List.Sublist.cons)) ?_
              refine K_then ?_
              refine K_no rfl ?_
              refine K_skip ?_
              refine K_in ?_
              refine K_then ?_
              refine K_region ?_
              refine W_y (y_move rfl) rfl rfl rfl ?_
              refine W_y (y_add rfl rfl (by omega)) rfl rfl rfl ?_
              refine W_y (y_assign rfl) rfl rfl rfl ?_
              refine K_nil ?_
              refine K_thenA ?_
              exact K_back (i + 1) rfl (.cons rfl (.cons rfl (.cons rfl (.cons rfl (.cons (by rw [hnew]; rfl) (.cons rfl (.nil _))))))) rfl (by omega) (by first | omega | (simp only; omega))
        ·
          have hrk := h4
          have hrd : rdyK preds out i k = rdy preds out i := by rw [hrk, rdyK_false hrk]
          rw [hrd]
          refine W_skip rfl rfl rfl ?_
          refine W_skip rfl rfl rfl ?_
          refine W_skip rfl rfl rfl ?_
          refine W_skip rfl rfl rfl ?_
          refine W_skip rfl rfl rfl ?_
          refine W_skip rfl rfl rfl ?_
          refine W_skip rfl rfl rfl ?_
          refine W_y (y_pick rfl rfl) rfl rfl rfl ?_
          refine K_nil ?_
          refine K_then ?_
          refine K_no rfl ?_
          refine K_exit ?_
          refine K_then_exit ?_
          refine K_then_exit ?_
          refine K_in_exit ?_
          refine K_then ?_
          refine K_seq ?_
          refine K_draw [(0, 3, []), (1, 3, []), (2, 3, []), (3, 3, []), (4, 3, []), (5, 3, []), (6, 3, []), (7, 3, []), (8, 0, []), (9, 3, []), (10, 3, []), (11, 3, []), (12, 0, []), (13, 3, []), (14, 3, []), (15, 3, [])] [] [] rfl (by kernel_rfl) (by intro c a d v w h; cases d <;> exact h) ?_
          refine D_f rfl (fun _ _ => y_move rfl) rfl rfl rfl ?_
          refine D_f rfl (fun _ _ => y_move rfl) rfl rfl rfl ?_
          refine K_split 59 rfl (fun h9 => ?_) (fun h9 => ?_)
          ·
            have hrd1 := h9
            refine D_f rfl (fun _ _ => y_move rfl) rfl rfl rfl ?_
            refine D_f rfl (fun _ _ => y_lt rfl rfl) rfl rfl rfl ?_
            refine D_f rfl (fun _ _ => y_move rfl) rfl rfl rfl ?_
            first | refine K_splitd 62 rfl (fun h10 => ?_) (fun h10 => ?_) | refine K_split 62 rfl (fun h10 => ?_) (fun h10 => ?_)
            ·
              have hbn := bvP_neg.1 h10
              have hnew : bestK preds ranks out (i + 1) = some i := by simp only [bestK]; rw [hbn]; simp [hrd1]
              refine D_skip3 rfl rfl rfl rfl ?_
              refine D_skip3 rfl rfl rfl rfl ?_
              refine D_skip3 rfl rfl rfl rfl ?_
              refine D_skip rfl rfl rfl rfl ?_
              refine D_skip3 rfl rfl rfl rfl ?_
              refine D_skip3 rfl rfl rfl rfl ?_
              refine D_skip3 rfl rfl rfl rfl ?_
              refine D_skip rfl rfl rfl rfl ?_
              refine D_skip3 rfl rfl rfl rfl ?_
              refine D_f rfl (fun _ _ => y_pick rfl rfl) rfl rfl rfl ?_
              refine D_f rfl (fun _ _ => y_pick rfl rfl) rfl rfl rfl ?_
              refine D_nil (fun _ h => h.sublist (by repeat first | exact List.nil_sublist _ | exact List.Sublist.refl _ | apply List.Sublist.cons_cons | apply List.Sublist.cons)) ?_
              refine K_then ?_
              refine K_yes rfl ?_
              refine K_region ?_
              refine W_y (y_move rfl) rfl rfl rfl ?_
              refine W_y (y_assign rfl) rfl rfl rfl ?_
              refine K_nil ?_
              refine K_in ?_
              refine K_then ?_
              refine K_region ?_
              refine W_y (y_move rfl) rfl rfl rfl ?_
              refine W_y (y_add rfl rfl (by omega)) rfl rfl rfl ?_
              refine W_y (y_assign rfl) rfl rfl rfl ?_
              refine K_nil ?_
              refine K_thenA ?_
              exact K_back (i + 1) rfl (.cons rfl (.cons rfl (.cons rfl (.cons rfl (.cons (by rw [hnew]; rfl) (.cons rfl (.nil _))))))) rfl (by omega) (by first | omega | (simp only; omega))
            ·
              obtain ⟨b, hbe⟩ : ∃ b, bestK preds ranks out i = some b := Option.ne_none_iff_exists'.1 (fun e => h10 (bvP_neg.2 e))
              have hbi := (bestK_some hbe).1
              refine D_f rfl (fun _ _ => y_move rfl) rfl rfl rfl ?_
              refine D_f rfl (fun _ _ => y_move rfl) rfl rfl rfl ?_
              refine D_f rfl (fun _ _ => y_ixi tab hk rfl rfl rfl rfl (by omega)) rfl rfl rfl ?_
              refine D_y rfl (y_load rfl (ld_ii (i := i) tab hk rfl (by omega))) rfl rfl rfl ?_
              refine D_f rfl (fun _ _ => y_move rfl) rfl rfl rfl ?_
              refine D_f rfl (fun _ _ => y_move rfl) rfl rfl rfl ?_
              refine D_f rfl (fun _ _ => y_ixN b (y_ixi tab hk rfl rfl rfl rfl (by rw [hbe]; simp only [bvP]; omega)) (by rw [hbe]; rfl)) rfl rfl rfl ?_
              refine D_y rfl (y_load rfl (ld_ii (i := b) tab hk rfl (by omega))) rfl rfl rfl ?_
              refine D_f rfl (fun _ _ => y_lt rfl rfl) rfl rfl rfl ?_
              refine D_f rfl (fun _ _ => y_pick rfl rfl) rfl rfl rfl ?_
              refine D_f rfl (fun _ _ => y_pick rfl rfl) rfl rfl rfl ?_
              refine D_nil (fun _ h => h.sublist (by repeat first | exact List.nil_sublist _ | exact List.Sublist.refl _ | apply List.Sublist.cons_cons | apply List.Sublist.cons)) ?_
              refine K_then ?_
              first | refine K_if rfl (fun h11 => ?_) (fun h11 => ?_) | refine K_ifn rfl (fun h11 => ?_) (fun h11 => ?_) | refine K_cond rfl (fun h11 => ?_) (fun h11 => ?_)
              ·
                have hnew : bestK preds ranks out (i + 1) = some i := by simp only [bestK]; rw [hbe]; simp only; rw [if_pos (by rw [hrd1, decide_eq_true h11]; rfl)]
                refine K_region ?_
                refine W_y (y_move rfl) rfl rfl rfl ?_
                refine W_y (y_assign rfl) rfl rfl rfl ?_
                refine K_nil ?_
                refine K_in ?_
                refine K_then ?_
                refine K_region ?_
                refine W_y (y_move rfl) rfl rfl rfl ?_
                refine W_y (y_add rfl rfl (by omega)) rfl rfl rfl ?_
                refine W_y (y_assign rfl) rfl rfl rfl ?_
                refine K_nil ?_
                refine K_thenA ?_
                exact K_back (i + 1) rfl (.cons rfl (.cons rfl (.cons rfl (.cons rfl (.cons (by rw [hnew]; rfl) (.cons rfl (.nil _))))))) rfl (by omega) (by first | omega | (simp only; omega))
              ·
                have hnew : bestK preds ranks out (i + 1) = bestK preds ranks out i := by simp only [bestK]; rw [hbe]; simp only; rw [if_neg (by rw [decide_eq_false h11]; simp)]
                refine K_skip ?_
                refine K_in ?_
                refine K_then ?_
                refine K_region ?_
                refine W_y (y_move rfl) rfl rfl rfl ?_
                refine W_y (y_add rfl rfl (by omega)) rfl rfl rfl ?_
                refine W_y (y_assign rfl) rfl rfl rfl ?_
                refine K_nil ?_
                refine K_thenA ?_
                exact K_back (i + 1) rfl (.cons rfl (.cons rfl (.cons rfl (.cons rfl (.cons (by rw [hnew]; rfl) (.cons rfl (.nil _))))))) rfl (by omega) (by first | omega | (simp only; omega))
          ·
            have hrd1 := h9
            have hnew : bestK preds ranks out (i + 1) = bestK preds ranks out i := by simp only [bestK]; cases bestK preds ranks out i <;> simp [hrd1]
            refine D_skip3 rfl rfl rfl rfl ?_
            refine D_skip3 rfl rfl rfl rfl ?_
            refine D_skip3 rfl rfl rfl rfl ?_
            refine D_skip3 rfl rfl rfl rfl ?_
            refine D_skip3 rfl rfl rfl rfl ?_
            refine D_skip3 rfl rfl rfl rfl ?_
            refine D_skip rfl rfl rfl rfl ?_
            refine D_skip3 rfl rfl rfl rfl ?_
            refine D_skip3 rfl rfl rfl rfl ?_
            refine D_skip3 rfl rfl rfl rfl ?_
            refine D_skip rfl rfl rfl rfl ?_
            refine D_skip3 rfl rfl rfl rfl ?_
            refine D_skip3 rfl rfl rfl rfl ?_
            refine D_f rfl (fun _ _ => y_pick rfl rfl) rfl rfl rfl ?_
            refine D_nil (fun _ h => h.sublist (by repeat first | exact List.nil_sublist _ | exact List.Sublist.refl _ | apply List.Sublist.cons_cons | apply List.Sublist.cons)) ?_
            refine K_then ?_
            refine K_no rfl ?_
            refine K_skip ?_
            refine K_in ?_
            refine K_then ?_
            refine K_region ?_
            refine W_y (y_move rfl) rfl rfl rfl ?_
            refine W_y (y_add rfl rfl (by omega)) rfl rfl rfl ?_
            refine W_y (y_assign rfl) rfl rfl rfl ?_
            refine K_nil ?_
            refine K_thenA ?_
            exact K_back (i + 1) rfl (.cons rfl (.cons rfl (.cons rfl (.cons rfl (.cons (by rw [hnew]; rfl) (.cons rfl (.nil _))))))) rfl (by omega) (by first | omega | (simp only; omega))
      ·
        have hie : i = preds.length := by omega
        subst hie
        refine K_exit ?_
        refine K_then_exit ?_
        refine K_then_exit ?_
        refine K_in_exit ?_
        refine K_then ?_
        refine K_seq ?_
        refine K_seq ?_
        refine K_region ?_
        refine W_y (y_move rfl) rfl rfl rfl ?_
        refine W_y (y_lt rfl rfl) rfl rfl rfl ?_
        refine K_nil ?_
        refine K_then ?_
        first | refine K_if rfl (fun h12 => ?_) (fun h12 => ?_) | refine K_ifn rfl (fun h12 => ?_) (fun h12 => ?_) | refine K_cond rfl (fun h12 => ?_) (fun h12 => ?_)
        ·
          have hout : out = orderL preds ranks := hW.fin (bvP_neg.1 h12)
          subst hout
          refine K_exit ?_
          refine K_then_exit ?_
          refine K_in_past rfl ?_
          refine K_then_exit ?_
          refine K_in_exit ?_
          refine K_then ?_
          refine K_seq ?_
          refine K_seq ?_
          refine K_drop (K_sc .here (fun hco => ?_))
          refine K_region ?_
          refine W_y (y_move rfl) rfl rfl rfl ?_
          refine W_y (by first | exact y_lenc tab (by assumption) rfl rfl | exact y_lens tab rfl rfl | exact y_lenstr tab rfl rfl) rfl rfl rfl ?_
          refine W_y (y_move rfl) rfl rfl rfl ?_
          refine W_y (by first | exact y_lenc tab (by assumption) rfl rfl | exact y_lens tab rfl rfl | exact y_lenstr tab rfl rfl) rfl rfl rfl ?_
          refine W_y (y_lt rfl rfl) rfl rfl rfl ?_
          refine K_nil ?_
          refine K_then ?_
          first | refine K_if rfl (fun h13 => ?_) (fun h13 => ?_) | refine K_ifn rfl (fun h13 => ?_) (fun h13 => ?_) | refine K_cond rfl (fun h13 => ?_) (fun h13 => ?_)
          ·
            have hres : orderRes preds ranks = (orderL preds ranks, 163) := by unfold orderRes; rw [if_pos ⟨hlen, hf⟩, if_pos (by omega)]
            refine K_seq ?_
            refine K_region ?_
            refine W_y (y_move rfl) rfl rfl rfl ?_
            refine W_y (y_assign rfl) rfl rfl rfl ?_
            refine W_y (y_assign rfl) rfl rfl rfl ?_
            refine K_nil ?_
            refine K_then ?_
            refine K_ret ?_
            refine K_then_ret ?_
            refine K_out2 rfl (.tmp rfl) (.tmp rfl) ?_
            first
              | exact fun w hw => ⟨_, _, _, rfl, Imm.le.refl _, hw, ov, by rw [hres], rfl, by rw [hres]⟩
              | exact fun w hw => ⟨_, _, _, rfl, Imm.le.refl _, hw, .slice none 0 0, by rw [hres], rfl, by rw [hres]⟩
          ·
            have hres : orderRes preds ranks = (orderL preds ranks, 0) := by unfold orderRes; rw [if_pos ⟨hlen, hf⟩, if_neg (by omega)]
            refine K_skip ?_
            refine K_then ?_
            refine K_seq ?_
            refine K_region ?_
            refine W_y (y_move rfl) rfl rfl rfl ?_
            refine W_y (y_assign rfl) rfl rfl rfl ?_
            refine W_y (y_assign rfl) rfl rfl rfl ?_
            refine K_nil ?_
            refine K_then ?_
            refine K_ret ?_
            refine K_out2 rfl (.tmp rfl) (.tmp rfl) ?_
            first
              | exact fun w hw => ⟨_, _, _, rfl, Imm.le.refl _, hw, ov, by rw [hres], rfl, by rw [hres]⟩
              | exact fun w hw => ⟨_, _, _, rfl, Imm.le.refl _, hw, .slice none 0 0, by rw [hres], rfl, by rw [hres]⟩
        ·
          obtain ⟨b, hbe⟩ : ∃ b, bestK preds ranks out preds.length = some b := Option.ne_none_iff_exists'.1 (fun e => h12 (bvP_neg.2 e))
          have hb := bestK_some hbe
          have hlt := hW.lt hb
          have hbn := hb.1
          refine K_skip ?_
          refine K_then ?_
          refine K_seq ?_
          refine K_region ?_
          refine W_y (y_move rfl) rfl rfl rfl ?_
          refine W_y (y_move rfl) rfl rfl rfl ?_
          refine W_y (y_ixN b (y_ixv tab rfl rfl rfl rfl (by rw [hbe]; simp only [bvP]; omega) (by rw [hbe]; simp only [bvP]; omega)) (by rw [hbe]; rfl)) rfl rfl rfl ?_
          refine W_a (a_ste (e := eBool) (i := b) (a' := true) tab rfl rfl rfl rfl rfl rfl (get_of false (by rw [inP, tb_len]; omega)) rfl rfl ?_) rfl
          rw [inP_set]
          refine K_nil ?_
          refine K_then ?_
          refine K_region ?_
          refine W_y (y_move rfl) rfl rfl rfl ?_
          refine W_y (y_move rfl) rfl rfl rfl ?_
          refine W_a (a_bs (e := eInt) (xs := [(b : Int)]) (os := [.tmp 81]) tab rfl rfl rfl rfl rfl rfl (by rw [hbe]; rfl) rfl rfl ?_) rfl
          intro b82
          refine K_f2 ?_
          refine W_a (a_app (e := eInt) (ys := [(b : Int)]) tab rfl rfl rfl rfl rfl (rd_rowall .here) (by simp only [List.length_singleton]; omega) rfl ?_) rfl
          intro v83
          refine K_f1 (K_drop (K_f1 ?_))
          refine W_y (y_assign rfl) rfl rfl rfl ?_
          refine K_nil ?_
          refine K_in ?_
          refine K_thenA ?_
          exact K_back (v83, out ++ [(b : Int)]) rfl (by repeat first | exact .nil _ | refine .cons rfl ?_) rfl (hW.step hb) (by simp only [List.length_append, List.length_singleton]; omega)
end Go.Proofs.YtfnmcpgajjkemaaDoor
