/- CopyVars, CopyNeeds, CopySteps, CopyRules, CopyInsts. Printed by wip/gen/g22.py. -/
import Derived.Test.YtfnmcpgajjkemaaDoorG18
import Derived.Test.YtfnmcpgajjkemaaDoorEqb
namespace Go.Proofs.YtfnmcpgajjkemaaDoor
open Go Go.RowKit Go.Proofs.YtfnmcpgajjkemaaDoor.SW
set_option maxRecDepth 100000
set_option maxHeartbeats 400000
def eStep : Enc (Int × ByteArray) := ⟨2, fun x => [.int .i64 x.1, .string x.2], fun _ => rfl, by decide, fun x v h => by simp at h; rcases h with rfl | rfl <;> rfl⟩
structure RuleV where
  code : SV
  when_ : Int
def RuleV.cells (x : RuleV) : List Value := [x.code.1, .int .i64 x.when_]
def eRule : Enc RuleV := ⟨2, RuleV.cells, fun _ => rfl, by decide, fun x v h => by
  simp only [RuleV.cells, List.mem_cons, List.not_mem_nil, or_false] at h
  rcases h with rfl | rfl <;> first | rfl | exact x.code.2⟩
def rule0 : RuleV := ⟨svnil, 0⟩
def RuleOk (I : Imm) (r : RuleV) : Prop := ∃ cs, RowI eStep I r.code.1 cs ∧ cs.length ≤ 1048576
theorem RuleOk.mono {I J : Imm} {r : RuleV} (h : RuleOk I r) (k : I.le J) : RuleOk J r := by obtain ⟨cs, h1, h2⟩ := h; exact ⟨cs, h1.mono k, h2⟩
/-- A list of rules that can be read. -/
def RulesOk (I : Imm) (v : Value) : Prop := ∃ rs, RowI eRule I v rs ∧ rs.length ≤ 1048576 ∧ ∀ k, k < rs.length → RuleOk I (rs.getD k rule0)
theorem RulesOk.mono {I J : Imm} {v : Value} (h : RulesOk I v) (k : I.le J) : RulesOk J v := by obtain ⟨rs, h1, h2, h3⟩ := h; exact ⟨rs, h1.mono k, h2, fun i hi => (h3 i hi).mono k⟩
/-- An instance that can be read whole. -/
structure InstF (I : Imm) (r : InstV) (p : InstP) : Prop where
  ok : InstOk I r p
  vars : p.vars.length ≤ 1048576
  pick : ∃ pk, RowI eStr2 I r.pick.1 pk ∧ pk.length ≤ 1048576
  rules : RulesOk I r.rules.1
theorem InstF.mono {I J : Imm} {r : InstV} {p : InstP} (h : InstF I r p) (k : I.le J) : InstF J r p := ⟨h.ok.mono k, h.vars, by obtain ⟨pk, h1, h2⟩ := h.pick; exact ⟨pk, h1.mono k, h2⟩, h.rules.mono k⟩
def wPick (r : InstV) (u : SV) : InstV := { r with pick := u }
def wVars (r : InstV) (u : SV) : InstV := { r with vars := u }
def wNeeds (r : InstV) (u : SV) : InstV := { r with needs := u }
def wRules (r : InstV) (u : SV) : InstV := { r with rules := u }
theorem snocs {α : Type} {Q : α → Prop} {d : α} {xs : List α} {x : α} {n : Nat} (hl : xs.length = n) (h : ∀ i, i < n → Q (xs.getD i d)) (hx : Q x) : ∀ i, i < n + 1 → Q ((xs ++ [x]).getD i d) := fun i hi => by
  subst hl
  rcases Nat.lt_succ_iff_lt_or_eq.1 hi with h1 | rfl
  · rw [List.getD_eq_getElem?_getD, List.getElem?_append_left h1, ← List.getD_eq_getElem?_getD]; exact h i h1
  · rw [List.getD_eq_getElem?_getD, List.getElem?_append_right (Nat.le_refl _)]; simpa using hx
theorem snocs2 {α : Type} {Q : Nat → α → Prop} {d : α} {xs : List α} {x : α} {n : Nat} (hl : xs.length = n) (h : ∀ i, i < n → Q i (xs.getD i d)) (hx : Q n x) : ∀ i, i < n + 1 → Q i ((xs ++ [x]).getD i d) := fun i hi => by
  subst hl
  rcases Nat.lt_succ_iff_lt_or_eq.1 hi with h1 | rfl
  · rw [List.getD_eq_getElem?_getD, List.getElem?_append_left h1, ← List.getD_eq_getElem?_getD]; exact h i h1
  · rw [List.getD_eq_getElem?_getD, List.getElem?_append_right (Nat.le_refl _)]; simpa using hx
theorem f34_ok {I : Imm} {l : List Itm} {v : Value} {xs : List _} (hr : RowI eStr2 I v xs) (hm : xs.length ≤ 1048576) :
    Ct Tryd.prog 34 [v] I l (fun r J m => I = J ∧ m = row eStr2 51 r xs :: l) := by
  refine Ct_enter Tryd.func34 rfl rfl rfl ?_
  refine K_seq ?_
  refine K_region ?_
  refine W_y (y_assign rfl) rfl rfl rfl ?_
  refine K_nil ?_
  refine K_then ?_
  refine K_seq ?_
  refine K_region ?_
  refine W_a (a_bs0 (e := eStr2) tab rfl rfl rfl ?_) rfl
  intro b3
  refine W_y (y_move rfl) rfl rfl rfl ?_
  refine W_a (a_appi (e := eStr2) tab hr rfl rfl rfl rfl rfl (by simp only [List.length_nil]; omega) rfl ?_) rfl
  intro v5
  rw [List.nil_append]
  refine W_y (y_assign rfl) rfl rfl rfl ?_
  refine K_nil ?_
  refine K_then ?_
  refine K_ret ?_
  refine K_out1 rfl (.tmp rfl) ?_
  exact fun w hw => ⟨_, _, _, rfl, Imm.le.refl _, hw, rfl, rfl⟩
theorem f35_ok {I : Imm} {l : List Itm} {v : Value} {xs : List _} (hr : RowI eNeed I v xs) (hm : xs.length ≤ 1048576) :
    Ct Tryd.prog 35 [v] I l (fun r J m => I = J ∧ m = row eNeed 53 r xs :: l) := by
  refine Ct_enter Tryd.func35 rfl rfl rfl ?_
  refine K_seq ?_
  refine K_region ?_
  refine W_y (y_assign rfl) rfl rfl rfl ?_
  refine K_nil ?_
  refine K_then ?_
  refine K_seq ?_
  refine K_region ?_
  refine W_a (a_bs0 (e := eNeed) tab rfl rfl rfl ?_) rfl
  intro b3
  refine W_y (y_move rfl) rfl rfl rfl ?_
  refine W_a (a_appi (e := eNeed) tab hr rfl rfl rfl rfl rfl (by simp only [List.length_nil]; omega) rfl ?_) rfl
  intro v5
  rw [List.nil_append]
  refine W_y (y_assign rfl) rfl rfl rfl ?_
  refine K_nil ?_
  refine K_then ?_
  refine K_ret ?_
  refine K_out1 rfl (.tmp rfl) ?_
  exact fun w hw => ⟨_, _, _, rfl, Imm.le.refl _, hw, rfl, rfl⟩
theorem f46_ok {I : Imm} {l : List Itm} {v : Value} {xs : List _} (hr : RowI eStep I v xs) (hm : xs.length ≤ 1048576) :
    Ct Tryd.prog 46 [v] I l (fun r J m => I = J ∧ m = row eStep 156 r xs :: l) := by
  refine Ct_enter Tryd.func46 rfl rfl rfl ?_
  refine K_seq ?_
  refine K_region ?_
  refine W_y (y_assign rfl) rfl rfl rfl ?_
  refine K_nil ?_
  refine K_then ?_
  refine K_seq ?_
  refine K_region ?_
  refine W_a (a_bs0 (e := eStep) tab rfl rfl rfl ?_) rfl
  intro b3
  refine W_y (y_move rfl) rfl rfl rfl ?_
  refine W_a (a_appi (e := eStep) tab hr rfl rfl rfl rfl rfl (by simp only [List.length_nil]; omega) rfl ?_) rfl
  intro v5
  rw [List.nil_append]
  refine W_y (y_assign rfl) rfl rfl rfl ?_
  refine K_nil ?_
  refine K_then ?_
  refine K_ret ?_
  refine K_out1 rfl (.tmp rfl) ?_
  exact fun w hw => ⟨_, _, _, rfl, Imm.le.refl _, hw, rfl, rfl⟩
theorem f36_ok {I : Imm} {l : List Itm} {v : Value} (hr : RulesOk I v) : Ct Tryd.prog 36 [v] I l (fun r J m => RulesOk J r ∧ r.oneCell' = true ∧ l = m) := by
  refine Ct_enter Tryd.func36 rfl rfl rfl ?_
  obtain ⟨rs, hrow, hlen, hall⟩ := hr
  have hc := hrow.sc
  refine K_seq ?_
  refine K_region ?_
  refine W_y (y_assign rfl) rfl rfl rfl ?_
  refine K_nil ?_
  refine K_then ?_
  refine K_seq ?_
  refine K_region ?_
  refine W_y (y_assign rfl) rfl rfl rfl ?_
  refine K_nil ?_
  refine K_then ?_
  refine K_seq ?_
  refine K_seq ?_
  refine K_region ?_
  refine W_y (y_assign rfl) rfl rfl rfl ?_
  refine K_nil ?_
  refine K_then ?_
  refine K_block ?_
  refine K_nilrow eRule 89 ?_
  refine K_lp (σ := Nat × Value × List RuleV × Imm) (fun s => s.2.2.2) (fun s => [(0, v), (3, s.2.1), (4, .int .i64 s.1)]) (fun s => row eRule 89 s.2.1 s.2.2.1 :: l) (fun s => s.1 ≤ rs.length ∧ I.le s.2.2.2 ∧ s.2.2.1.length = s.1 ∧ ∀ i, i < s.1 → RuleOk s.2.2.2 (s.2.2.1.getD i rule0)) (fun s => rs.length - s.1) (0, .slice none 0 0, [], I) rfl (by repeat first | exact .nil _ | refine .cons rfl ?_) rfl ⟨Nat.zero_le _, Imm.le.refl _, rfl, fun i h => absurd h (Nat.not_lt_zero i)⟩ ?_
  rintro ⟨k, pv, rs', J⟩ ⟨hk, hJ, hpl, hrows⟩
  simp only at hk hJ hpl hrows ⊢
  refine K_seq ?_
  refine K_seq ?_
  refine K_region ?_
  refine W_y (y_move rfl) rfl rfl rfl ?_
  refine W_y (y_move rfl) rfl rfl rfl ?_
  refine W_y (by first | exact y_lenc tab (by assumption) rfl rfl | exact y_lens tab rfl rfl | exact y_lenstr tab rfl rfl) rfl rfl rfl ?_
  refine W_y (y_lt rfl rfl) rfl rfl rfl ?_
  refine K_nil ?_
  refine K_then ?_
  first | refine K_if rfl (fun h1 => ?_) (fun h1 => ?_) | refine K_ifn rfl (fun h1 => ?_) (fun h1 => ?_) | refine K_cond rfl (fun h1 => ?_) (fun h1 => ?_)
  ·
    have hkl : k < rs.length := by omega
    obtain ⟨cs, hcs, hcl⟩ := hall k hkl
    refine K_skip ?_
    refine K_then ?_
    refine K_seq ?_
    refine K_block ?_
    refine K_draw [(0, 3, []), (1, 3, []), (2, 3, []), (3, 3, []), (4, 3, []), (5, 0, []), (7, 3, []), (8, 3, []), (9, 3, []), (10, 3, []), (11, 0, []), (6, 1, []), (12, 3, []), (13, 1, []), (14, 1, []), (15, 3, [])] [] [] rfl (by kernel_rfl) (by intro c a d v w h; cases d <;> exact h) ?_
    refine D_f rfl (fun _ _ => y_move rfl) rfl rfl rfl ?_
    refine D_f rfl (fun _ _ => y_move rfl) rfl rfl rfl ?_
    refine D_f rfl (fun _ _ => y_move rfl) rfl rfl rfl ?_
    refine D_f rfl (fun _ _ => y_ixi tab hrow rfl rfl rfl rfl (by omega)) rfl rfl rfl ?_
    refine D_f rfl (fun _ _ => y_fae tab (hrow.sl (by omega)) rfl rfl rfl rfl rfl) rfl rfl rfl ?_
    refine D_y rfl (y_load rfl (ld_rowi (i := k) (j := 0) tab (hrow.mono hJ) rfl rfl (get_of rule0 (by omega)) rfl)) rfl rfl rfl ?_
    refine D_f rfl (fun _ _ => y_move rfl) rfl rfl rfl ?_
    refine D_f rfl (fun _ _ => y_move rfl) rfl rfl rfl ?_
    refine D_f rfl (fun _ _ => y_ixi tab hrow rfl rfl rfl rfl (by omega)) rfl rfl rfl ?_
    refine D_f rfl (fun _ _ => y_fae tab (hrow.sl (by omega)) rfl rfl rfl rfl rfl) rfl rfl rfl ?_
    refine D_y rfl (y_load rfl (ld_rowi (i := k) (j := 1) tab (hrow.mono hJ) rfl rfl (get_of rule0 (by omega)) rfl)) rfl rfl rfl ?_
    refine D_a1 (fun _ h => h.sublist (by repeat first | exact List.nil_sublist _ | exact List.Sublist.refl _ | apply List.Sublist.cons_cons | apply List.Sublist.cons)) rfl (a_call (enters_of Tryd.func46 (by kernel_rfl) rfl) rfl (f46_ok (hcs.mono hJ) hcl) rfl ?_) rfl
    rintro v17 _ _ - ⟨rfl, rfl⟩
    refine K_ocv .here (fun ho => ?_)
    refine D_f rfl (fun _ _ => y_buildc tab rfl rfl rfl rfl (cvs := [(0, [v17]), (1, [.int .i64 (rs.getD k rule0).when_])]) (by simp only [List.map_cons, List.map_nil, cells_one ho]; rfl) rfl) rfl rfl rfl ?_
    refine D_a1 (fun _ h => h.sublist (by repeat first | exact List.nil_sublist _ | exact List.Sublist.refl _ | apply List.Sublist.cons_cons | apply List.Sublist.cons)) rfl (a_bs (e := eRule) (xs := [⟨⟨v17, ho⟩, (rs.getD k rule0).when_⟩]) (os := [.tmp 23]) tab rfl rfl rfl rfl rfl rfl rfl rfl rfl ?_) rfl
    intro b24
    refine K_f2 ?_
    refine D_a1 (fun _ h => h.sublist (by repeat first | exact List.nil_sublist _ | exact List.Sublist.refl _ | apply List.Sublist.cons_cons | apply List.Sublist.cons)) rfl (a_app (e := eRule) (ys := [⟨⟨v17, ho⟩, (rs.getD k rule0).when_⟩]) tab rfl rfl rfl rfl rfl (rd_rowall .here) (by simp only [List.length_singleton]; omega) rfl ?_) rfl
    intro v25
    refine K_f1 (K_drop (K_f1 ?_))
    refine D_f rfl (fun _ _ => y_assign rfl) rfl rfl rfl ?_
    refine D_nil (fun _ h => h.sublist (by repeat first | exact List.nil_sublist _ | exact List.Sublist.refl _ | apply List.Sublist.cons_cons | apply List.Sublist.cons)) ?_
    refine K_in ?_
    refine K_then ?_
    refine K_give (fun J2 hJ2 hcs2 => ?_)
    refine K_region ?_
    refine W_y (y_move rfl) rfl rfl rfl ?_
    refine W_y (y_add rfl rfl (by omega)) rfl rfl rfl ?_
    refine W_y (y_assign rfl) rfl rfl rfl ?_
    refine K_nil ?_
    refine K_thenA ?_
    exact K_back (k + 1, v25, rs' ++ [⟨⟨v17, ho⟩, (rs.getD k rule0).when_⟩], J2) rfl (by repeat first | exact .nil _ | refine .cons rfl ?_) rfl ⟨by simp only; omega, hJ.trans hJ2, by simp only [List.length_append, List.length_singleton]; omega, snocs hpl (fun i hi' => (hrows i hi').mono hJ2) ⟨cs, hcs2, hcl⟩⟩ (by simp only; omega)
  ·
    have hke : k = rs.length := by omega
    subst hke
    refine K_ocv .here (fun hout => ?_)
    refine K_give (fun J3 hJ3 htop => ?_)
    refine K_exit ?_
    refine K_then_exit ?_
    refine K_then_exit ?_
    refine K_in_exit ?_
    refine K_then ?_
    refine K_seq ?_
    refine K_region ?_
    refine W_y (y_move rfl) rfl rfl rfl ?_
    refine W_y (y_assign rfl) rfl rfl rfl ?_
    refine K_nil ?_
    refine K_then ?_
    refine K_ret ?_
    refine K_out1 rfl (.tmp rfl) ?_
    exact fun w hw => ⟨_, _, _, rfl, hJ.trans hJ3, hw, ⟨rs', htop, by omega, fun i hi => (hrows i (by omega)).mono hJ3⟩, hout, rfl⟩
theorem f22_ok {I : Imm} {l : List Itm} {v : Value} {raws : List InstV} {insts : List InstP} (hi : Insts I v raws insts) (hF : ∀ k, k < raws.length → InstF I (raws.getD k inst0) (insts.getD k ip0)) :
    Ct Tryd.prog 22 [v] I l (fun r J m => ∃ raws', m = row eInst 46 r raws' :: l ∧ raws'.length = raws.length ∧ ∀ k, k < raws.length → InstF J (raws'.getD k inst0) (insts.getD k ip0)) := by
  refine Ct_enter Tryd.func22 rfl rfl rfl ?_
  have hrow := hi.row
  have hc := hrow.sc
  have hfew := hi.few
  refine K_seq ?_
  refine K_region ?_
  refine W_y (y_assign rfl) rfl rfl rfl ?_
  refine K_nil ?_
  refine K_then ?_
  refine K_seq ?_
  refine K_region ?_
  refine W_y (y_assign rfl) rfl rfl rfl ?_
  refine K_nil ?_
  refine K_then ?_
  refine K_seq ?_
  refine K_seq ?_
  refine K_region ?_
  refine W_y (y_assign rfl) rfl rfl rfl ?_
  refine K_nil ?_
  refine K_then ?_
  refine K_block ?_
  refine K_nilrow eInst 46 ?_
  refine K_lp (σ := Nat × Value × List InstV × Imm) (fun s => s.2.2.2) (fun s => [(0, v), (3, s.2.1), (4, .int .i64 s.1)]) (fun s => row eInst 46 s.2.1 s.2.2.1 :: l) (fun s => s.1 ≤ raws.length ∧ I.le s.2.2.2 ∧ s.2.2.1.length = s.1 ∧ ∀ i, i < s.1 → InstF s.2.2.2 (s.2.2.1.getD i inst0) (insts.getD i ip0)) (fun s => raws.length - s.1) (0, .slice none 0 0, [], I) rfl (by repeat first | exact .nil _ | refine .cons rfl ?_) rfl ⟨Nat.zero_le _, Imm.le.refl _, rfl, fun i h => absurd h (Nat.not_lt_zero i)⟩ ?_
  rintro ⟨k, pv, rs', J⟩ ⟨hk, hJ, hpl, hrows⟩
  simp only at hk hJ hpl hrows ⊢
  refine K_seq ?_
  refine K_seq ?_
  refine K_region ?_
  refine W_y (y_move rfl) rfl rfl rfl ?_
  refine W_y (y_move rfl) rfl rfl rfl ?_
  refine W_y (by first | exact y_lenc tab (by assumption) rfl rfl | exact y_lens tab rfl rfl | exact y_lenstr tab rfl rfl) rfl rfl rfl ?_
  refine W_y (y_lt rfl rfl) rfl rfl rfl ?_
  refine K_nil ?_
  refine K_then ?_
  first | refine K_if rfl (fun h1 => ?_) (fun h1 => ?_) | refine K_ifn rfl (fun h1 => ?_) (fun h1 => ?_) | refine K_cond rfl (fun h1 => ?_) (fun h1 => ?_)
  ·
    have hkl : k < raws.length := by omega
    have hFk := hF k hkl
    obtain ⟨pk, hpick, hpl0⟩ := hFk.pick
    refine K_skip ?_
    refine K_then ?_
    refine K_seq ?_
    refine K_block ?_
    refine K_seq ?_
    refine K_region ?_
    refine W_y (y_move rfl) rfl rfl rfl ?_
    refine W_y (y_move rfl) rfl rfl rfl ?_
    refine W_y (y_ixi tab hrow rfl rfl rfl rfl (by omega)) rfl rfl rfl ?_
    refine W_y (y_load rfl (ld_rowia (i := k) tab (hrow.mono hJ) rfl rfl rfl rfl (get_of inst0 (by omega)))) rfl rfl rfl ?_
    refine W_a (a_alloc tab rfl rfl ?_) rfl
    intro b5
    refine W_a (a_stw (us := eInst.cells (raws.getD k inst0)) tab rfl rfl rfl rfl (eInst.one _) rfl ?_) rfl
    refine K_nil ?_
    refine K_then ?_
    refine K_seq ?_
    refine K_region ?_
    refine W_y (by first | exact y_fa tab rfl rfl rfl rfl rfl | exact y_fae tab (by assumption) rfl rfl rfl rfl rfl) rfl rfl rfl ?_
    refine W_y (y_load rfl (ld_cell tab rfl (rd_one .here rfl))) rfl rfl rfl ?_
    refine W_a (a_call (enters_of Tryd.func34 (by kernel_rfl) rfl) rfl (f34_ok (hpick.mono hJ) hpl0) rfl ?_) rfl
    rintro v18 _ _ - ⟨rfl, rfl⟩
    refine K_ocv .here (fun h18 => ?_)
    refine K_give (fun Ja hJa hpick2 => ?_)
    refine W_y (by first | exact y_fa tab rfl rfl rfl rfl rfl | exact y_fae tab (by assumption) rfl rfl rfl rfl rfl) rfl rfl rfl ?_
    refine W_a (a_st tab rfl rfl rfl rfl h18 rfl ?_) rfl
    rw [show ((eInst.cells (raws.getD k inst0)).toArray).setIfInBounds 2 v18 = (eInst.cells (wPick (raws.getD k inst0) ⟨v18, h18⟩)).toArray from rfl]
    refine K_nil ?_
    refine K_then ?_
    refine K_seq ?_
    refine K_region ?_
    refine W_y (by first | exact y_fa tab rfl rfl rfl rfl rfl | exact y_fae tab (by assumption) rfl rfl rfl rfl rfl) rfl rfl rfl ?_
    refine W_y (y_load rfl (ld_cell tab rfl (rd_one .here rfl))) rfl rfl rfl ?_
    refine W_a (a_call (enters_of Tryd.func34 (by kernel_rfl) rfl) rfl (f34_ok ((hFk.ok.vars.mono hJ).mono hJa) hFk.vars) rfl ?_) rfl
    rintro v22 _ _ - ⟨rfl, rfl⟩
    refine K_ocv .here (fun h22 => ?_)
    refine K_give (fun Jb hJb hvars2 => ?_)
    refine W_y (by first | exact y_fa tab rfl rfl rfl rfl rfl | exact y_fae tab (by assumption) rfl rfl rfl rfl rfl) rfl rfl rfl ?_
    refine W_a (a_st tab rfl rfl rfl rfl h22 rfl ?_) rfl
    rw [show ((eInst.cells (wPick (raws.getD k inst0) ⟨v18, h18⟩)).toArray).setIfInBounds 3 v22 = (eInst.cells (wVars (wPick (raws.getD k inst0) ⟨v18, h18⟩) ⟨v22, h22⟩)).toArray from rfl]
    refine K_nil ?_
    refine K_then ?_
    refine K_seq ?_
    refine K_region ?_
    refine W_y (by first | exact y_fa tab rfl rfl rfl rfl rfl | exact y_fae tab (by assumption) rfl rfl rfl rfl rfl) rfl rfl rfl ?_
    refine W_y (y_load rfl (ld_cell tab rfl (rd_one .here rfl))) rfl rfl rfl ?_
    refine W_a (a_call (enters_of Tryd.func35 (by kernel_rfl) rfl) rfl (f35_ok (((hFk.ok.needs.mono hJ).mono hJa).mono hJb) hFk.ok.few) rfl ?_) rfl
    rintro v26 _ _ - ⟨rfl, rfl⟩
    refine K_ocv .here (fun h26 => ?_)
    refine K_give (fun Jc hJc hneeds2 => ?_)
    refine W_y (by first | exact y_fa tab rfl rfl rfl rfl rfl | exact y_fae tab (by assumption) rfl rfl rfl rfl rfl) rfl rfl rfl ?_
    refine W_a (a_st tab rfl rfl rfl rfl h26 rfl ?_) rfl
    rw [show ((eInst.cells (wVars (wPick (raws.getD k inst0) ⟨v18, h18⟩) ⟨v22, h22⟩)).toArray).setIfInBounds 5 v26 = (eInst.cells (wNeeds (wVars (wPick (raws.getD k inst0) ⟨v18, h18⟩) ⟨v22, h22⟩) ⟨v26, h26⟩)).toArray from rfl]
    refine K_nil ?_
    refine K_then ?_
    refine K_seq ?_
    refine K_region ?_
    refine W_y (by first | exact y_fa tab rfl rfl rfl rfl rfl | exact y_fae tab (by assumption) rfl rfl rfl rfl rfl) rfl rfl rfl ?_
    refine W_y (y_load rfl (ld_cell tab rfl (rd_one .here rfl))) rfl rfl rfl ?_
    refine W_a (a_call (enters_of Tryd.func36 (by kernel_rfl) rfl) rfl (f36_ok ((((hFk.rules.mono hJ).mono hJa).mono hJb).mono hJc)) rfl ?_) rfl
    rintro v30 Jd _ hJd ⟨hrules2, h30, rfl⟩
    refine W_y (by first | exact y_fa tab rfl rfl rfl rfl rfl | exact y_fae tab (by assumption) rfl rfl rfl rfl rfl) rfl rfl rfl ?_
    refine W_a (a_st tab rfl rfl rfl rfl h30 rfl ?_) rfl
    rw [show ((eInst.cells (wNeeds (wVars (wPick (raws.getD k inst0) ⟨v18, h18⟩) ⟨v22, h22⟩) ⟨v26, h26⟩)).toArray).setIfInBounds 10 v30 = (eInst.cells (wRules (wNeeds (wVars (wPick (raws.getD k inst0) ⟨v18, h18⟩) ⟨v22, h22⟩) ⟨v26, h26⟩) ⟨v30, h30⟩)).toArray from rfl]
    refine K_nil ?_
    refine K_then ?_
    refine K_region ?_
    refine W_y (y_move rfl) rfl rfl rfl ?_
    refine W_y (y_load rfl (ld_agg tab rfl rfl rfl (rd_all .here))) rfl rfl rfl ?_
    refine W_a (a_bs (e := eInst) (xs := [(wRules (wNeeds (wVars (wPick (raws.getD k inst0) ⟨v18, h18⟩) ⟨v22, h22⟩) ⟨v26, h26⟩) ⟨v30, h30⟩)]) (os := [.tmp 33]) tab rfl rfl rfl rfl rfl rfl rfl rfl rfl ?_) rfl
    intro b34
    refine K_f2 ?_
    refine W_a (a_app (e := eInst) (ys := [(wRules (wNeeds (wVars (wPick (raws.getD k inst0) ⟨v18, h18⟩) ⟨v22, h22⟩) ⟨v26, h26⟩) ⟨v30, h30⟩)]) tab rfl rfl rfl rfl rfl (rd_rowall .here) (by simp only [List.length_singleton]; omega) rfl ?_) rfl
    intro v35
    refine K_f1 (K_drop (K_f1 (K_drop ?_)))
    refine W_y (y_assign rfl) rfl rfl rfl ?_
    refine K_nil ?_
    refine K_in ?_
    refine K_then ?_
    refine K_region ?_
    refine W_y (y_move rfl) rfl rfl rfl ?_
    refine W_y (y_add rfl rfl (by omega)) rfl rfl rfl ?_
    refine W_y (y_assign rfl) rfl rfl rfl ?_
    refine K_nil ?_
    refine K_thenA ?_
    have hJ2 := hJa.trans (hJb.trans (hJc.trans hJd))
    exact K_back (k + 1, v35, rs' ++ [(wRules (wNeeds (wVars (wPick (raws.getD k inst0) ⟨v18, h18⟩) ⟨v22, h22⟩) ⟨v26, h26⟩) ⟨v30, h30⟩)], Jd) rfl (by repeat first | exact .nil _ | refine .cons rfl ?_) rfl ⟨by simp only; omega, hJ.trans hJ2, by simp only [List.length_append, List.length_singleton]; omega, snocs2 (Q := fun i x => InstF Jd x (insts.getD i ip0)) hpl (fun i hi' => (hrows i hi').mono hJ2) ⟨⟨hFk.ok.name, (hvars2.mono hJc).mono hJd, hneeds2.mono hJd, hFk.ok.stage, hFk.ok.has, hFk.ok.at_, hFk.ok.texts, hFk.ok.few⟩, hFk.vars, ⟨pk, ((hpick2.mono hJb).mono hJc).mono hJd, hpl0⟩, hrules2⟩⟩ (by simp only; omega)
  ·
    have hke : k = raws.length := by omega
    subst hke
    refine K_exit ?_
    refine K_then_exit ?_
    refine K_then_exit ?_
    refine K_in_exit ?_
    refine K_then ?_
    refine K_seq ?_
    refine K_region ?_
    refine W_y (y_move rfl) rfl rfl rfl ?_
    refine W_y (y_assign rfl) rfl rfl rfl ?_
    refine K_nil ?_
    refine K_then ?_
    refine K_ret ?_
    refine K_out1 rfl (.tmp rfl) ?_
    exact fun w hw => ⟨_, _, _, rfl, hJ, hw, rs', rfl, hpl, hrows⟩
end Go.Proofs.YtfnmcpgajjkemaaDoor
