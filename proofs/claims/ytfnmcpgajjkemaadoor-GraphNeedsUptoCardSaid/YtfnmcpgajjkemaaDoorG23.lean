/- GraphStages. Printed by wip/gen/g23.py. -/
import Derived.Test.YtfnmcpgajjkemaaDoorG22
import Derived.Test.YtfnmcpgajjkemaaDoorG19
namespace Go.Proofs.YtfnmcpgajjkemaaDoor
open Go Go.RowKit Go.Proofs.YtfnmcpgajjkemaaDoor.SW
set_option maxRecDepth 100000
set_option maxHeartbeats 400000
theorem allP_mem {q : Nat → Bool} {n : Nat} {x : Int} : x ∈ allP q n ↔ ∃ k : Nat, k < n ∧ q k = true ∧ x = (k : Int) := by
  simp only [allP, List.mem_map, List.mem_filter, List.mem_range]
  exact ⟨fun ⟨k, ⟨h1, h2⟩, h3⟩ => ⟨k, h1, h2, h3.symm⟩, fun ⟨k, h1, h2, h3⟩ => ⟨k, ⟨h1, h2⟩, h3.symm⟩⟩
theorem allP_rise (q : Nat → Bool) (n : Nat) : (allP q n).Pairwise (· < ·) := by
  unfold allP
  rw [List.pairwise_map]
  exact ((List.pairwise_lt_range (n := n)).filter q).imp (fun h => by omega)
theorem getD_of {α : Type} {xs : List α} {i : Nat} (d : α) (h : i < xs.length) : xs.getD i d = xs[i] := by
  rw [List.getD_eq_getElem?_getD, List.getElem?_eq_getElem h]; rfl
theorem formOk_of {xss : List (List Int)} (h : ∀ i, i < xss.length → (xss.getD i []).Pairwise (· < ·) ∧ ∀ p, p ∈ xss.getD i [] → 0 ≤ p ∧ p < xss.length) : formOk xss := fun i hi k hk => by
  obtain ⟨h1, h2⟩ := h i hi
  rw [badAt_false]
  have hm := h2 _ (getD_mem (i := k) 0 hk)
  refine ⟨hm.1, hm.2, fun h0 => ?_⟩
  have := List.pairwise_iff_getElem.1 h1 (k - 1) k (by omega) hk (by omega)
  rw [getD_of 0 hk, getD_of 0 (show k - 1 < _ by omega)]
  exact this
theorem exists_min (f : Int → Int) : ∀ (xs : List Int), xs ≠ [] → ∃ x, x ∈ xs ∧ ∀ y, y ∈ xs → f x ≤ f y
  | [], h => absurd rfl h
  | [x], _ => ⟨x, List.mem_cons_self .., fun y hy => by rw [List.mem_singleton] at hy; subst hy; exact Int.le_refl _⟩
  | x :: z :: xs, _ => by
    obtain ⟨m, hm, hmin⟩ := exists_min f (z :: xs) (by simp)
    by_cases h : f x ≤ f m
    · refine ⟨x, List.mem_cons_self .., fun y hy => ?_⟩
      rcases List.mem_cons.1 hy with rfl | hy
      · exact Int.le_refl _
      · exact Int.le_trans h (hmin y hy)
    · refine ⟨m, List.mem_cons_of_mem _ hm, fun y hy => ?_⟩
      rcases List.mem_cons.1 hy with rfl | hy
      · omega
      · exact hmin y hy
/-- Where some have ranks of their own that all preds are below, there is no cycle. -/
theorem order_full {preds : List (List Int)} {ranks : List Int} (hf : formOk preds) (f : Int → Int) (h : ∀ x : Int, 0 ≤ x → x < preds.length → ∀ p, p ∈ preds.getD x.toNat [] → f p < f x) : (orderL preds ranks).length = preds.length := by
  have hle := (orderL_onWay (preds := preds) (ranks := ranks)).1.le
  refine Classical.byContradiction fun hne => ?_
  have h1 := leftP_ne (n := preds.length) (ord := orderL preds ranks) (by omega)
  obtain ⟨x, hx, hmin⟩ := exists_min f _ (List.length_pos_iff.1 h1)
  obtain ⟨p, hp, hpl⟩ := left_waits hf hx
  have hr := leftP_mem.1 hx
  have := h x hr.1 hr.2.1 p hp
  have := hmin p hpl
  omega
theorem orderRes_full {preds : List (List Int)} {ranks : List Int} (hf : formOk preds) (hl : ranks.length = preds.length) (h : (orderL preds ranks).length = preds.length) : (orderRes preds ranks).2 = 0 := by
  unfold orderRes
  rw [if_pos ⟨hl, hf⟩, if_neg (by omega)]
theorem buildP_of {insts : List InstP} (hn : ∀ i, i < insts.length → (predsOf insts i).2.code = 0) (ho : (orderRes (predsL insts) (ranksL insts)).2 = 0) : buildP insts = (predsL insts, fault0) := by
  unfold buildP
  rw [range_miss (fun i hi => by unfold predErr; rw [if_pos (hn i hi)])]
  simp only
  rw [if_pos ho]
theorem predsL_len {insts : List InstP} : (predsL insts).length = insts.length := tb_len
theorem ranksL_len {insts : List InstP} : (ranksL insts).length = insts.length := tb_len
theorem predsL_get {insts : List InstP} {i : Nat} (h : i < insts.length) : (predsL insts).getD i [] = (predsOf insts i).1 := tb_get [] h
/-- Without needs there is never a cycle. -/
theorem stages_ok {insts : List InstP} (h : ∀ i, i < insts.length → (insts.getD i ip0).has = false) : buildP insts = (predsL insts, fault0) ∧ ∀ i, i < insts.length → (predsL insts).getD i [] = allP (stageQ insts i) insts.length := by
  have hp : ∀ i, i < insts.length → predsOf insts i = (allP (stageQ insts i) insts.length, fault0) := fun i hi => by unfold predsOf; rw [if_neg (by rw [h i hi]; decide)]
  have hg : ∀ i, i < insts.length → (predsL insts).getD i [] = allP (stageQ insts i) insts.length := fun i hi => by rw [predsL_get hi, hp i hi]
  have hf : formOk (predsL insts) := formOk_of fun i hi => by
    rw [predsL_len] at hi ⊢
    rw [hg i hi]
    refine ⟨allP_rise _ _, fun p hp' => ?_⟩
    obtain ⟨k, hk, _, rfl⟩ := allP_mem.1 hp'
    omega
  refine ⟨buildP_of (fun i hi => by rw [hp i hi]; rfl) (orderRes_full hf (by rw [ranksL_len, predsL_len]) (order_full hf (fun x => (insts.getD x.toNat ip0).stage) fun x h0 hx p hp' => ?_)), hg⟩
  rw [predsL_len] at hx
  rw [hg x.toNat (by omega)] at hp'
  obtain ⟨k, hk, hq, rfl⟩ := allP_mem.1 hp'
  exact of_decide_eq_true hq
def wHas (r : InstV) (b : Bool) : InstV := { r with has := b }
def noHas (p : InstP) : InstP := { p with has := false }
theorem InstF.noHas {I : Imm} {r : InstV} {p : InstP} (h : InstF I r p) : InstF I (wHas r false) (noHas p) := ⟨⟨h.ok.name, h.ok.vars, h.ok.needs, h.ok.stage, rfl, h.ok.at_, h.ok.texts, h.ok.few⟩, h.vars, h.pick, h.rules⟩
theorem map_getD {α β : Type} {f : α → β} {xs : List α} {i : Nat} (d : α) (e : β) (h : i < xs.length) : (xs.map f).getD i e = f (xs.getD i d) := by
  simp [List.getD_eq_getElem?_getD, List.getElem?_map, List.getElem?_eq_getElem h]
theorem f7_ok {I : Imm} {l : List Itm} {v : Value} {raws : List InstV} {insts : List InstP} (hg : GlobI I) (hi : Insts I v raws insts) (hF : ∀ k, k < raws.length → InstF I (raws.getD k inst0) (insts.getD k ip0)) :
    Ct Tryd.prog 7 [v] I l (fun r _ _ => r = .bool true) := by
  refine Ct_enter Tryd.func7 rfl rfl rfl ?_
  have hfew := hi.few
  have hlen := hi.len
  refine K_seq ?_
  refine K_region ?_
  refine W_y (y_assign rfl) rfl rfl rfl ?_
  refine K_nil ?_
  refine K_then ?_
  refine K_seq ?_
  refine K_region ?_
  refine W_y (y_move rfl) rfl rfl rfl ?_
  refine W_a (a_call (enters_of Tryd.func22 (by kernel_rfl) rfl) rfl (f22_ok hi hF) rfl ?_) rfl
  rintro xv J1 _ hJ1 ⟨rx, rfl, hrl, hrF⟩
  refine W_y (y_assign rfl) rfl rfl rfl ?_
  refine K_nil ?_
  refine K_then ?_
  refine K_seq ?_
  refine K_seq ?_
  refine K_region ?_
  refine W_y (y_assign rfl) rfl rfl rfl ?_
  refine K_nil ?_
  refine K_then ?_
  refine K_block ?_
  refine K_lp (σ := Nat × List InstV) (fun s => J1) (fun s => [(0, v), (3, xv), (4, .int .i64 s.1)]) (fun s => row eInst 46 xv s.2 :: l) (fun s => s.1 ≤ raws.length ∧ s.2.length = raws.length ∧ ∀ j, j < raws.length → InstF J1 (s.2.getD j inst0) (if j < s.1 then noHas (insts.getD j ip0) else insts.getD j ip0)) (fun s => raws.length - s.1) (0, rx) rfl (by repeat first | exact .nil _ | refine .cons rfl ?_) rfl ⟨Nat.zero_le _, hrl, fun j hj => by rw [if_neg (Nat.not_lt_zero j)]; exact hrF j hj⟩ ?_
  rintro ⟨k, rx⟩ ⟨hk, hrl, hx⟩
  simp only at hk hrl hx ⊢
  refine K_sc .here (fun hcx => ?_)
  refine K_seq ?_
  refine K_seq ?_
  refine K_region ?_
  refine W_y (y_move rfl) rfl rfl rfl ?_
  refine W_y (y_move rfl) rfl rfl rfl ?_
  refine W_y (y_lenc tab hcx rfl rfl) rfl rfl rfl ?_
  refine W_y (y_lt rfl rfl) rfl rfl rfl ?_
  refine K_nil ?_
  refine K_then ?_
  first | refine K_if rfl (fun h1 => ?_) (fun h1 => ?_) | refine K_ifn rfl (fun h1 => ?_) (fun h1 => ?_) | refine K_cond rfl (fun h1 => ?_) (fun h1 => ?_)
  ·
    have hkl : k < raws.length := by omega
    refine K_sl .here (by omega) (fun hsx => ?_)
    refine K_skip ?_
    refine K_then ?_
    refine K_seq ?_
    refine K_block ?_
    refine K_region ?_
    refine W_y (y_move rfl) rfl rfl rfl ?_
    refine W_y (y_move rfl) rfl rfl rfl ?_
    refine W_y (y_ixr (e := eInst) tab .here rfl rfl rfl rfl (by omega)) rfl rfl rfl ?_
    refine W_y (y_fae tab hsx rfl rfl rfl rfl rfl) rfl rfl rfl ?_
    refine W_a (a_ste (e := eInst) (i := k) (j := 11) (a := rx.getD k inst0) (a' := wHas (rx.getD k inst0) false) tab rfl rfl rfl rfl rfl rfl (get_of inst0 (by omega)) rfl rfl ?_) rfl
    refine K_nil ?_
    refine K_in ?_
    refine K_then ?_
    refine K_region ?_
    refine W_y (y_move rfl) rfl rfl rfl ?_
    refine W_y (y_add rfl rfl (by omega)) rfl rfl rfl ?_
    refine W_y (y_assign rfl) rfl rfl rfl ?_
    refine K_nil ?_
    refine K_thenA ?_
    exact K_back (k + 1, rx.set k (wHas (rx.getD k inst0) false)) rfl (by repeat first | exact .nil _ | refine .cons rfl ?_) rfl ⟨by simp only; omega, by simp only; rw [List.length_set]; exact hrl, fun j hj => by
        simp only
        by_cases e : j = k
        · subst e
          rw [if_pos (by omega), List.getD_eq_getElem?_getD, List.getElem?_set_self (by omega)]
          have := hx j hj
          rw [if_neg (Nat.lt_irrefl j)] at this
          exact this.noHas
        · have := hx j hj
          rw [List.getD_eq_getElem?_getD, List.getElem?_set_ne (fun e' => e e'.symm), ← List.getD_eq_getElem?_getD]
          by_cases h6 : j < k
          · rw [if_pos h6] at this; rw [if_pos (by omega)]; exact this
          · rw [if_neg h6] at this; rw [if_neg (by omega)]; exact this⟩ (by simp only; omega)
  ·
    have hke : k = raws.length := by omega
    subst hke
    refine K_exit ?_
    refine K_then_exit ?_
    refine K_then_exit ?_
    refine K_in_exit ?_
    refine K_then ?_
    refine K_seq ?_
    refine K_give (fun J2 hJ2 hrx => ?_)
    have hJ12 := hJ1.trans hJ2
    have hrI : ∀ j, j < raws.length → InstF J2 (rx.getD j inst0) ((insts.map noHas).getD j ip0) := fun j hj => by
      have := (hx j hj).mono hJ2
      rw [if_pos hj] at this
      rw [map_getD ip0 ip0 (by omega)]; exact this
    have hins : Insts J2 xv rx (insts.map noHas) := ⟨hrx, by rw [List.length_map]; omega, fun j hj => (hrI j (by omega)).ok, by omega⟩
    refine K_region ?_
    refine W_y (y_move rfl) rfl rfl rfl ?_
    refine W_a (a_call (enters_of Tryd.func23 (by kernel_rfl) rfl) rfl (f23_ok (insts := (insts.map noHas)) (hg.mono hJ12) hins) rfl ?_) rfl
    rintro _ J3 _ hJ3 ⟨pv, pvs, rfl, hpr, rfl⟩
    have hst := stages_ok (insts := (insts.map noHas)) (fun i hi => by rw [map_getD ip0 ip0 (by simpa using hi)]; rfl)
    rw [hst.1] at hpr ⊢
    simp only at hpr ⊢
    have hJ := hJ12.trans hJ3
    have hpc := hpr.top.sc
    have hpl := hpr.len
    rw [predsL_len, List.length_map] at hpl
    have hrx3 := hrx.mono hJ3
    have hxc := hrx.sc
    refine W_y (y_move rfl) rfl rfl rfl ?_
    refine W_y (y_extract rfl rfl) rfl rfl rfl ?_
    refine W_y (y_extract rfl rfl) rfl rfl rfl ?_
    refine W_a (a_alloc tab rfl rfl ?_) rfl
    intro b6
    refine W_y (y_assign rfl) rfl rfl rfl ?_
    refine W_a (a_stw (us := eFault.cells fault0) tab rfl rfl rfl rfl (eFault.one _) rfl ?_) rfl
    refine K_nil ?_
    refine K_then ?_
    refine K_seq ?_
    refine K_seq ?_
    refine K_region ?_
    refine W_y (by first | exact y_fa tab rfl rfl rfl rfl rfl | exact y_fae tab (by assumption) rfl rfl rfl rfl rfl) rfl rfl rfl ?_
    refine W_y (y_load rfl (ld_cell tab rfl (rd_one .here rfl))) rfl rfl rfl ?_
    refine W_y (by first | exact y_ne rfl rfl | exact y_sne rfl rfl) rfl rfl rfl ?_
    refine W_y (y_move rfl) rfl rfl rfl ?_
    refine K_split 29 rfl (fun h2 => ?_) (fun h2 => ?_)
    ·
      exact absurd h2 (by decide)
    ·
      refine W_y (y_move rfl) rfl rfl rfl ?_
      refine W_y (by first | exact y_lenc tab (by assumption) rfl rfl | exact y_lens tab rfl rfl | exact y_lenstr tab rfl rfl) rfl rfl rfl ?_
      refine W_y (y_move rfl) rfl rfl rfl ?_
      refine W_y (by first | exact y_lenc tab (by assumption) rfl rfl | exact y_lens tab rfl rfl | exact y_lenstr tab rfl rfl) rfl rfl rfl ?_
      refine W_y (by first | exact y_ne rfl rfl | exact y_sne rfl rfl) rfl rfl rfl ?_
      refine W_y (y_pick rfl rfl) rfl rfl rfl ?_
      refine K_nil ?_
      refine K_then ?_
      first | refine K_if rfl (fun h3 => ?_) (fun h3 => ?_) | refine K_ifn rfl (fun h3 => ?_) (fun h3 => ?_) | refine K_cond rfl (fun h3 => ?_) (fun h3 => ?_)
      ·
        exact absurd (by omega) h3
      ·
        refine K_skip ?_
        refine K_then ?_
        refine K_seq ?_
        refine K_seq ?_
        refine K_region ?_
        refine W_y (y_assign rfl) rfl rfl rfl ?_
        refine K_nil ?_
        refine K_then ?_
        refine K_block ?_
        refine K_lp (σ := Nat) (fun s => J3) (fun s => [(0, v), (3, xv), (5, pv), (7, .int .i64 s)]) (fun s => blk b6 (.cells (eFault.cells fault0).toArray 44 (0, 0)) :: l) (fun s => s ≤ raws.length) (fun s => raws.length - s) 0 rfl (by repeat first | exact .nil _ | refine .cons rfl ?_) rfl (Nat.zero_le _) ?_
        intro i hi'
        refine K_seq ?_
        refine K_seq ?_
        refine K_region ?_
        refine W_y (y_move rfl) rfl rfl rfl ?_
        refine W_y (y_move rfl) rfl rfl rfl ?_
        refine W_y (by first | exact y_lenc tab (by assumption) rfl rfl | exact y_lens tab rfl rfl | exact y_lenstr tab rfl rfl) rfl rfl rfl ?_
        refine W_y (y_lt rfl rfl) rfl rfl rfl ?_
        refine K_nil ?_
        refine K_then ?_
        first | refine K_if rfl (fun h4 => ?_) (fun h4 => ?_) | refine K_ifn rfl (fun h4 => ?_) (fun h4 => ?_) | refine K_cond rfl (fun h4 => ?_) (fun h4 => ?_)
        ·
          have hin : i < raws.length := by omega
          refine K_skip ?_
          refine K_then ?_
          refine K_seq ?_
          refine K_block ?_
          refine K_seq ?_
          refine K_region ?_
          refine W_y (y_assign rfl) rfl rfl rfl ?_
          refine K_nil ?_
          refine K_then ?_
          refine K_block ?_
          refine K_lp (σ := Nat) (fun s => J3) (fun s => [(0, v), (3, xv), (5, pv), (7, .int .i64 i), (8, .int .i64 s)]) (fun s => blk b6 (.cells (eFault.cells fault0).toArray 44 (0, 0)) :: l) (fun s => s ≤ raws.length) (fun s => raws.length - s) 0 rfl (by repeat first | exact .nil _ | refine .cons rfl ?_) rfl (Nat.zero_le _) ?_
          intro k hk
          refine K_seq ?_
          refine K_seq ?_
          refine K_region ?_
          refine W_y (y_move rfl) rfl rfl rfl ?_
          refine W_y (y_move rfl) rfl rfl rfl ?_
          refine W_y (by first | exact y_lenc tab (by assumption) rfl rfl | exact y_lens tab rfl rfl | exact y_lenstr tab rfl rfl) rfl rfl rfl ?_
          refine W_y (y_lt rfl rfl) rfl rfl rfl ?_
          refine K_nil ?_
          refine K_then ?_
          first | refine K_if rfl (fun h5 => ?_) (fun h5 => ?_) | refine K_ifn rfl (fun h5 => ?_) (fun h5 => ?_) | refine K_cond rfl (fun h5 => ?_) (fun h5 => ?_)
          ·
            have hkl : k < raws.length := by omega
            obtain ⟨u, hu⟩ : ∃ u, u = (pvs.getD i svnil).1 := ⟨_, rfl⟩
            have hru := hpr.at_ i (by rw [predsL_len, List.length_map]; omega)
            rw [← hu, hst.2 i (by rw [List.length_map]; omega)] at hru
            refine K_skip ?_
            refine K_then ?_
            refine K_seq ?_
            refine K_block ?_
            refine K_seq ?_
            refine K_draw [(0, 3, []), (1, 3, []), (2, 3, []), (3, 0, []), (4, 3, []), (6, 3, []), (7, 3, []), (8, 3, []), (9, 3, []), (10, 0, []), (11, 3, []), (12, 3, []), (13, 3, []), (14, 3, []), (15, 0, []), (16, 3, []), (5, 1, []), (17, 3, [])] [] [] rfl (by kernel_rfl) (by intro c a d v w h; cases d <;> exact h) ?_
            refine D_f rfl (fun _ _ => y_move rfl) rfl rfl rfl ?_
            refine D_f rfl (fun _ _ => y_move rfl) rfl rfl rfl ?_
            refine D_f rfl (fun _ _ => y_ixi tab hpr.top rfl rfl rfl rfl (by omega)) rfl rfl rfl ?_
            refine D_y rfl (hu ▸ y_load rfl (ld_vi (i := i) tab hpr.top rfl (by omega))) rfl rfl rfl ?_
            refine D_f rfl (fun _ _ => y_move rfl) rfl rfl rfl ?_
            refine D_f rfl (fun _ _ => y_move rfl) rfl rfl rfl ?_
            refine D_f rfl (fun _ _ => y_move rfl) rfl rfl rfl ?_
            refine D_f rfl (fun _ _ => y_ixi tab hrx rfl rfl rfl rfl (by omega)) rfl rfl rfl ?_
            refine D_f rfl (fun _ _ => y_fae tab (hrx.sl (by omega)) rfl rfl rfl rfl rfl) rfl rfl rfl ?_
            refine D_y rfl (y_load rfl (ld_rowi (e := eInst) (i := k) (j := 6) tab hrx3 rfl rfl (get_of inst0 (by omega)) rfl)) rfl rfl rfl ?_
            refine D_f rfl (fun _ _ => y_move rfl) rfl rfl rfl ?_
            refine D_f rfl (fun _ _ => y_move rfl) rfl rfl rfl ?_
            refine D_f rfl (fun _ _ => y_ixi tab hrx rfl rfl rfl rfl (by omega)) rfl rfl rfl ?_
            refine D_f rfl (fun _ _ => y_fae tab (hrx.sl (by omega)) rfl rfl rfl rfl rfl) rfl rfl rfl ?_
            refine D_y rfl (y_load rfl (ld_rowi (e := eInst) (i := i) (j := 6) tab hrx3 rfl rfl (get_of inst0 (by omega)) rfl)) rfl rfl rfl ?_
            refine D_f rfl (fun _ _ => y_lt rfl rfl) rfl rfl rfl ?_
            refine D_a1 (fun _ h => h.sublist (by repeat first | exact List.nil_sublist _ | exact List.Sublist.refl _ | apply List.Sublist.cons_cons | apply List.Sublist.cons)) rfl (a_call (enters_of Tryd.func21 (by kernel_rfl) rfl) rfl (f21_ok (Rdb.ofRowI hru)) rfl ?_) rfl
            rintro _ _ _ - ⟨rfl, rfl, rfl⟩
            refine D_f rfl (fun _ _ => y_bne tab rfl rfl rfl) rfl rfl rfl ?_
            refine D_nil (fun _ h => h.sublist (by repeat first | exact List.nil_sublist _ | exact List.Sublist.refl _ | apply List.Sublist.cons_cons | apply List.Sublist.cons)) ?_
            refine K_then ?_
            first | refine K_if rfl (fun h6 => ?_) (fun h6 => ?_) | refine K_ifn rfl (fun h6 => ?_) (fun h6 => ?_) | refine K_cond rfl (fun h6 => ?_) (fun h6 => ?_)
            ·
              exact absurd (decide_eq_decide.2 (allP_mem.trans ⟨fun ⟨m, hm1, hm2, hm3⟩ => by
                  have e : k = m := by omega
                  subst e
                  have h5 := of_decide_eq_true hm2
                  rw [← (hrI k hkl).ok.stage, ← (hrI i hin).ok.stage] at h5
                  exact h5, fun h5 => ⟨k, by rw [List.length_map]; omega, decide_eq_true (by rw [← (hrI k hkl).ok.stage, ← (hrI i hin).ok.stage]; exact h5), rfl⟩⟩)) h6
            ·
              refine K_skip ?_
              refine K_in ?_
              refine K_then ?_
              refine K_region ?_
              refine W_y (y_move rfl) rfl rfl rfl ?_
              refine W_y (y_add rfl rfl (by omega)) rfl rfl rfl ?_
              refine W_y (y_assign rfl) rfl rfl rfl ?_
              refine K_nil ?_
              refine K_thenA ?_
              exact K_back (k + 1) rfl (by repeat first | exact .nil _ | refine .cons rfl ?_) rfl (by omega) (by first | omega | (simp only; omega))
          ·
            refine K_exit ?_
            refine K_then_exit ?_
            refine K_then_exit ?_
            refine K_in_exit ?_
            refine K_in ?_
            refine K_then ?_
            refine K_region ?_
            refine W_y (y_move rfl) rfl rfl rfl ?_
            refine W_y (y_add rfl rfl (by omega)) rfl rfl rfl ?_
            refine W_y (y_assign rfl) rfl rfl rfl ?_
            refine K_nil ?_
            refine K_thenA ?_
            exact K_back (i + 1) rfl (by repeat first | exact .nil _ | refine .cons rfl ?_) rfl (by omega) (by first | omega | (simp only; omega))
        ·
          refine K_exit ?_
          refine K_then_exit ?_
          refine K_then_exit ?_
          refine K_in_exit ?_
          refine K_then ?_
          refine K_seq ?_
          refine K_region ?_
          refine W_a (a_call (enters_of Tryd.func19 (by kernel_rfl) rfl) rfl (f19_ok (hg.mono hJ)) rfl ?_) rfl
          rintro _ J4 _ hJ4 ⟨rfl, rfl⟩
          refine W_y (y_assign rfl) rfl rfl rfl ?_
          refine K_nil ?_
          refine K_then ?_
          refine K_ret ?_
          refine K_out1 rfl (.tmp rfl) ?_
          exact fun w hw => ⟨_, _, _, rfl, hJ.trans hJ4, hw, rfl⟩
end Go.Proofs.YtfnmcpgajjkemaaDoor
