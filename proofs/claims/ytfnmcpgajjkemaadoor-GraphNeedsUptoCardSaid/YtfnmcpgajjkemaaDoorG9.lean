/- graph.needed. Printed by wip/gen/g9.py. -/
import Derived.Test.YtfnmcpgajjkemaaDoorG8
import Derived.Test.YtfnmcpgajjkemaaDoorG3
namespace Go.Proofs.YtfnmcpgajjkemaaDoor
open Go Go.RowKit Go.Proofs.YtfnmcpgajjkemaaDoor.SW
set_option maxRecDepth 100000
set_option maxHeartbeats 400000
/-- What of an instance counts here. -/
structure InstP where
  name : ByteArray
  vars : List (ByteArray × ByteArray)
  needs : List NeedV
  stage : Int
  has : Bool
  at_ : FaultV
def ip0 : InstP := ⟨⟨#[]⟩, [], [], 0, false, ⟨0, ⟨#[]⟩, 0, 0⟩⟩
structure InstOk (I : Imm) (r : InstV) (p : InstP) : Prop where
  name : r.name = p.name
  vars : RowI eStr2 I r.vars.1 p.vars
  needs : RowI eNeed I r.needs.1 p.needs
  stage : r.stage = p.stage
  has : r.has = p.has
  at_ : r.at_ = p.at_
  texts : ∀ n, n ∈ p.needs → n.text.size < 4294967281
  few : p.needs.length ≤ 1048576
structure Insts (I : Imm) (v : Value) (raws : List InstV) (insts : List InstP) : Prop where
  row : RowI eInst I v raws
  len : raws.length = insts.length
  at_ : ∀ k, k < raws.length → InstOk I (raws.getD k inst0) (insts.getD k ip0)
  few : raws.length ≤ 1048576
theorem InstOk.mono {I J : Imm} {r : InstV} {p : InstP} (h : InstOk I r p) (k : I.le J) : InstOk J r p := ⟨h.name, h.vars.mono k, h.needs.mono k, h.stage, h.has, h.at_, h.texts, h.few⟩
theorem Insts.mono {I J : Imm} {v : Value} {raws : List InstV} {insts : List InstP} (h : Insts I v raws insts) (k : I.le J) : Insts J v raws insts := ⟨h.row.mono k, h.len, fun i hi => (h.at_ i hi).mono k, h.few⟩
def ofQ (insts : List InstP) (job : ByteArray) (k : Nat) : Bool := ofP job (insts.getD k ip0).name
def meansQ (insts : List InstP) (job : ByteArray) (ps : List (ByteArray × ByteArray)) (k : Nat) : Bool := meansP job ps (insts.getD k ip0).name (insts.getD k ip0).vars
/-- Why a need is refused; what it means. -/
def needErr (insts : List InstP) (x : NeedV) : Option FaultV := match readP x.text with
  | none => some { x.at_ with code := 160 }
  | some (job, ps) => if (allP (ofQ insts job) insts.length).length = 0 then some { x.at_ with code := 161 } else if (allP (meansQ insts job ps) insts.length).length = 0 then some { x.at_ with code := 162 } else none
def needL (insts : List InstP) (x : NeedV) : List Int := match readP x.text with
  | none => []
  | some (job, ps) => allP (meansQ insts job ps) insts.length
def fault0 : FaultV := ⟨0, ⟨#[]⟩, 0, 0⟩
def need0 : NeedV := ⟨⟨#[]⟩, fault0⟩
def neededR (insts : List InstP) (needs : List NeedV) : List Int × FaultV := match needs.findSome? (needErr insts) with
  | some f => ([], f)
  | none => (Lib.compact ((needs.flatMap (needL insts)).mergeSort fun x y => decide (x ≤ y)), fault0)
theorem findSome_hit {α β : Type} {q : α → Option β} {y : β} : ∀ {xs : List α} {k : Nat} (d : α), (∀ i, i < k → q (xs.getD i d) = none) → k < xs.length → q (xs.getD k d) = some y → xs.findSome? q = some y
  | [], _, _, _, h, _ => by simp at h
  | x :: xs, 0, d, _, _, h => by simp at h; simp [h]
  | x :: xs, k + 1, d, hn, hk, h => by
    have h0 := hn 0 (Nat.succ_pos _)
    simp at h0
    rw [List.findSome?_cons, h0]
    exact findSome_hit (k := k) d (fun i hi => by have := hn (i + 1) (by omega); simpa using this) (by simpa using hk) (by simpa using h)
theorem findSome_miss {α β : Type} {q : α → Option β} {xs : List α} (d : α) (h : ∀ i, i < xs.length → q (xs.getD i d) = none) : xs.findSome? q = none := by
  refine List.findSome?_eq_none_iff.2 fun x hx => ?_
  obtain ⟨i, hi, rfl⟩ := List.mem_iff_getElem.1 hx
  have := h i hi
  rwa [List.getD_eq_getElem?_getD, List.getElem?_eq_getElem hi] at this
theorem readP_size {s job : ByteArray} {ps : List (ByteArray × ByteArray)} (h : readP s = some (job, ps)) : job.size ≤ s.size := by
  have h1 := cutS_le1 s (chB 91)
  unfold readP at h
  split at h
  · cases h
  · split at h
    · cases h; exact h1
    · split at h
      · cases h
      · split at h
        · cases h
        · split at h
          · cases h; exact h1
          · cases h
theorem ReadR.form {s : ByteArray} {r : Value} {J : Imm} (h : ReadR s r J) : ∃ (job : ByteArray) (pv : SV) (ok : Bool), r = .tuple #[.agg #[.string job, pv.1], .bool ok] ∧ (ok = false → readP s = none) ∧ (ok = true → ∃ ps, readP s = some (job, ps) ∧ RowI eStr2 J pv.1 ps ∧ job.size ≤ s.size) := by
  unfold ReadR at h
  split at h
  · rename_i hr
    exact ⟨⟨#[]⟩, svnil, false, h, fun _ => hr, fun e => (by cases e)⟩
  · rename_i job ps hr
    obtain ⟨pv, h1, h2⟩ := h
    exact ⟨job, pv, true, h1, fun e => (by cases e), fun _ => ⟨ps, hr, h2, readP_size hr⟩⟩
theorem flat_len {insts : List InstP} : ∀ (xs : List NeedV), (xs.flatMap (needL insts)).length ≤ xs.length * insts.length
  | [] => by simp
  | x :: xs => by
    have ih := flat_len (insts := insts) xs
    have h1 : (needL insts x).length ≤ insts.length := by
      unfold needL
      split
      · simp
      · exact allP_len _ _
    rw [List.flatMap_cons, List.length_append, List.length_cons, Nat.succ_mul]
    omega
theorem flat_succ {insts : List InstP} {xs : List NeedV} {k : Nat} (hk : k < xs.length) : (xs.take (k + 1)).flatMap (needL insts) = (xs.take k).flatMap (needL insts) ++ needL insts (xs.getD k need0) := by
  rw [List.take_add_one, List.getElem?_eq_getElem hk, List.flatMap_append, List.getD_eq_getElem?_getD, List.getElem?_eq_getElem hk]
  simp
theorem f37_ok {I : Imm} {l : List Itm} {v : Value} {raws : List InstV} {insts : List InstP} {x : InstV} {p : InstP} (hg : GlobI I) (hi : Insts I v raws insts) (hx : InstOk I x p) :
    Ct Tryd.prog 37 [v, .agg (eInst.cells x).toArray] I l (fun r _ m => ∃ ov, r = .tuple #[ov, .agg (eFault.cells (neededR insts p.needs).2).toArray] ∧ m = row eInt 3 ov (neededR insts p.needs).1 :: l) := by
  refine Ct_enter Tryd.func37 rfl rfl rfl ?_
  have hnc := hx.needs.sc
  have hnm := hx.few
  refine K_seq ?_
  refine K_region ?_
  refine W_a (a_box (v := .agg (eInst.cells x).toArray) rfl rfl ?_) rfl
  intro b3
  refine W_y (y_assign rfl) rfl rfl rfl ?_
  refine W_a (a_alloc tab rfl rfl ?_) rfl
  intro b5
  refine K_nil ?_
  refine K_then ?_
  refine K_seq ?_
  refine K_region ?_
  refine W_y (y_assign rfl) rfl rfl rfl ?_
  refine K_nil ?_
  refine K_then ?_
  refine K_seq ?_
  refine K_seq ?_
  refine K_region ?_
  refine W_y (by first | exact y_fa tab rfl rfl rfl rfl rfl | exact y_fae tab (by assumption) rfl rfl rfl rfl rfl) rfl rfl rfl ?_
  refine W_y (y_load rfl (v := x.needs.1) (ld_cell tab rfl (rd_one (.there .here) rfl))) rfl rfl rfl ?_
  refine W_y (by first | exact y_lenc tab (by assumption) rfl rfl | exact y_lens tab rfl rfl | exact y_lenstr tab rfl rfl) rfl rfl rfl ?_
  refine W_y (y_move rfl) rfl rfl rfl ?_
  refine K_nil ?_
  refine K_then ?_
  refine K_block ?_
  refine K_nilrow eInt 3 ?_
  refine K_f1 ?_
  refine K_lp (σ := Nat × Value × Imm) (fun s => s.2.2) (fun s => [(0, v), (3, .pointer (some ⟨b3, 0, none⟩)), (5, .pointer (some ⟨b5, 0, none⟩)), (6, s.2.1), (13, x.needs.1), (14, .int .i64 p.needs.length), (15, .int .i64 s.1)]) (fun s => blk b5 (.cells (eFault.cells fault0).toArray 44 (0, 0)) :: row eInt 3 s.2.1 ((p.needs.take s.1).flatMap (needL insts)) :: blk b3 (.cells (eInst.cells x).toArray 46 (0, 0)) :: l) (fun s => s.1 ≤ p.needs.length ∧ I.le s.2.2 ∧ ∀ i, i < s.1 → needErr insts (p.needs.getD i need0) = none) (fun s => p.needs.length - s.1) (0, .slice none 0 0, I) rfl (by repeat first | exact .nil _ | refine .cons rfl ?_) rfl ⟨Nat.zero_le _, Imm.le.refl _, fun i h => absurd h (Nat.not_lt_zero i)⟩ ?_
  rintro ⟨k, ov, J⟩ ⟨hk, hJ, hin⟩
  simp only at hk hJ hin ⊢
  have hne := hx.needs.mono hJ
  have hg' := hg.mono hJ
  refine K_seq ?_
  refine K_region ?_
  refine W_y (y_lt rfl rfl) rfl rfl rfl ?_
  refine K_nil ?_
  refine K_then ?_
  refine K_seq ?_
  first | refine K_if rfl (fun h1 => ?_) (fun h1 => ?_) | refine K_ifn rfl (fun h1 => ?_) (fun h1 => ?_) | refine K_cond rfl (fun h1 => ?_) (fun h1 => ?_)
  ·
    have hkl : k < p.needs.length := by omega
    have htx := hx.texts _ (getD_mem (i := k) need0 hkl)
    refine K_skip ?_
    refine K_then ?_
    refine K_seq ?_
    refine K_block ?_
    refine K_seq ?_
    refine K_region ?_
    refine W_y (y_ixi tab hne rfl rfl rfl rfl (by omega)) rfl rfl rfl ?_
    refine W_y (y_load rfl (ld_rowia (i := k) tab hne rfl rfl rfl rfl (get_of need0 (by omega)))) rfl rfl rfl ?_
    refine W_a (a_alloc tab rfl rfl ?_) rfl
    intro b8
    refine W_a (a_stw (us := eNeed.cells (p.needs.getD k need0)) tab rfl rfl rfl rfl (eNeed.one _) rfl ?_) rfl
    refine K_nil ?_
    refine K_then ?_
    refine K_seq ?_
    refine K_region ?_
    refine W_y (by first | exact y_fa tab rfl rfl rfl rfl rfl | exact y_fae tab (by assumption) rfl rfl rfl rfl rfl) rfl rfl rfl ?_
    refine W_y (y_load rfl (v := .string (p.needs.getD k need0).text) (ld_cell tab rfl (rd_one .here rfl))) rfl rfl rfl ?_
    refine W_a (a_call (enters_of Tryd.func47 (by kernel_rfl) rfl) rfl (f47_ok hg' htx) rfl ?_) rfl
    rintro _ J2 _ hJ2 ⟨hrr, rfl⟩
    obtain ⟨job, pv, ok, rfl, hno, hyes⟩ := hrr.form
    have hJJ := hJ.trans hJ2
    have hi2 := hi.mono hJJ
    have hil := hi2.len
    have hfe := hi2.few
    refine W_y (y_move rfl) rfl rfl rfl ?_
    refine W_y (y_extract rfl rfl) rfl rfl rfl ?_
    refine W_y (y_extract rfl rfl) rfl rfl rfl ?_
    refine W_a (a_alloc tab rfl rfl ?_) rfl
    intro b9
    refine W_a (a_stw (us := [.string job, pv.1]) tab rfl rfl rfl rfl (by intro u hu; simp at hu; rcases hu with rfl | rfl <;> first | rfl | exact pv.2) rfl ?_) rfl
    refine W_y (y_assign rfl) rfl rfl rfl ?_
    refine K_nil ?_
    refine K_then ?_
    refine K_seq ?_
    refine K_seq ?_
    refine K_region ?_
    refine W_y (y_move rfl) rfl rfl rfl ?_
    refine W_y (y_not rfl) rfl rfl rfl ?_
    refine K_nil ?_
    refine K_then ?_
    refine K_cond rfl (fun h2 => ?_) (fun h2 => ?_)
    ·
      have hrd := hno (by simpa using h2)
      have herr : needErr insts (p.needs.getD k need0) = some { (p.needs.getD k need0).at_ with code := 160 } := by unfold needErr; rw [hrd]
      have hres : neededR insts p.needs = ([], { (p.needs.getD k need0).at_ with code := 160 }) := by unfold neededR; rw [findSome_hit need0 hin hkl herr]
      refine K_seq ?_
      refine K_region ?_
      refine W_y (by first | exact y_fa tab rfl rfl rfl rfl rfl | exact y_fae tab (by assumption) rfl rfl rfl rfl rfl) rfl rfl rfl ?_
      refine W_y (y_load rfl (v := .agg (eFault.cells (p.needs.getD k need0).at_).toArray) (ld_agg tab rfl rfl rfl (rd_part (vs := eFault.cells (p.needs.getD k need0).at_) (.there .here) rfl))) rfl rfl rfl ?_
      refine W_a (a_call (enters_of Tryd.func41 (by kernel_rfl) rfl) rfl (f41_ok (e := 160) (x := (p.needs.getD k need0).at_)) rfl ?_) rfl
      rintro _ _ _ - ⟨rfl, rfl, rfl⟩
      refine W_y (y_assign rfl) rfl rfl rfl ?_
      refine K_f2 ?_
      refine W_a (a_stw (us := eFault.cells { (p.needs.getD k need0).at_ with code := 160 }) tab rfl rfl rfl rfl (eFault.one _) rfl ?_) rfl
      refine K_nil ?_
      refine K_then ?_
      refine K_ret ?_
      refine K_then_ret ?_
      refine K_in_ret ?_
      refine K_then_ret ?_
      refine K_then_ret ?_
      refine K_in_ret ?_
      refine K_then_ret ?_
      refine K_out2 rfl (.tmp rfl) (.cell rfl (ld_agg tab rfl rfl rfl (rd_all (by first | exact .here | exact .there .here | exact .there (.there .here))))) ?_
      first
        | exact fun w hw => ⟨_, _, _, rfl, hJ, hw.sublist (List.Sublist.cons_cons _ (.cons _ (.cons _ (.refl _)))), v56, by rw [hres]; done, by rw [hres]⟩
        | exact fun w hw => ⟨_, _, _, rfl, hJJ, (show St _ w l from hw.sublist (by repeat first | exact List.Sublist.refl _ | apply List.Sublist.cons)).nilrow eInt 3, .slice none 0 0, by rw [hres]; done, by rw [hres]⟩
    ·
      obtain ⟨ps, hrd, hps, hjl⟩ := hyes (by simpa using h2)
      have hjs : job.size < 4294967281 := by omega
      refine K_skip ?_
      refine K_then ?_
      refine K_seq ?_
      refine K_seq ?_
      refine K_region ?_
      refine W_y (y_move rfl) rfl rfl rfl ?_
      refine W_y (y_load rfl (v := .agg #[.string job, pv.1]) (ld_agg tab rfl rfl rfl (rd_all .here))) rfl rfl rfl ?_
      refine W_y (y_mkfn (vs := [.agg #[.string job, pv.1]]) (us := []) rfl rfl) rfl rfl rfl ?_
      refine W_a (a_call (enters_of Tryd.func38 (by kernel_rfl) rfl) rfl (f38_ok (f := 48) (first := [.agg #[.string job, pv.1]]) (cap := []) (q := ofQ insts job) hi2.row (enters_of Tryd.func48 (by kernel_rfl) rfl) (fun k hk m0 => (f48_ok (x := raws.getD k inst0) hjs).mono fun v J m _ h => ⟨by rw [h.1, (hi2.at_ k hk).name]; rfl, h.2⟩) (by have := hi2.few; omega)) rfl ?_) rfl
      rintro v33 _ _ - ⟨rfl, rfl⟩
      refine K_sc .here (fun hsc => ?_)
      refine K_drop ?_
      refine W_y (by first | exact y_lenc tab (by assumption) rfl rfl | exact y_lens tab rfl rfl | exact y_lenstr tab rfl rfl) rfl rfl rfl ?_
      refine W_y (by first | exact y_eq rfl rfl | exact y_seq rfl rfl) rfl rfl rfl ?_
      refine K_nil ?_
      refine K_then ?_
      first | refine K_if rfl (fun h3 => ?_) (fun h3 => ?_) | refine K_ifn rfl (fun h3 => ?_) (fun h3 => ?_) | refine K_cond rfl (fun h3 => ?_) (fun h3 => ?_)
      ·
        have herr : needErr insts (p.needs.getD k need0) = some { (p.needs.getD k need0).at_ with code := 161 } := by unfold needErr; rw [hrd]; simp only; rw [if_pos (by rw [← hil]; omega)]
        have hres : neededR insts p.needs = ([], { (p.needs.getD k need0).at_ with code := 161 }) := by unfold neededR; rw [findSome_hit need0 hin hkl herr]
        refine K_seq ?_
        refine K_region ?_
        refine W_y (by first | exact y_fa tab rfl rfl rfl rfl rfl | exact y_fae tab (by assumption) rfl rfl rfl rfl rfl) rfl rfl rfl ?_
        refine W_y (y_load rfl (v := .agg (eFault.cells (p.needs.getD k need0).at_).toArray) (ld_agg tab rfl rfl rfl (rd_part (vs := eFault.cells (p.needs.getD k need0).at_) (.there .here) rfl))) rfl rfl rfl ?_
        refine W_a (a_call (enters_of Tryd.func41 (by kernel_rfl) rfl) rfl (f41_ok (e := 161) (x := (p.needs.getD k need0).at_)) rfl ?_) rfl
        rintro _ _ _ - ⟨rfl, rfl, rfl⟩
        refine W_y (y_assign rfl) rfl rfl rfl ?_
        refine K_f2 ?_
        refine W_a (a_stw (us := eFault.cells { (p.needs.getD k need0).at_ with code := 161 }) tab rfl rfl rfl rfl (eFault.one _) rfl ?_) rfl
        refine K_nil ?_
        refine K_then ?_
        refine K_ret ?_
        refine K_then_ret ?_
        refine K_in_ret ?_
        refine K_then_ret ?_
        refine K_then_ret ?_
        refine K_in_ret ?_
        refine K_then_ret ?_
        refine K_out2 rfl (.tmp rfl) (.cell rfl (ld_agg tab rfl rfl rfl (rd_all (by first | exact .here | exact .there .here | exact .there (.there .here))))) ?_
        first
          | exact fun w hw => ⟨_, _, _, rfl, hJ, hw.sublist (List.Sublist.cons_cons _ (.cons _ (.cons _ (.refl _)))), v56, by rw [hres]; done, by rw [hres]⟩
          | exact fun w hw => ⟨_, _, _, rfl, hJJ, (show St _ w l from hw.sublist (by repeat first | exact List.Sublist.refl _ | apply List.Sublist.cons)).nilrow eInt 3, .slice none 0 0, by rw [hres]; done, by rw [hres]⟩
      ·
        have hof : ¬ (allP (ofQ insts job) insts.length).length = 0 := by rw [← hil]; omega
        refine K_skip ?_
        refine K_then ?_
        refine K_seq ?_
        refine K_region ?_
        refine W_y (y_move rfl) rfl rfl rfl ?_
        refine W_y (y_load rfl (v := .agg #[.string job, pv.1]) (ld_agg tab rfl rfl rfl (rd_all .here))) rfl rfl rfl ?_
        refine W_y (y_mkfn (vs := [.agg #[.string job, pv.1]]) (us := []) rfl rfl) rfl rfl rfl ?_
        refine W_a (a_call (enters_of Tryd.func38 (by kernel_rfl) rfl) rfl (f38_ok (f := 49) (first := [.agg #[.string job, pv.1]]) (cap := []) (q := meansQ insts job ps) hi2.row (enters_of Tryd.func49 (by kernel_rfl) rfl) (fun k hk m0 => (f49_ok (x := raws.getD k inst0) hjs hps (hi2.at_ k hk).vars).mono fun v J m _ h => ⟨by rw [h.1, (hi2.at_ k hk).name]; rfl, h.2⟩) (by have := hi2.few; omega)) rfl ?_) rfl
        rintro v42 _ _ - ⟨rfl, rfl⟩
        refine K_sc .here (fun hsc2 => ?_)
        refine W_y (y_assign rfl) rfl rfl rfl ?_
        refine K_nil ?_
        refine K_then ?_
        refine K_seq ?_
        refine K_seq ?_
        refine K_region ?_
        refine W_y (y_move rfl) rfl rfl rfl ?_
        refine W_y (by first | exact y_lenc tab (by assumption) rfl rfl | exact y_lens tab rfl rfl | exact y_lenstr tab rfl rfl) rfl rfl rfl ?_
        refine W_y (by first | exact y_eq rfl rfl | exact y_seq rfl rfl) rfl rfl rfl ?_
        refine K_nil ?_
        refine K_then ?_
        first | refine K_if rfl (fun h4 => ?_) (fun h4 => ?_) | refine K_ifn rfl (fun h4 => ?_) (fun h4 => ?_) | refine K_cond rfl (fun h4 => ?_) (fun h4 => ?_)
        ·
          have herr : needErr insts (p.needs.getD k need0) = some { (p.needs.getD k need0).at_ with code := 162 } := by unfold needErr; rw [hrd]; simp only; rw [if_neg hof, if_pos (by rw [← hil]; omega)]
          have hres : neededR insts p.needs = ([], { (p.needs.getD k need0).at_ with code := 162 }) := by unfold neededR; rw [findSome_hit need0 hin hkl herr]
          refine K_seq ?_
          refine K_region ?_
          refine W_y (by first | exact y_fa tab rfl rfl rfl rfl rfl | exact y_fae tab (by assumption) rfl rfl rfl rfl rfl) rfl rfl rfl ?_
          refine W_y (y_load rfl (v := .agg (eFault.cells (p.needs.getD k need0).at_).toArray) (ld_agg tab rfl rfl rfl (rd_part (vs := eFault.cells (p.needs.getD k need0).at_) (.there (.there .here)) rfl))) rfl rfl rfl ?_
          refine W_a (a_call (enters_of Tryd.func41 (by kernel_rfl) rfl) rfl (f41_ok (e := 162) (x := (p.needs.getD k need0).at_)) rfl ?_) rfl
          rintro _ _ _ - ⟨rfl, rfl, rfl⟩
          refine W_y (y_assign rfl) rfl rfl rfl ?_
          refine K_f3 ?_
          refine W_a (a_stw (us := eFault.cells { (p.needs.getD k need0).at_ with code := 162 }) tab rfl rfl rfl rfl (eFault.one _) rfl ?_) rfl
          refine K_nil ?_
          refine K_then ?_
          refine K_ret ?_
          refine K_then_ret ?_
          refine K_in_ret ?_
          refine K_then_ret ?_
          refine K_then_ret ?_
          refine K_in_ret ?_
          refine K_then_ret ?_
          refine K_out2 rfl (.tmp rfl) (.cell rfl (ld_agg tab rfl rfl rfl (rd_all (by first | exact .here | exact .there .here | exact .there (.there .here))))) ?_
          first
            | exact fun w hw => ⟨_, _, _, rfl, hJ, hw.sublist (List.Sublist.cons_cons _ (.cons _ (.cons _ (.refl _)))), v56, by rw [hres]; done, by rw [hres]⟩
            | exact fun w hw => ⟨_, _, _, rfl, hJJ, (show St _ w l from hw.sublist (by repeat first | exact List.Sublist.refl _ | apply List.Sublist.cons)).nilrow eInt 3, .slice none 0 0, by rw [hres]; done, by rw [hres]⟩
        ·
          have hnone : needErr insts (p.needs.getD k need0) = none := by unfold needErr; rw [hrd]; simp only; rw [if_neg hof, if_neg (by rw [← hil]; omega)]
          have hnl : needL insts (p.needs.getD k need0) = allP (meansQ insts job ps) raws.length := by unfold needL; rw [hrd, hil]
          refine K_give (fun J3 hJ3 hl3 => ?_)
          rw [← hnl] at hl3
          have hfl := flat_len (insts := insts) (p.needs.take k)
          have hfw := hx.few
          have hnl2 := flat_len (insts := insts) [(p.needs.getD k need0)]
          have hmul : (p.needs.take k).length * insts.length ≤ 1048576 * 1048576 := Nat.mul_le_mul (by rw [List.length_take]; omega) (by omega)
          have hnl3 : (needL insts (p.needs.getD k need0)).length ≤ insts.length := by simpa using hnl2
          refine K_f3 ?_
          refine K_skip ?_
          refine K_then ?_
          refine K_region ?_
          refine W_y (y_move rfl) rfl rfl rfl ?_
          refine W_y (y_move rfl) rfl rfl rfl ?_
          refine W_a (a_appi (e := eInt) tab hl3 rfl rfl rfl rfl rfl (by omega) rfl ?_) rfl
          intro v51
          refine W_y (y_assign rfl) rfl rfl rfl ?_
          refine K_nil ?_
          refine K_in ?_
          refine K_then ?_
          refine K_region ?_
          refine W_y (y_add rfl rfl (by omega)) rfl rfl rfl ?_
          refine W_y (y_move rfl) rfl rfl rfl ?_
          refine K_nil ?_
          refine K_thenA ?_
          rw [← flat_succ hkl]
          refine K_f1 (K_drop (K_f1 (K_drop (K_f1 ?_))))
          exact K_back (k + 1, v51, J3) rfl (by repeat first | exact .nil _ | refine .cons rfl ?_) rfl ⟨by simp only; omega, hJJ.trans hJ3, all_succ hin hnone⟩ (by simp only; omega)
  ·
    have hke : k = p.needs.length := by omega
    subst hke
    rw [List.take_length]
    have hfl := flat_len (insts := insts) p.needs
    have hfw := hx.few
    have hie := hi.few
    have hil := hi.len
    have hmul : p.needs.length * insts.length ≤ 1048576 * 1048576 := Nat.mul_le_mul hfw (by omega)
    have hres : neededR insts p.needs = (Lib.compact ((p.needs.flatMap (needL insts)).mergeSort fun x y => decide (x ≤ y)), fault0) := by unfold neededR; rw [findSome_miss need0 hin]
    refine K_exit ?_
    refine K_then_exit ?_
    refine K_then_exit ?_
    refine K_in_exit ?_
    refine K_then ?_
    refine K_seq ?_
    refine K_region ?_
    refine W_y (y_move rfl) rfl rfl rfl ?_
    refine K_f1 ?_
    refine W_a (a_call (enters_of Tryd.func50 (by kernel_rfl) rfl) rfl (c_sort (xs := p.needs.flatMap (needL insts)) (by omega)) rfl ?_) rfl
    rintro _ _ _ - ⟨rfl, rfl⟩
    refine K_nil ?_
    refine K_then ?_
    refine K_seq ?_
    refine K_region ?_
    refine W_y (y_move rfl) rfl rfl rfl ?_
    refine W_a (a_call (enters_of Tryd.func51 (by kernel_rfl) rfl) rfl (c_compact) rfl ?_) rfl
    rintro v56 _ _ - ⟨rfl, rfl⟩
    refine W_y (y_build tab rfl rfl rfl rfl rfl) rfl rfl rfl ?_
    refine W_y (y_assign rfl) rfl rfl rfl ?_
    refine K_f1 ?_
    refine W_a (a_stw (us := eFault.cells fault0) tab rfl rfl rfl rfl (eFault.one _) rfl ?_) rfl
    refine K_f1 ?_
    refine K_nil ?_
    refine K_then ?_
    refine K_ret ?_
    refine K_out2 rfl (.tmp rfl) (.cell rfl (ld_agg tab rfl rfl rfl (rd_all (by first | exact .here | exact .there .here | exact .there (.there .here))))) ?_
    first
      | exact fun w hw => ⟨_, _, _, rfl, hJ, hw.sublist (List.Sublist.cons_cons _ (.cons _ (.cons _ (.refl _)))), v56, by rw [hres]; done, by rw [hres]⟩
      | exact fun w hw => ⟨_, _, _, rfl, hJJ, (show St _ w l from hw.sublist (by repeat first | exact List.Sublist.refl _ | apply List.Sublist.cons)).nilrow eInt 3, .slice none 0 0, by rw [hres]; done, by rw [hres]⟩
end Go.Proofs.YtfnmcpgajjkemaaDoor
