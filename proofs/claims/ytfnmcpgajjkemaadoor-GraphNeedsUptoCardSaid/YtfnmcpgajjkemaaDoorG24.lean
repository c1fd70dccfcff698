/- GraphMore. Printed by wip/gen/g24.py. -/
import Derived.Test.YtfnmcpgajjkemaaDoorG23
namespace Go.Proofs.YtfnmcpgajjkemaaDoor
open Go Go.RowKit Go.Proofs.YtfnmcpgajjkemaaDoor.SW
set_option maxRecDepth 100000
set_option maxHeartbeats 400000
theorem y_max {P : Program} {n : Nat} {I : Imm} {fr : List (Nat × Value)} {l : List Itm} {d : Option Tmp} {ty t t2 : TypeId} {p : String} {af : Array Edge} {g : Option (Nat × Bool)} {x y : Operand} {i j : Int} (hx : ev fr x = some (.int .i64 i)) (hy : ev fr y = some (.int .i64 j)) :
    Yv P n I fr l ⟨d, .call ⟨.builtin .max, #[x, y], #[t, t2]⟩, ty, p, af, g⟩ (.int .i64 (max i j)) := fun a w ha _ => by
  have h := run_max_int2 (P := P) w #[t, t2] ty .i64 .i64 i j
  simp [execOp, resolve, invoke, builtin, ha.eval hx, ha.eval hy, h]
  split <;> omega
theorem rowII_cut {I : Imm} {v : Value} {vs : List SV} {xss : List (List Int)} (h : RowII eInt I v vs xss) {j : Nat} (hj : j ≤ xss.length) : RowII eInt I (cutv 1 v 0 j) (vs.take j) (xss.take j) := by
  have h1 := h.top.cut (i := 0) (j := j) ⟨Nat.zero_le _, by rw [h.len]; exact hj⟩
  rw [List.drop_zero] at h1
  refine ⟨h1, by rw [List.length_take, List.length_take, h.len], fun i hi => ?_⟩
  rw [List.length_take] at hi
  have h2 := h.at_ i (by omega)
  have e1 : (vs.take j).getD i svnil = vs.getD i svnil := by simp [List.getD_eq_getElem?_getD, show i < j by omega]
  have e2 : (xss.take j).getD i [] = xss.getD i [] := by simp [List.getD_eq_getElem?_getD, show i < j by omega]
  rw [e1, e2]; exact h2
def topK (insts : List InstP) : Nat → Int
  | 0 => 0
  | k + 1 => max (topK insts k) (insts.getD k ip0).stage
theorem topK_ge {insts : List InstP} : ∀ {n : Nat}, 0 ≤ topK insts n ∧ ∀ i, i < n → (insts.getD i ip0).stage ≤ topK insts n
  | 0 => ⟨Int.le_refl _, fun i hi => absurd hi (Nat.not_lt_zero i)⟩
  | n + 1 => by
    obtain ⟨h1, h2⟩ := topK_ge (insts := insts) (n := n)
    simp only [topK]
    refine ⟨by omega, fun i hi => ?_⟩
    rcases Nat.lt_succ_iff_lt_or_eq.1 hi with h | rfl
    · have := h2 i h; omega
    · omega
abbrev noName : ByteArray := ⟨#[110, 111, 32, 110, 97, 109, 101]⟩
def newP (t : Int) : InstP := ⟨noName, [], [], t, false, fault0⟩
def newI (t : Int) : InstV := { inst0 with name := noName, stage := t }
theorem data_app (a b : ByteArray) : (a ++ b).data.toList = a.data.toList ++ b.data.toList := by simp
theorem ofP_far {job name : ByteArray} (h1 : nameP name = false) (h2 : (91 : UInt8) ∉ name.data.toList) (h : nameP job = true) : ofP job name = false := by
  unfold ofP
  rw [Bool.or_eq_false_iff]
  refine ⟨decide_eq_false (fun e => by subst e; rw [h] at h1; cases h1), ?_⟩
  unfold preS Lib.hasPrefix
  refine Bool.eq_false_iff.2 fun hp => h2 ?_
  rw [List.isPrefixOf_iff_prefix, data_app] at hp
  exact hp.subset (by simp)
theorem ofP_new {job : ByteArray} (h : nameP job = true) : ofP job noName = false := ofP_far (by decide +kernel) (by decide) h
theorem readP_name {s job : ByteArray} {ps : List (ByteArray × ByteArray)} (h : readP s = some (job, ps)) : nameP job = true := by
  unfold readP at h
  split at h
  · cases h
  · rename_i h1
    have h2 : nameP (cutS s (chB 91)).1 = true := by simpa using h1
    split at h
    · cases h; exact h2
    · split at h
      · cases h
      · split at h
        · cases h
        · split at h
          · cases h; exact h2
          · cases h
theorem allP_snoc {q q' : Nat → Bool} {n : Nat} (h : ∀ k, k < n → q' k = q k) (hn : q' n = false) : allP q' (n + 1) = allP q n := by
  rw [allP_succ, if_neg (by rw [hn]; decide)]
  unfold allP
  congr 1
  exact List.filter_congr fun k hk => h k (by simpa using hk)
section
variable {insts : List InstP} {T : Int}
theorem snoc_get {i : Nat} (h : i < insts.length) (x : InstP) : (insts ++ [x]).getD i ip0 = insts.getD i ip0 := by
  rw [List.getD_eq_getElem?_getD, List.getElem?_append_left h, ← List.getD_eq_getElem?_getD]
theorem snoc_last (x : InstP) : (insts ++ [x]).getD insts.length ip0 = x := by simp [List.getD_eq_getElem?_getD]
/-- A further instance that no need can mean changes no need's meaning. -/
theorem needs_far {x : InstP} (hx : ∀ job, nameP job = true → ofP job x.name = false) (nd : NeedV) : needErr (insts ++ [x]) nd = needErr insts nd ∧ needL (insts ++ [x]) nd = needL insts nd := by
  unfold needErr needL
  cases hr : readP nd.text with
  | none => exact ⟨rfl, rfl⟩
  | some p =>
    obtain ⟨job, ps⟩ := p
    have hj := readP_name hr
    have h1 : allP (ofQ (insts ++ [x]) job) (insts ++ [x]).length = allP (ofQ insts job) insts.length := by
      rw [List.length_append, List.length_singleton]
      exact allP_snoc (fun k hk => by unfold ofQ; rw [snoc_get hk]) (by unfold ofQ; rw [snoc_last]; exact hx job hj)
    have h2 : allP (meansQ (insts ++ [x]) job ps) (insts ++ [x]).length = allP (meansQ insts job ps) insts.length := by
      rw [List.length_append, List.length_singleton]
      exact allP_snoc (fun k hk => by unfold meansQ; rw [snoc_get hk]) (by unfold meansQ meansP; rw [snoc_last, hx job hj]; rfl)
    simp only [h1, h2]
    exact ⟨trivial, trivial⟩
theorem needed_far {x : InstP} (hx : ∀ job, nameP job = true → ofP job x.name = false) (ns : List NeedV) : neededR (insts ++ [x]) ns = neededR insts ns := by
  unfold neededR
  rw [show needErr (insts ++ [x]) = needErr insts from funext fun nd => (needs_far hx nd).1, show needL (insts ++ [x]) = needL insts from funext fun nd => (needs_far hx nd).2]
theorem predsOf_more {x : InstP} (hx : ∀ job, nameP job = true → ofP job x.name = false) (hs : ∀ i, i < insts.length → (insts.getD i ip0).has = false → ¬ x.stage < (insts.getD i ip0).stage) {i : Nat} (hi : i < insts.length) : predsOf (insts ++ [x]) i = predsOf insts i := by
  unfold predsOf
  rw [snoc_get hi, needed_far hx]
  cases hh : (insts.getD i ip0).has with
  | true => rfl
  | false =>
    rw [if_neg (by decide), if_neg (by decide), List.length_append, List.length_singleton, allP_snoc (q := stageQ insts i) (fun k hk => by unfold stageQ; rw [snoc_get hk, snoc_get hi])]
    unfold stageQ
    rw [snoc_last, snoc_get hi]
    exact decide_eq_false (hs i hi hh)
theorem predsOf_range {i : Nat} (hi : i < (predsL insts).length) (hf : formOk (predsL insts)) : ∀ p, p ∈ (predsOf insts i).1 → 0 ≤ p ∧ p < insts.length := fun p hp => by
  have := (hf.row hi).2 p
  rw [predsL_len] at this hi
  rw [predsL_get hi] at this
  exact this hp
/-- What an order without an error says of Build. -/
theorem buildP_zero (h : (buildP insts).2.code = 0) : (∀ i, i < insts.length → (predsOf insts i).2.code = 0) ∧ (orderRes (predsL insts) (ranksL insts)).2 = 0 ∧ buildP insts = (predsL insts, fault0) := by
  have h0 : (List.range insts.length).findSome? (predErr insts) = none := by
    cases hf : (List.range insts.length).findSome? (predErr insts) with
    | none => rfl
    | some f =>
      exfalso
      obtain ⟨i, hi, hfi⟩ := List.exists_of_findSome?_eq_some hf
      unfold buildP at h
      rw [hf] at h
      unfold predErr at hfi
      split at hfi
      · cases hfi
      · rename_i hc; cases hfi; exact hc h
  have h1 : ∀ i, i < insts.length → (predsOf insts i).2.code = 0 := fun i hi => by
    have := List.findSome?_eq_none_iff.1 h0 i (by simpa using hi)
    unfold predErr at this
    split at this
    · assumption
    · cases this
  have h2 : (orderRes (predsL insts) (ranksL insts)).2 = 0 := by
    refine Classical.byContradiction fun hne => ?_
    unfold buildP at h
    rw [h0] at h
    simp only at h
    rw [if_neg hne] at h
    exact hne h
  exact ⟨h1, h2, buildP_of h1 h2⟩
theorem orderRes_zero {preds : List (List Int)} {ranks : List Int} (h : (orderRes preds ranks).2 = 0) : formOk preds ∧ (orderL preds ranks).length = preds.length := by
  obtain ⟨h1, _, _, h4, _⟩ := orderRes_form (preds := preds) (ranks := ranks) (by rw [h]; decide)
  exact ⟨h1, h4.1 h⟩
theorem orderL_ahead {preds : List (List Int)} {ranks : List Int} {i q : Nat} (hi : (i : Int) ∈ orderL preds ranks) (hq : (q : Int) ∈ preds.getD i []) : (orderL preds ranks).idxOf (q : Int) < (orderL preds ranks).idxOf (i : Int) := by
  have hn := (orderL_onWay (preds := preds) (ranks := ranks)).1.nodup
  obtain ⟨k, hk, hke⟩ := List.mem_iff_getElem.1 hi
  obtain ⟨b, hb, hbest⟩ := orderL_good (preds := preds) (ranks := ranks) k hk
  have hkd : (orderL preds ranks).getD k 0 = (i : Int) := by rw [getD_of 0 hk]; exact hke
  have hbi : b = i := by rw [hkd] at hb; omega
  subst hbi
  obtain ⟨j, hj, hjl, hje⟩ := mem_take_get ((rdy_iff.1 hbest.2.1).2 _ hq)
  rw [← hkd, idxOf_nodup hn hk, ← hje, idxOf_nodup hn hjl]
  exact hj
theorem full_mem {n : Nat} {l : List Int} (hn : l.Nodup) (hr : ∀ x, x ∈ l → 0 ≤ x ∧ x < n) (hl : l.length = n) {x : Int} (h0 : 0 ≤ x) (hx : x < n) : x ∈ l := by
  refine Classical.byContradiction fun hno => ?_
  have := ints_le (n := n) (l := x :: l) (List.nodup_cons.2 ⟨hno, hn⟩) (fun y hy => by
    rcases List.mem_cons.1 hy with rfl | hy
    · exact ⟨h0, hx⟩
    · exact hr y hy)
  simp at this
  omega
/-- A further instance behind all others, that waits for some of them, breaks no order. -/
theorem order_more {x : InstP} (hz : (buildP insts).2.code = 0) (hp : ∀ i, i < insts.length → predsOf (insts ++ [x]) i = predsOf insts i) (hc : (predsOf (insts ++ [x]) insts.length).2.code = 0)
    (hr : (predsOf (insts ++ [x]) insts.length).1.Pairwise (· < ·) ∧ ∀ p, p ∈ (predsOf (insts ++ [x]) insts.length).1 → 0 ≤ p ∧ p < insts.length) :
    buildP (insts ++ [x]) = (predsL insts ++ [(predsOf (insts ++ [x]) insts.length).1], fault0) := by
  obtain ⟨h1, h2, _⟩ := buildP_zero hz
  obtain ⟨hf, hfull⟩ := orderRes_zero h2
  have hlen : (insts ++ [x]).length = insts.length + 1 := by simp
  have hL : predsL (insts ++ [x]) = predsL insts ++ [(predsOf (insts ++ [x]) insts.length).1] := by
    unfold predsL
    rw [hlen, tb_succ, tb_ext (g := fun i => (predsOf insts i).1) (fun i hi => by rw [hp i hi])]
  have hg : ∀ i, i < insts.length → (predsL (insts ++ [x])).getD i [] = (predsOf insts i).1 := fun i hi => by rw [predsL_get (by omega), hp i hi]
  have hg2 : (predsL (insts ++ [x])).getD insts.length [] = (predsOf (insts ++ [x]) insts.length).1 := predsL_get (by omega)
  have hform : formOk (predsL (insts ++ [x])) := formOk_of fun i hi => by
    rw [predsL_len, hlen] at hi ⊢
    rcases Nat.lt_succ_iff_lt_or_eq.1 hi with h | rfl
    · rw [hg i h]
      have hfi := hf i (by rw [predsL_len]; exact h)
      rw [predsL_get h] at hfi
      have hrow := predsOf_range (insts := insts) (i := i) (by rw [predsL_len]; exact h) hf
      refine ⟨?_, fun p hp => by have := hrow p hp; omega⟩
      refine List.pairwise_iff_getElem.2 fun a b ha hb hab => ?_
      have hstep : ∀ m, m < (predsOf insts i).1.length → ∀ a, a < m → (predsOf insts i).1.getD a 0 < (predsOf insts i).1.getD m 0 := by
        intro m
        induction m with
        | zero => intro _ a ha; omega
        | succ m ih =>
          intro hm a ha
          have h3 := ((badAt_false.1 (hfi (m + 1) hm)).2.2 (by omega))
          rw [Nat.add_sub_cancel] at h3
          rcases Nat.lt_succ_iff_lt_or_eq.1 ha with h4 | rfl
          · have := ih (by omega) a h4; omega
          · exact h3
      have := hstep b hb a hab
      rw [getD_of 0 ha, getD_of 0 hb] at this
      exact this
    · rw [hg2]; exact ⟨hr.1, fun p hp => by have := hr.2 p hp; omega⟩
  have how := (orderL_onWay (preds := predsL insts) (ranks := ranksL insts)).1
  have hord := order_full (ranks := ranksL (insts ++ [x])) hform (fun y => if y < insts.length then (((orderL (predsL insts) (ranksL insts)).idxOf y : Nat) : Int) else (insts.length : Int) + 1) (fun y h0 hy p hp' => by
    rw [predsL_len, hlen] at hy
    rcases Int.lt_or_le y insts.length with h | h
    · obtain ⟨i, rfl⟩ : ∃ i : Nat, y = (i : Int) := ⟨y.toNat, by omega⟩
      have hi : i < insts.length := by omega
      rw [show ((i : Int)).toNat = i from rfl, hg i hi] at hp'
      have hrow := predsOf_range (insts := insts) (i := i) (by rw [predsL_len]; exact hi) hf p hp'
      obtain ⟨q, rfl⟩ : ∃ q : Nat, p = (q : Int) := ⟨p.toNat, by omega⟩
      have hmem : (i : Int) ∈ orderL (predsL insts) (ranksL insts) := full_mem how.nodup how.range hfull (by omega) (by rw [predsL_len]; omega)
      have := orderL_ahead hmem (by rw [predsL_get hi]; exact hp')
      rw [if_pos hrow.2, if_pos h]
      omega
    · have hy' : y.toNat = insts.length := by omega
      rw [hy', hg2] at hp'
      have hrow := hr.2 p hp'
      rw [if_pos hrow.2, if_neg (by omega)]
      obtain ⟨q, rfl⟩ : ∃ q : Nat, p = (q : Int) := ⟨p.toNat, by omega⟩
      have h5 : ((orderL (predsL insts) (ranksL insts)).idxOf (q : Int)) ≤ (orderL (predsL insts) (ranksL insts)).length := List.idxOf_le_length
      rw [hfull, predsL_len] at h5
      omega)
  rw [buildP_of (fun i hi => ?_) (orderRes_full hform (by rw [ranksL_len, predsL_len]) hord), hL]
  rw [hlen] at hi
  rcases Nat.lt_succ_iff_lt_or_eq.1 hi with h | rfl
  · rw [hp i h]; exact h1 i h
  · exact hc
/-- An instance more behind all others, of a stage above all, without needs. -/
theorem build_more (hz : (buildP insts).2.code = 0) (hT : ∀ i, i < insts.length → (insts.getD i ip0).stage < T) : ∃ last : List Int, last.length = insts.length ∧ buildP (insts ++ [newP T]) = (predsL insts ++ [last], fault0) := by
  have hp : ∀ i, i < insts.length → predsOf (insts ++ [newP T]) i = predsOf insts i := fun i hi => predsOf_more (x := newP T) (fun job hj => ofP_new hj) (fun i hi _ => by have := hT i hi; show ¬ T < _; omega) hi
  have hl : predsOf (insts ++ [newP T]) insts.length = (allP (fun _ => true) insts.length, fault0) := by
    unfold predsOf
    rw [snoc_last, if_neg (by show ¬ (false = true); decide), List.length_append, List.length_singleton, allP_snoc (q := fun _ => true) (fun k hk => by unfold stageQ; rw [snoc_get hk, snoc_last]; exact decide_eq_true (hT k hk)) (by unfold stageQ; exact decide_eq_false (Int.lt_irrefl _))]
  refine ⟨allP (fun _ => true) insts.length, by unfold allP; rw [List.length_map, List.filter_eq_self.2 (fun _ _ => rfl), List.length_range], ?_⟩
  rw [order_more hz hp (by rw [hl]; rfl) (by rw [hl]; exact ⟨allP_rise _ _, fun p hp' => by obtain ⟨k, hk, _, rfl⟩ := allP_mem.1 hp'; omega⟩), hl]
end
theorem f9_ok {I : Imm} {l : List Itm} {v : Value} {raws : List InstV} {insts : List InstP} (hg : GlobI I) (hi : Insts I v raws insts) (hF : ∀ k, k < raws.length → InstF I (raws.getD k inst0) (insts.getD k ip0)) (hone : raws.length < 1048576) :
    Ct Tryd.prog 9 [v] I l (fun r _ _ => r = .bool true) := by
  refine Ct_enter Tryd.func9 rfl rfl rfl ?_
  have hfew := hi.few
  have hlen := hi.len
  have hrow := hi.row
  have hc := hrow.sc
  refine K_seq ?_
  refine K_region ?_
  refine W_y (y_assign rfl) rfl rfl rfl ?_
  refine K_nil ?_
  refine K_then ?_
  refine K_seq ?_
  refine K_region ?_
  refine W_y (y_move rfl) rfl rfl rfl ?_
  refine W_a (a_call (enters_of Tryd.func22 (by kernel_rfl) rfl) rfl (f22_ok hi hF) rfl ?_) rfl
  rintro xv J1 _ hJ1 ⟨rx, rfl, hrl, hrF⟩
  refine K_give (fun J2 hJ2 hrx => ?_)
  have hJ12 := hJ1.trans hJ2
  have hins : Insts J2 xv rx insts := ⟨hrx, by omega, fun k hk => ((hrF k (by omega)).mono hJ2).ok, by omega⟩
  refine W_a (a_call (enters_of Tryd.func23 (by kernel_rfl) rfl) rfl (f23_ok (insts := insts) (hg.mono hJ12) hins) rfl ?_) rfl
  rintro _ J3 _ hJ3 ⟨pv, pvs, rfl, hp, rfl⟩
  have hJ := hJ12.trans hJ3
  refine W_y (y_move rfl) rfl rfl rfl ?_
  refine W_y (y_extract rfl rfl) rfl rfl rfl ?_
  refine W_y (y_extract rfl rfl) rfl rfl rfl ?_
  refine W_a (a_alloc tab rfl rfl ?_) rfl
  intro b4
  refine W_y (y_assign rfl) rfl rfl rfl ?_
  refine W_a (a_stw (us := (eFault.cells (buildP insts).2)) tab rfl rfl rfl rfl (eFault.one _) rfl ?_) rfl
  refine K_nil ?_
  refine K_then ?_
  refine K_seq ?_
  refine K_region ?_
  refine W_y (y_assign rfl) rfl rfl rfl ?_
  refine K_nil ?_
  refine K_then ?_
  refine K_seq ?_
  refine K_seq ?_
  refine K_region ?_
  refine W_y (y_assign rfl) rfl rfl rfl ?_
  refine K_nil ?_
  refine K_then ?_
  refine K_block ?_
  refine K_lp (σ := Nat) (fun s => J3) (fun s => [(0, v), (3, pv), (4, .pointer (some ⟨b4, 0, none⟩)), (5, .int .i64 (topK insts s)), (6, .int .i64 s)]) (fun s => blk b4 (.cells (eFault.cells (buildP insts).2).toArray 44 (0, 0)) :: l) (fun s => s ≤ raws.length) (fun s => raws.length - s) 0 rfl (by repeat first | exact .nil _ | refine .cons rfl ?_) rfl (Nat.zero_le _) ?_
  intro k hk
  refine K_seq ?_
  refine K_seq ?_
  refine K_region ?_
  refine W_y (y_move rfl) rfl rfl rfl ?_
  refine W_y (y_move rfl) rfl rfl rfl ?_
  refine W_y (by first | exact y_lenc tab (by assumption) rfl rfl | exact y_lens tab rfl rfl | exact y_lenstr tab rfl rfl) rfl rfl rfl ?_
  refine W_y (y_lt rfl rfl) rfl rfl rfl ?_
  refine K_nil ?_
  refine K_then ?_
  first | refine K_if rfl (fun h1 => ?_) (fun h1 => ?_) | refine K_ifn rfl (fun h1 => ?_) (fun h1 => ?_) | refine K_cond rfl (fun h1 => ?_) (fun h1 => ?_)
  ·
    have hkl : k < raws.length := by omega
    refine K_skip ?_
    refine K_then ?_
    refine K_seq ?_
    refine K_block ?_
    refine K_region ?_
    refine W_y (y_move rfl) rfl rfl rfl ?_
    refine W_y (y_move rfl) rfl rfl rfl ?_
    refine W_y (y_move rfl) rfl rfl rfl ?_
    refine W_y (y_ixi tab hrow rfl rfl rfl rfl (by omega)) rfl rfl rfl ?_
    refine W_y (y_fae tab (hrow.sl (by omega)) rfl rfl rfl rfl rfl) rfl rfl rfl ?_
    refine W_y (y_load rfl (ld_rowi (e := eInst) (i := k) (j := 6) tab (hrow.mono hJ) rfl rfl (get_of inst0 (by omega)) rfl)) rfl rfl rfl ?_
    refine W_y (y_max rfl rfl) rfl rfl rfl ?_
    refine W_y (y_assign rfl) rfl rfl rfl ?_
    refine K_nil ?_
    refine K_in ?_
    refine K_then ?_
    refine K_region ?_
    refine W_y (y_move rfl) rfl rfl rfl ?_
    refine W_y (y_add rfl rfl (by omega)) rfl rfl rfl ?_
    refine W_y (y_assign rfl) rfl rfl rfl ?_
    refine K_nil ?_
    refine K_thenA ?_
    rw [show (raws.getD k inst0).stage = (insts.getD k ip0).stage from (hi.at_ k hkl).stage]
    exact K_back (k + 1) rfl (by repeat first | exact .nil _ | refine .cons rfl ?_) rfl (by omega) (by first | omega | (simp only; omega))
  ·
    have hke : k = raws.length := by omega
    subst hke
    refine K_exit ?_
    refine K_then_exit ?_
    refine K_then_exit ?_
    refine K_in_exit ?_
    refine K_then ?_
    refine K_seq ?_
    refine K_seq ?_
    refine K_region ?_
    refine W_y (y_move rfl) rfl rfl rfl ?_
    refine W_y (y_ge rfl rfl) rfl rfl rfl ?_
    refine W_y (y_move rfl) rfl rfl rfl ?_
    first | refine K_splitd 30 rfl (fun h2 => ?_) (fun h2 => ?_) | refine K_split 30 rfl (fun h2 => ?_) (fun h2 => ?_)
    ·
      refine W_skip rfl rfl rfl ?_
      refine W_skip rfl rfl rfl ?_
      refine W_skip rfl rfl rfl ?_
      refine W_y (y_pick rfl rfl) rfl rfl rfl ?_
      refine K_nil ?_
      refine K_then ?_
      refine K_yes rfl ?_
      refine K_seq ?_
      refine K_region ?_
      refine W_a (a_call (enters_of Tryd.func19 (by kernel_rfl) rfl) rfl (f19_ok (hg.mono hJ)) rfl ?_) rfl
      rintro _ J9 _ hJ9 ⟨rfl, rfl⟩
      refine W_y (y_assign rfl) rfl rfl rfl ?_
      refine K_nil ?_
      refine K_then ?_
      refine K_ret ?_
      refine K_then_ret ?_
      refine K_out1 rfl (.tmp rfl) ?_
      first
        | exact fun w hw => ⟨_, _, _, rfl, hJ.trans hJ9, hw, rfl⟩
        | exact fun w hw => ⟨_, _, _, rfl, hJ7.trans hJ9, hw, rfl⟩
    ·
      have htop := topK_ge (insts := insts) (n := raws.length)
      refine W_y (by first | exact y_fa tab rfl rfl rfl rfl rfl | exact y_fae tab (by assumption) rfl rfl rfl rfl rfl) rfl rfl rfl ?_
      refine W_y (y_load rfl (ld_cell tab rfl (rd_one .here rfl))) rfl rfl rfl ?_
      refine W_y (by first | exact y_ne rfl rfl | exact y_sne rfl rfl) rfl rfl rfl ?_
      refine W_y (y_pick rfl rfl) rfl rfl rfl ?_
      refine K_nil ?_
      refine K_then ?_
      first | refine K_if rfl (fun h3 => ?_) (fun h3 => ?_) | refine K_ifn rfl (fun h3 => ?_) (fun h3 => ?_) | refine K_cond rfl (fun h3 => ?_) (fun h3 => ?_)
      ·
        refine K_seq ?_
        refine K_region ?_
        refine W_a (a_call (enters_of Tryd.func19 (by kernel_rfl) rfl) rfl (f19_ok (hg.mono hJ)) rfl ?_) rfl
        rintro _ J9 _ hJ9 ⟨rfl, rfl⟩
        refine W_y (y_assign rfl) rfl rfl rfl ?_
        refine K_nil ?_
        refine K_then ?_
        refine K_ret ?_
        refine K_then_ret ?_
        refine K_out1 rfl (.tmp rfl) ?_
        first
          | exact fun w hw => ⟨_, _, _, rfl, hJ.trans hJ9, hw, rfl⟩
          | exact fun w hw => ⟨_, _, _, rfl, hJ7.trans hJ9, hw, rfl⟩
      ·
        have hcode : (buildP insts).2.code = 0 := h3
        obtain ⟨hz1, hz2, hz3⟩ := buildP_zero hcode
        rw [hz3] at hp
        simp only at hp
        obtain ⟨last, hlast, hbm⟩ := build_more (T := topK insts raws.length + 1) hcode (fun i hi => by have := htop.2 i (by omega); omega)
        refine K_skip ?_
        refine K_then ?_
        refine K_seq ?_
        refine K_region ?_
        refine W_y (y_move rfl) rfl rfl rfl ?_
        refine W_a (a_call (enters_of Tryd.func22 (by kernel_rfl) rfl) rfl (f22_ok (hi.mono hJ) (fun k hk => (hF k hk).mono hJ)) rfl ?_) rfl
        rintro xv2 J4 _ hJ4 ⟨rx2, rfl, hrl2, hrF2⟩
        refine W_y (y_move rfl) rfl rfl rfl ?_
        refine W_y (y_add rfl rfl (by omega)) rfl rfl rfl ?_
        refine W_y (y_build tab rfl rfl rfl rfl rfl) rfl rfl rfl ?_
        refine W_a (a_bs (e := eInst) (xs := [newI (topK insts raws.length + 1)]) (os := [.tmp 41]) tab rfl rfl rfl rfl rfl rfl rfl rfl rfl ?_) rfl
        intro b42
        refine K_f1 ?_
        refine W_a (a_app (e := eInst) (ys := [newI (topK insts raws.length + 1)]) tab rfl rfl rfl rfl rfl (rd_rowall .here) (by simp only [List.length_singleton]; omega) rfl ?_) rfl
        intro v43
        refine K_give (fun J5 hJ5 hrx2 => ?_)
        refine K_drop ?_
        have hJ45 := hJ4.trans hJ5
        have hJ6 := hJ.trans hJ45
        have hins2 : Insts J5 v43 (rx2 ++ [newI (topK insts raws.length + 1)]) (insts ++ [newP (topK insts raws.length + 1)]) := ⟨hrx2, by simp; omega, fun k hk => (by
          rw [List.length_append, List.length_singleton] at hk
          rcases Nat.lt_succ_iff_lt_or_eq.1 hk with h | rfl
          · rw [snoc_get (by omega), List.getD_eq_getElem?_getD, List.getElem?_append_left h, ← List.getD_eq_getElem?_getD]
            exact ((hrF2 k (by omega)).mono hJ5).ok
          · rw [show rx2.length = insts.length by omega, snoc_last, show insts.length = rx2.length by omega, List.getD_eq_getElem?_getD, List.getElem?_append_right (Nat.le_refl _)]
            simp only [Nat.sub_self, List.getElem?_cons_zero, Option.getD_some]
            exact ⟨rfl, RowI.nil _ _, RowI.nil _ _, rfl, rfl, rfl, fun n hn => (by cases hn), by show (0 : Nat) ≤ 1048576; omega⟩), by rw [List.length_append, List.length_singleton]; omega⟩
        refine W_a (a_call (enters_of Tryd.func23 (by kernel_rfl) rfl) rfl (f23_ok (insts := insts ++ [newP (topK insts raws.length + 1)]) (hg.mono hJ6) hins2) rfl ?_) rfl
        rintro _ J7 _ hJ67 ⟨qv, qvs, rfl, hq, rfl⟩
        rw [hbm] at hq ⊢
        simp only at hq ⊢
        have hJ7 := hJ6.trans hJ67
        have hJ37 := hJ45.trans hJ67
        have hql := hq.len
        rw [List.length_append, List.length_singleton, predsL_len] at hql
        have hqsc := hq.top.sc
        have hpl := hp.len
        rw [predsL_len] at hpl
        have hpsc := hp.top.sc
        have hqc := rowII_cut hq (j := insts.length) (by rw [List.length_append, predsL_len]; omega)
        rw [show (predsL insts ++ [last]).take insts.length = predsL insts by rw [← predsL_len (insts := insts), List.take_left']; rfl] at hqc
        have hla := hq.at_ insts.length (by rw [List.length_append, predsL_len, List.length_singleton]; omega)
        rw [show (predsL insts ++ [last]).getD insts.length [] = last by rw [List.getD_eq_getElem?_getD, List.getElem?_append_right (by rw [predsL_len]; omega), predsL_len]; simp] at hla
        have hlc := hla.sc
        rw [hlast] at hlc
        refine W_y (y_move rfl) rfl rfl rfl ?_
        refine W_y (y_extract rfl rfl) rfl rfl rfl ?_
        refine W_y (y_extract rfl rfl) rfl rfl rfl ?_
        refine W_a (a_alloc tab rfl rfl ?_) rfl
        intro b8
        refine W_y (y_assign rfl) rfl rfl rfl ?_
        refine W_a (a_stw (us := eFault.cells fault0) tab rfl rfl rfl rfl (eFault.one _) rfl ?_) rfl
        refine K_nil ?_
        refine K_then ?_
        refine K_seq ?_
        refine K_seq ?_
        refine K_region ?_
        refine W_y (by first | exact y_fa tab rfl rfl rfl rfl rfl | exact y_fae tab (by assumption) rfl rfl rfl rfl rfl) rfl rfl rfl ?_
        refine W_y (y_load rfl (ld_cell tab rfl (rd_one .here rfl))) rfl rfl rfl ?_
        refine W_y (by first | exact y_ne rfl rfl | exact y_sne rfl rfl) rfl rfl rfl ?_
        refine W_y (y_move rfl) rfl rfl rfl ?_
        refine K_split 50 rfl (fun h4 => ?_) (fun h4 => ?_)
        ·
          exact absurd h4 (by decide)
        ·
          refine W_y (y_move rfl) rfl rfl rfl ?_
          refine W_y (by first | exact y_lenc tab (by assumption) rfl rfl | exact y_lens tab rfl rfl | exact y_lenstr tab rfl rfl) rfl rfl rfl ?_
          refine W_y (y_move rfl) rfl rfl rfl ?_
          refine W_y (by first | exact y_lenc tab (by assumption) rfl rfl | exact y_lens tab rfl rfl | exact y_lenstr tab rfl rfl) rfl rfl rfl ?_
          refine W_y (y_add rfl rfl (by omega)) rfl rfl rfl ?_
          refine W_y (by first | exact y_ne rfl rfl | exact y_sne rfl rfl) rfl rfl rfl ?_
          refine W_y (y_pick rfl rfl) rfl rfl rfl ?_
          refine W_y (y_move rfl) rfl rfl rfl ?_
          refine K_split 58 rfl (fun h5 => ?_) (fun h5 => ?_)
          ·
            simp at h5; omega
          ·
            refine W_y (y_move rfl) rfl rfl rfl ?_
            refine W_y (y_move rfl) rfl rfl rfl ?_
            refine W_y (by first | exact y_lenc tab (by assumption) rfl rfl | exact y_lens tab rfl rfl | exact y_lenstr tab rfl rfl) rfl rfl rfl ?_
            refine W_y (y_slN 0 insts.length (y_sli tab hq.top rfl rfl rfl rfl rfl (by omega)) (by omega)) rfl rfl rfl ?_
            refine W_y (y_move rfl) rfl rfl rfl ?_
            refine W_a (a_call (enters_of Tryd.func14 (by kernel_rfl) rfl) rfl (f14_ok hqc (hp.mono hJ37)) rfl ?_) rfl
            rintro _ _ _ - ⟨rfl, rfl, rfl⟩
            rw [decide_eq_true (rfl : predsL insts = predsL insts)]
            refine W_y (y_not rfl) rfl rfl rfl ?_
            refine W_y (y_pick rfl rfl) rfl rfl rfl ?_
            refine W_y (y_move rfl) rfl rfl rfl ?_
            refine K_split 67 rfl (fun h6 => ?_) (fun h6 => ?_)
            ·
              cases h6
            ·
              refine W_y (y_move rfl) rfl rfl rfl ?_
              refine W_y (y_move rfl) rfl rfl rfl ?_
              refine W_y (by first | exact y_lenc tab (by assumption) rfl rfl | exact y_lens tab rfl rfl | exact y_lenstr tab rfl rfl) rfl rfl rfl ?_
              refine W_y (y_ixN insts.length (y_ixi tab hq.top rfl rfl rfl rfl (by omega)) (by omega)) rfl rfl rfl ?_
              refine W_y (y_load rfl (ld_vi (i := insts.length) tab hq.top rfl (by omega))) rfl rfl rfl ?_
              refine W_y (y_lenc tab hlc rfl rfl) rfl rfl rfl ?_
              refine W_y (y_move rfl) rfl rfl rfl ?_
              refine W_y (by first | exact y_lenc tab (by assumption) rfl rfl | exact y_lens tab rfl rfl | exact y_lenstr tab rfl rfl) rfl rfl rfl ?_
              refine W_y (by first | exact y_ne rfl rfl | exact y_sne rfl rfl) rfl rfl rfl ?_
              refine W_y (y_pick rfl rfl) rfl rfl rfl ?_
              refine K_nil ?_
              refine K_then ?_
              first | refine K_if rfl (fun h7 => ?_) (fun h7 => ?_) | refine K_ifn rfl (fun h7 => ?_) (fun h7 => ?_) | refine K_cond rfl (fun h7 => ?_) (fun h7 => ?_)
              ·
                exact absurd (by omega) h7
              ·
                refine K_skip ?_
                refine K_then ?_
                refine K_seq ?_
                refine K_region ?_
                refine W_a (a_call (enters_of Tryd.func19 (by kernel_rfl) rfl) rfl (f19_ok (hg.mono hJ7)) rfl ?_) rfl
                rintro _ J9 _ hJ9 ⟨rfl, rfl⟩
                refine W_y (y_assign rfl) rfl rfl rfl ?_
                refine K_nil ?_
                refine K_then ?_
                refine K_ret ?_
                refine K_out1 rfl (.tmp rfl) ?_
                first
                  | exact fun w hw => ⟨_, _, _, rfl, hJ.trans hJ9, hw, rfl⟩
                  | exact fun w hw => ⟨_, _, _, rfl, hJ7.trans hJ9, hw, rfl⟩
end Go.Proofs.YtfnmcpgajjkemaaDoor
