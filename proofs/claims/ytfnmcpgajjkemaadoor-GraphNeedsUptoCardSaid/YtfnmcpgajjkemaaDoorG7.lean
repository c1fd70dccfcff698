/- structs of package graph; at, vars.Get, need.of, need.means, all, Build$1. Printed by wip/gen/g7.py. -/
import Derived.Test.YtfnmcpgajjkemaaDoorG6
import Derived.Test.YtfnmcpgajjkemaaDoorTab
import Derived.Test.YtfnmcpgajjkemaaDoorOrderP
namespace Go.Proofs.YtfnmcpgajjkemaaDoor
open Go Go.RowKit Go.Proofs.YtfnmcpgajjkemaaDoor.SW
set_option maxRecDepth 100000
set_option maxHeartbeats 400000
structure FaultV where
  code : Int
  file : ByteArray
  line : Int
  col : Int
  deriving DecidableEq
def FaultV.cells (x : FaultV) : List Value := [.int .i64 x.code, .string x.file, .int .i64 x.line, .int .i64 x.col]
def eFault : Enc FaultV := ⟨4, FaultV.cells, fun _ => rfl, by decide, fun x v h => by
  simp only [FaultV.cells, List.mem_cons, List.not_mem_nil, or_false] at h
  rcases h with rfl | rfl | rfl | rfl <;> rfl⟩
structure NeedV where
  text : ByteArray
  at_ : FaultV
def NeedV.cells (x : NeedV) : List Value := .string x.text :: x.at_.cells
def eNeed : Enc NeedV := ⟨5, NeedV.cells, fun _ => rfl, by decide, fun x v h => by
  rcases List.mem_cons.1 h with rfl | h
  · rfl
  · exact eFault.one _ _ h⟩
structure InstV where
  name : ByteArray
  job : Int
  pick : SV
  vars : SV
  run : ByteArray
  needs : SV
  stage : Int
  when_ : Int
  allow : Bool
  weight : Int
  rules : SV
  has : Bool
  at_ : FaultV
def InstV.cells (x : InstV) : List Value := [.string x.name, .int .i64 x.job, x.pick.1, x.vars.1, .string x.run, x.needs.1, .int .i64 x.stage, .int .i64 x.when_, .bool x.allow, .int .i64 x.weight, x.rules.1, .bool x.has, .int .i64 x.at_.code, .string x.at_.file, .int .i64 x.at_.line, .int .i64 x.at_.col]
def eInst : Enc InstV := ⟨16, InstV.cells, fun _ => rfl, by decide, fun x v h => by
  simp only [InstV.cells, List.mem_cons, List.not_mem_nil, or_false] at h
  rcases h with rfl | rfl | rfl | rfl | rfl | rfl | rfl | rfl | rfl | rfl | rfl | rfl | rfl | rfl | rfl | rfl <;> first | rfl | exact x.pick.2 | exact x.vars.2 | exact x.needs.2 | exact x.rules.2⟩
/-- What a list of variables says of a name. -/
def getP (xs : List (ByteArray × ByteArray)) (name : ByteArray) : Option ByteArray := (xs.find? fun p => decide (p.1 = name)).map (·.2)
theorem find_hit {α : Type} {q : α → Bool} : ∀ {xs : List α} {k : Nat} {x : α}, (∀ i y, i < k → xs[i]? = some y → q y = false) → xs[k]? = some x → q x = true → xs.find? q = some x
  | [], _, _, _, h, _ => by simp at h
  | y :: xs, 0, x, _, h, hq => by simp at h; subst h; simp [hq]
  | y :: xs, k + 1, x, hn, h, hq => by
    have h0 := hn 0 y (Nat.succ_pos _) rfl
    rw [List.find?_cons_of_neg (by simp [h0])]
    exact find_hit (k := k) (fun i z hi hz => hn (i + 1) z (by omega) (by simpa using hz)) (by simpa using h) hq
abbrev ss0 : ByteArray × ByteArray := (⟨#[]⟩, ⟨#[]⟩)
theorem getP_hit {xs : List (ByteArray × ByteArray)} {name : ByteArray} {k : Nat} (hn : ∀ i, i < k → (xs.getD i ss0).1 ≠ name) (hk : k < xs.length) (h : (xs.getD k ss0).1 = name) : getP xs name = some (xs.getD k ss0).2 := by
  unfold getP
  rw [find_hit (k := k) (x := xs.getD k ss0) (fun i y hi hy => ?_) (get_of ss0 hk) (by simpa using h)]
  · rfl
  · have := hn i hi
    rw [List.getD_eq_getElem?_getD, hy] at this
    simpa using this
theorem getP_miss {xs : List (ByteArray × ByteArray)} {name : ByteArray} (hn : ∀ i, i < xs.length → (xs.getD i ss0).1 ≠ name) : getP xs name = none := by
  unfold getP
  rw [List.find?_eq_none.2 (fun y hy => ?_)]
  · rfl
  · obtain ⟨i, hi, rfl⟩ := List.mem_iff_getElem.1 hy
    have := hn i hi
    rw [List.getD_eq_getElem?_getD, List.getElem?_eq_getElem hi] at this
    simpa using this
theorem f41_ok {I : Imm} {l : List Itm} {e : Int} {x : FaultV} : Ct Tryd.prog 41 [.int .i64 e, .agg (eFault.cells x).toArray] I l (fun r J m => r = .agg (eFault.cells { x with code := e }).toArray ∧ I = J ∧ l = m) := by
  refine Ct_enter Tryd.func41 rfl rfl rfl ?_
  refine K_seq ?_
  refine K_region ?_
  refine W_a (a_box rfl rfl ?_) rfl
  intro b3
  refine W_a (a_alloc tab rfl rfl ?_) rfl
  intro b4
  refine K_nil ?_
  refine K_then ?_
  refine K_seq ?_
  refine K_region ?_
  refine W_y (y_move rfl) rfl rfl rfl ?_
  refine W_y (by first | exact y_fa tab rfl rfl rfl rfl rfl | exact y_fae tab (by assumption) rfl rfl rfl rfl rfl) rfl rfl rfl ?_
  refine K_f1 ?_
  refine W_a (a_st tab rfl rfl rfl rfl (by first | rfl | assumption) rfl ?_) rfl
  refine K_nil ?_
  refine K_then ?_
  refine K_seq ?_
  refine K_region ?_
  refine W_y (y_load rfl (ld_agg tab rfl rfl rfl (rd_all .here))) rfl rfl rfl ?_
  refine K_f1 ?_
  refine W_a (a_stw (us := eFault.cells { x with code := e }) tab rfl rfl rfl rfl (eFault.one _) rfl ?_) rfl
  refine K_nil ?_
  refine K_then ?_
  refine K_ret ?_
  refine K_out1 rfl (.cell rfl (ld_agg tab rfl rfl rfl (rd_all .here))) ?_
  exact fun w hw => ⟨_, _, _, rfl, Imm.le.refl _, hw.drop.drop, rfl, rfl, rfl⟩
theorem f60_ok {I : Imm} {l : List Itm} {v : Value} {xs : List (ByteArray × ByteArray)} {name : ByteArray} (hr : RowI eStr2 I v xs) :
    Ct Tryd.prog 60 [v, .string name] I l (fun r J m => r = .tuple #[.string ((getP xs name).getD ⟨#[]⟩), .bool (getP xs name).isSome] ∧ I = J ∧ l = m) := by
  refine Ct_enter Tryd.func60 rfl rfl rfl ?_
  have hc := hr.sc
  have hm := hr.max
  simp only [maxLen] at hm
  refine K_seq ?_
  refine K_region ?_
  refine W_y (y_assign rfl) rfl rfl rfl ?_
  refine W_y (y_assign rfl) rfl rfl rfl ?_
  refine K_nil ?_
  refine K_then ?_
  refine K_seq ?_
  refine K_seq ?_
  refine K_region ?_
  refine W_y (y_move rfl) rfl rfl rfl ?_
  refine W_y (by first | exact y_lenc tab (by assumption) rfl rfl | exact y_lens tab rfl rfl | exact y_lenstr tab rfl rfl) rfl rfl rfl ?_
  refine W_y (y_move rfl) rfl rfl rfl ?_
  refine K_nil ?_
  refine K_then ?_
  refine K_block ?_
  refine K_lp (σ := Nat) (fun s => I) (fun s => [(0, v), (1, .string name), (8, v), (9, .int .i64 xs.length), (10, .int .i64 s)]) (fun s => l) (fun s => s ≤ xs.length ∧ ∀ i, i < s → (xs.getD i ss0).1 ≠ name) (fun s => xs.length - s) 0 rfl (by repeat first | exact .nil _ | refine .cons rfl ?_) rfl ⟨Nat.zero_le _, fun i h => absurd h (Nat.not_lt_zero i)⟩ ?_
  rintro k ⟨hk, hin⟩
  refine K_seq ?_
  refine K_region ?_
  refine W_y (y_lt rfl rfl) rfl rfl rfl ?_
  refine K_nil ?_
  refine K_then ?_
  refine K_seq ?_
  first | refine K_if rfl (fun h1 => ?_) (fun h1 => ?_) | refine K_ifn rfl (fun h1 => ?_) (fun h1 => ?_) | refine K_cond rfl (fun h1 => ?_) (fun h1 => ?_)
  ·
    refine K_skip ?_
    refine K_then ?_
    refine K_seq ?_
    refine K_block ?_
    refine K_seq ?_
    refine K_region ?_
    refine W_y (y_ixi tab hr rfl rfl rfl rfl (by omega)) rfl rfl rfl ?_
    refine W_y (y_load rfl (ld_rowia (i := k) tab hr rfl rfl rfl rfl (get_of ss0 (by omega)))) rfl rfl rfl ?_
    refine W_a (a_alloc tab rfl rfl ?_) rfl
    intro b7
    refine W_a (a_stw (us := eStr2.cells (xs.getD k ss0)) tab rfl rfl rfl rfl (eStr2.one _) rfl ?_) rfl
    refine K_nil ?_
    refine K_then ?_
    refine K_seq ?_
    refine K_region ?_
    refine W_y (by first | exact y_fa tab rfl rfl rfl rfl rfl | exact y_fae tab (by assumption) rfl rfl rfl rfl rfl) rfl rfl rfl ?_
    refine W_y (y_load rfl (ld_cell tab rfl (rd_one .here rfl))) rfl rfl rfl ?_
    refine W_y (y_move rfl) rfl rfl rfl ?_
    refine W_y (by first | exact y_eq rfl rfl | exact y_seq rfl rfl) rfl rfl rfl ?_
    refine K_nil ?_
    refine K_then ?_
    first | refine K_if rfl (fun h2 => ?_) (fun h2 => ?_) | refine K_ifn rfl (fun h2 => ?_) (fun h2 => ?_) | refine K_cond rfl (fun h2 => ?_) (fun h2 => ?_)
    ·
      have hres := getP_hit hin (by omega) h2
      refine K_seq ?_
      refine K_region ?_
      refine W_y (by first | exact y_fa tab rfl rfl rfl rfl rfl | exact y_fae tab (by assumption) rfl rfl rfl rfl rfl) rfl rfl rfl ?_
      refine W_y (y_load rfl (ld_cell tab rfl (rd_one .here rfl))) rfl rfl rfl ?_
      refine W_y (y_assign rfl) rfl rfl rfl ?_
      refine W_y (y_assign rfl) rfl rfl rfl ?_
      refine K_nil ?_
      refine K_then ?_
      refine K_ret ?_
      refine K_in_ret ?_
      refine K_then_ret ?_
      refine K_then_ret ?_
      refine K_in_ret ?_
      refine K_then_ret ?_
      refine K_out2 rfl (.tmp rfl) (.tmp rfl) ?_
      first
        | exact fun w hw => ⟨_, _, _, rfl, Imm.le.refl _, hw.drop, by rw [hres]; rfl, rfl, rfl⟩
        | exact fun w hw => ⟨_, _, _, rfl, Imm.le.refl _, hw, by rw [hres]; rfl, rfl, rfl⟩
    ·
      have hne := h2
      refine K_skip ?_
      refine K_in ?_
      refine K_then ?_
      refine K_region ?_
      refine W_y (y_add rfl rfl (by omega)) rfl rfl rfl ?_
      refine W_y (y_move rfl) rfl rfl rfl ?_
      refine K_nil ?_
      refine K_thenA ?_
      refine K_drop ?_
      exact K_back (k + 1) rfl (by repeat first | exact .nil _ | refine .cons rfl ?_) rfl ⟨by omega, all_succ hin hne⟩ (by first | omega | (simp only; omega))
  ·
    have hres : getP xs name = none := getP_miss (fun i hi => hin i (by omega))
    refine K_exit ?_
    refine K_then_exit ?_
    refine K_then_exit ?_
    refine K_in_exit ?_
    refine K_then ?_
    refine K_seq ?_
    refine K_region ?_
    refine W_y (y_assign rfl) rfl rfl rfl ?_
    refine W_y (y_assign rfl) rfl rfl rfl ?_
    refine K_nil ?_
    refine K_then ?_
    refine K_ret ?_
    refine K_out2 rfl (.tmp rfl) (.tmp rfl) ?_
    first
      | exact fun w hw => ⟨_, _, _, rfl, Imm.le.refl _, hw.drop, by rw [hres]; rfl, rfl, rfl⟩
      | exact fun w hw => ⟨_, _, _, rfl, Imm.le.refl _, hw, by rw [hres]; rfl, rfl, rfl⟩
theorem all_take {xs : List (ByteArray × ByteArray)} {k : Nat} (hk : k < xs.length) {q : ByteArray × ByteArray → Bool} : (xs.take (k + 1)).all q = ((xs.take k).all q && q (xs.getD k ss0)) := by
  rw [List.take_add_one, List.getElem?_eq_getElem hk, List.all_append, List.getD_eq_getElem?_getD, List.getElem?_eq_getElem hk]
  simp
theorem opt_eq {o : Option ByteArray} {s : ByteArray} (h : o.isSome = true) : decide (o.getD ⟨#[]⟩ = s) = decide (o = some s) := by
  cases o with
  | none => cases h
  | some x => simp
theorem opt_no {a : Bool} {o : Option ByteArray} {s : ByteArray} (h : o.isSome = false) : false = (a && decide (o = some s)) := by
  cases o with
  | none => simp
  | some x => cases h
/-- Is an instance of this name one of a job? -/
def ofP (job name : ByteArray) : Bool := decide (name = job) || preS name (job ++ ⟨#[91]⟩)
theorem ofP_hit {job name : ByteArray} (h : name = job) : ofP job name = true := by unfold ofP; rw [decide_eq_true h]; rfl
theorem ofP_miss {job name : ByteArray} (h : ¬ name = job) : ofP job name = preS name (job ++ ⟨#[91]⟩) := by unfold ofP; rw [decide_eq_false h]; rfl
def meansP (job : ByteArray) (ps : List (ByteArray × ByteArray)) (name : ByteArray) (vars : List (ByteArray × ByteArray)) : Bool := ofP job name && ps.all fun p => decide (getP vars p.1 = some p.2)
theorem f48_ok {I : Imm} {l : List Itm} {job : ByteArray} {pv : SV} {x : InstV} (hs : job.size < 4294967281) :
    Ct Tryd.prog 48 [.agg #[.string job, pv.1], .agg (eInst.cells x).toArray] I l (fun r J m => r = .bool (ofP job x.name) ∧ I = J ∧ l = m) := by
  refine Ct_enter Tryd.func48 rfl rfl rfl ?_
  refine K_seq ?_
  refine K_region ?_
  refine W_a (a_box rfl rfl ?_) rfl
  intro b2
  refine W_a (a_box rfl rfl ?_) rfl
  intro b3
  refine W_y (y_assign rfl) rfl rfl rfl ?_
  refine K_nil ?_
  refine K_then ?_
  refine K_seq ?_
  refine K_region ?_
  refine W_y (by first | exact y_fa tab rfl rfl rfl rfl rfl | exact y_fae tab (by assumption) rfl rfl rfl rfl rfl) rfl rfl rfl ?_
  refine W_y (y_load rfl (ld_cell tab rfl (by first | exact rd_one .here rfl | exact rd_one (.there .here) rfl))) rfl rfl rfl ?_
  refine W_y (by first | exact y_fa tab rfl rfl rfl rfl rfl | exact y_fae tab (by assumption) rfl rfl rfl rfl rfl) rfl rfl rfl ?_
  refine W_y (y_load rfl (ld_cell tab rfl (by first | exact rd_one .here rfl | exact rd_one (.there .here) rfl))) rfl rfl rfl ?_
  refine W_y (by first | exact y_eq rfl rfl | exact y_seq rfl rfl) rfl rfl rfl ?_
  refine W_y (y_move rfl) rfl rfl rfl ?_
  first | refine K_splitd 10 rfl (fun h1 => ?_) (fun h1 => ?_) | refine K_split 10 rfl (fun h1 => ?_) (fun h1 => ?_)
  ·
    have q1 := h1
    refine W_skip rfl rfl rfl ?_
    refine W_skip rfl rfl rfl ?_
    refine W_skip rfl rfl rfl ?_
    refine W_skip rfl rfl rfl ?_
    refine W_skip rfl rfl rfl ?_
    refine W_skip rfl rfl rfl ?_
    refine W_y (y_pick rfl rfl) rfl rfl rfl ?_
    refine W_y (y_assign rfl) rfl rfl rfl ?_
    refine K_nil ?_
    refine K_then ?_
    refine K_ret ?_
    refine K_out1 rfl (.tmp rfl) ?_
    exact fun w hw => ⟨_, _, _, rfl, Imm.le.refl _, hw.drop.drop, by first | rw [ofP_hit q1] | rw [ofP_miss q1], rfl, rfl⟩
  ·
    have q1 := h1
    refine W_y (by first | exact y_fa tab rfl rfl rfl rfl rfl | exact y_fae tab (by assumption) rfl rfl rfl rfl rfl) rfl rfl rfl ?_
    refine W_y (y_load rfl (ld_cell tab rfl (by first | exact rd_one .here rfl | exact rd_one (.there .here) rfl))) rfl rfl rfl ?_
    refine W_y (by first | exact y_fa tab rfl rfl rfl rfl rfl | exact y_fae tab (by assumption) rfl rfl rfl rfl rfl) rfl rfl rfl ?_
    refine W_y (y_load rfl (ld_cell tab rfl (by first | exact rd_one .here rfl | exact rd_one (.there .here) rfl))) rfl rfl rfl ?_
    refine W_y (y_cat rfl rfl (Nat.le_trans (Nat.add_le_add_right (Nat.le_of_lt hs) _) (by decide))) rfl rfl rfl ?_
    refine W_a (a_call (enters_of Tryd.func59 (by kernel_rfl) rfl) rfl (c_hasprefix) rfl ?_) rfl
    rintro _ _ _ - ⟨rfl, rfl, rfl⟩
    refine W_y (y_pick rfl rfl) rfl rfl rfl ?_
    refine W_y (y_assign rfl) rfl rfl rfl ?_
    refine K_nil ?_
    refine K_then ?_
    refine K_ret ?_
    refine K_out1 rfl (.tmp rfl) ?_
    exact fun w hw => ⟨_, _, _, rfl, Imm.le.refl _, hw.drop.drop, by first | rw [ofP_hit q1] | rw [ofP_miss q1], rfl, rfl⟩
theorem f49_ok {I : Imm} {l : List Itm} {job : ByteArray} {pv : SV} {ps vars : List (ByteArray × ByteArray)} {x : InstV} (hs : job.size < 4294967281) (hp : RowI eStr2 I pv.1 ps) (hv : RowI eStr2 I x.vars.1 vars) :
    Ct Tryd.prog 49 [.agg #[.string job, pv.1], .agg (eInst.cells x).toArray] I l (fun r J m => r = .bool (meansP job ps x.name vars) ∧ I = J ∧ l = m) := by
  refine Ct_enter Tryd.func49 rfl rfl rfl ?_
  have hc := hp.sc
  have hm := hp.max
  simp only [maxLen] at hm
  refine K_seq ?_
  refine K_region ?_
  refine W_a (a_box (v := .agg #[.string job, pv.1]) rfl rfl ?_) rfl
  intro b2
  refine W_a (a_box rfl rfl ?_) rfl
  intro b3
  refine W_y (y_assign rfl) rfl rfl rfl ?_
  refine K_nil ?_
  refine K_then ?_
  refine K_seq ?_
  refine K_region ?_
  refine W_y (y_load rfl (ld_agg tab rfl rfl rfl (rd_all (.there .here)))) rfl rfl rfl ?_
  refine W_y (y_load rfl (ld_agg tab rfl rfl rfl (rd_all .here))) rfl rfl rfl ?_
  refine W_a (a_call (enters_of Tryd.func48 (by kernel_rfl) rfl) rfl (f48_ok (x := x) hs) rfl ?_) rfl
  rintro _ _ _ - ⟨rfl, rfl, rfl⟩
  refine W_y (y_assign rfl) rfl rfl rfl ?_
  refine K_nil ?_
  refine K_then ?_
  refine K_seq ?_
  refine K_seq ?_
  refine K_region ?_
  refine W_y (by first | exact y_fa tab rfl rfl rfl rfl rfl | exact y_fae tab (by assumption) rfl rfl rfl rfl rfl) rfl rfl rfl ?_
  refine W_y (y_load rfl (v := pv.1) (ld_cell tab rfl (rd_one (.there .here) rfl))) rfl rfl rfl ?_
  refine W_y (by first | exact y_lenc tab (by assumption) rfl rfl | exact y_lens tab rfl rfl | exact y_lenstr tab rfl rfl) rfl rfl rfl ?_
  refine W_y (y_move rfl) rfl rfl rfl ?_
  refine K_nil ?_
  refine K_then ?_
  refine K_block ?_
  refine K_lp (σ := Nat × Bool) (fun s => I) (fun s => [(2, .pointer (some ⟨b2, 0, none⟩)), (3, .pointer (some ⟨b3, 0, none⟩)), (5, .bool s.2), (14, pv.1), (15, .int .i64 ps.length), (16, .int .i64 s.1)]) (fun s => blk b3 (.cells (eInst.cells x).toArray 46 (0, 0)) :: blk b2 (.cells #[.string job, pv.1] 91 (0, 0)) :: l) (fun s => s.1 ≤ ps.length ∧ s.2 = (ofP job x.name && (ps.take s.1).all fun p => decide (getP vars p.1 = some p.2))) (fun s => ps.length - s.1) (0, ofP job x.name) rfl (by repeat first | exact .nil _ | refine .cons rfl ?_) rfl ⟨Nat.zero_le _, by simp⟩ ?_
  rintro ⟨k, acc⟩ ⟨hk, hacc⟩
  simp only at hk hacc ⊢
  refine K_seq ?_
  refine K_region ?_
  refine W_y (y_lt rfl rfl) rfl rfl rfl ?_
  refine K_nil ?_
  refine K_then ?_
  refine K_seq ?_
  first | refine K_if rfl (fun h1 => ?_) (fun h1 => ?_) | refine K_ifn rfl (fun h1 => ?_) (fun h1 => ?_) | refine K_cond rfl (fun h1 => ?_) (fun h1 => ?_)
  ·
    have hk1 : k < ps.length := by omega
    refine K_skip ?_
    refine K_then ?_
    refine K_seq ?_
    refine K_block ?_
    refine K_seq ?_
    refine K_region ?_
    refine W_y (y_ixi tab hp rfl rfl rfl rfl (by omega)) rfl rfl rfl ?_
    refine W_y (y_load rfl (ld_rowia (i := k) tab hp rfl rfl rfl rfl (get_of ss0 (by omega)))) rfl rfl rfl ?_
    refine W_a (a_alloc tab rfl rfl ?_) rfl
    intro b7
    refine W_a (a_stw (us := eStr2.cells (ps.getD k ss0)) tab rfl rfl rfl rfl (eStr2.one _) rfl ?_) rfl
    refine K_nil ?_
    refine K_then ?_
    refine K_seq ?_
    refine K_region ?_
    refine W_y (by first | exact y_fa tab rfl rfl rfl rfl rfl | exact y_fae tab (by assumption) rfl rfl rfl rfl rfl) rfl rfl rfl ?_
    refine W_y (y_load rfl (v := x.vars.1) (ld_cell tab rfl (rd_one (.there .here) rfl))) rfl rfl rfl ?_
    refine W_y (by first | exact y_fa tab rfl rfl rfl rfl rfl | exact y_fae tab (by assumption) rfl rfl rfl rfl rfl) rfl rfl rfl ?_
    refine W_y (y_load rfl (ld_cell tab rfl (rd_one .here rfl))) rfl rfl rfl ?_
    refine W_a (a_call (enters_of Tryd.func60 (by kernel_rfl) rfl) rfl (f60_ok hv) rfl ?_) rfl
    rintro _ _ _ - ⟨rfl, rfl, rfl⟩
    refine W_y (y_move rfl) rfl rfl rfl ?_
    refine W_y (y_extract rfl rfl) rfl rfl rfl ?_
    refine W_y (y_extract rfl rfl) rfl rfl rfl ?_
    refine W_y (y_assign rfl) rfl rfl rfl ?_
    refine W_y (y_assign rfl) rfl rfl rfl ?_
    refine K_nil ?_
    refine K_then ?_
    refine K_region ?_
    refine W_y (y_move rfl) rfl rfl rfl ?_
    refine W_y (y_move rfl) rfl rfl rfl ?_
    refine K_split 29 rfl (fun h2 => ?_) (fun h2 => ?_)
    ·
      have q1 := h2
      refine W_y (y_move rfl) rfl rfl rfl ?_
      refine W_y (y_pick rfl rfl) rfl rfl rfl ?_
      refine W_y (y_move rfl) rfl rfl rfl ?_
      refine K_split 32 rfl (fun h3 => ?_) (fun h3 => ?_)
      ·
        have q2 := h3
        refine W_y (y_move rfl) rfl rfl rfl ?_
        refine W_y (by first | exact y_fa tab rfl rfl rfl rfl rfl | exact y_fae tab (by assumption) rfl rfl rfl rfl rfl) rfl rfl rfl ?_
        refine W_y (y_load rfl (ld_cell tab rfl (rd_one .here rfl))) rfl rfl rfl ?_
        refine W_y (by first | exact y_eq rfl rfl | exact y_seq rfl rfl) rfl rfl rfl ?_
        refine W_y (y_pick rfl rfl) rfl rfl rfl ?_
        refine W_y (y_assign rfl) rfl rfl rfl ?_
        refine K_nil ?_
        refine K_in ?_
        refine K_then ?_
        refine K_region ?_
        refine W_y (y_add rfl rfl (by omega)) rfl rfl rfl ?_
        refine W_y (y_move rfl) rfl rfl rfl ?_
        refine K_nil ?_
        refine K_thenA ?_
        refine K_drop ?_
        have hnx := all_take hk1 (q := fun p => decide (getP vars p.1 = some p.2))
        first
          | exact K_back (k + 1, decide ((getP vars (ps.getD k ss0).1).getD ⟨#[]⟩ = (ps.getD k ss0).2)) rfl (by repeat first | exact .nil _ | refine .cons rfl ?_) rfl ⟨by omega, by rw [hnx, ← Bool.and_assoc, ← hacc, q1, Bool.true_and]; exact opt_eq q2⟩ (by simp only; omega)
          | exact K_back (k + 1, false) rfl (by repeat first | exact .nil _ | refine .cons rfl ?_) rfl ⟨by omega, by rw [hnx, ← Bool.and_assoc, ← hacc]; exact opt_no q2⟩ (by simp only; omega)
          | exact K_back (k + 1, false) rfl (by repeat first | exact .nil _ | refine .cons rfl ?_) rfl ⟨by omega, by rw [hnx, ← Bool.and_assoc, ← hacc, q1]; rfl⟩ (by simp only; omega)
      ·
        have q2 := h3
        refine W_skip rfl rfl rfl ?_
        refine W_skip rfl rfl rfl ?_
        refine W_skip rfl rfl rfl ?_
        refine W_skip rfl rfl rfl ?_
        refine W_y (y_pick rfl rfl) rfl rfl rfl ?_
        refine W_y (y_assign rfl) rfl rfl rfl ?_
        refine K_nil ?_
        refine K_in ?_
        refine K_then ?_
        refine K_region ?_
        refine W_y (y_add rfl rfl (by omega)) rfl rfl rfl ?_
        refine W_y (y_move rfl) rfl rfl rfl ?_
        refine K_nil ?_
        refine K_thenA ?_
        refine K_drop ?_
        have hnx := all_take hk1 (q := fun p => decide (getP vars p.1 = some p.2))
        first
          | exact K_back (k + 1, decide ((getP vars (ps.getD k ss0).1).getD ⟨#[]⟩ = (ps.getD k ss0).2)) rfl (by repeat first | exact .nil _ | refine .cons rfl ?_) rfl ⟨by omega, by rw [hnx, ← Bool.and_assoc, ← hacc, q1, Bool.true_and]; exact opt_eq q2⟩ (by simp only; omega)
          | exact K_back (k + 1, false) rfl (by repeat first | exact .nil _ | refine .cons rfl ?_) rfl ⟨by omega, by rw [hnx, ← Bool.and_assoc, ← hacc]; exact opt_no q2⟩ (by simp only; omega)
          | exact K_back (k + 1, false) rfl (by repeat first | exact .nil _ | refine .cons rfl ?_) rfl ⟨by omega, by rw [hnx, ← Bool.and_assoc, ← hacc, q1]; rfl⟩ (by simp only; omega)
    ·
      have q1 := h2
      refine W_skip rfl rfl rfl ?_
      refine W_y (y_pick rfl rfl) rfl rfl rfl ?_
      refine W_y (y_move rfl) rfl rfl rfl ?_
      refine W_skip rfl rfl rfl ?_
      refine W_skip rfl rfl rfl ?_
      refine W_skip rfl rfl rfl ?_
      refine W_skip rfl rfl rfl ?_
      refine W_y (y_pick rfl rfl) rfl rfl rfl ?_
      refine W_y (y_assign rfl) rfl rfl rfl ?_
      refine K_nil ?_
      refine K_in ?_
      refine K_then ?_
      refine K_region ?_
      refine W_y (y_add rfl rfl (by omega)) rfl rfl rfl ?_
      refine W_y (y_move rfl) rfl rfl rfl ?_
      refine K_nil ?_
      refine K_thenA ?_
      refine K_drop ?_
      have hnx := all_take hk1 (q := fun p => decide (getP vars p.1 = some p.2))
      first
        | exact K_back (k + 1, decide ((getP vars (ps.getD k ss0).1).getD ⟨#[]⟩ = (ps.getD k ss0).2)) rfl (by repeat first | exact .nil _ | refine .cons rfl ?_) rfl ⟨by omega, by rw [hnx, ← Bool.and_assoc, ← hacc, q1, Bool.true_and]; exact opt_eq q2⟩ (by simp only; omega)
        | exact K_back (k + 1, false) rfl (by repeat first | exact .nil _ | refine .cons rfl ?_) rfl ⟨by omega, by rw [hnx, ← Bool.and_assoc, ← hacc]; exact opt_no q2⟩ (by simp only; omega)
        | exact K_back (k + 1, false) rfl (by repeat first | exact .nil _ | refine .cons rfl ?_) rfl ⟨by omega, by rw [hnx, ← Bool.and_assoc, ← hacc, q1]; rfl⟩ (by simp only; omega)
  ·
    refine K_exit ?_
    refine K_then_exit ?_
    refine K_then_exit ?_
    refine K_in_exit ?_
    refine K_then ?_
    refine K_seq ?_
    refine K_region ?_
    refine W_y (y_move rfl) rfl rfl rfl ?_
    refine W_y (y_assign rfl) rfl rfl rfl ?_
    refine K_nil ?_
    refine K_then ?_
    refine K_ret ?_
    refine K_out1 rfl (.tmp rfl) ?_
    exact fun w hw => ⟨_, _, _, rfl, Imm.le.refl _, hw.drop.drop, by rw [hacc, show k = ps.length by omega, List.take_length]; rfl, rfl, rfl⟩
theorem f39_ok {I : Imm} {l : List Itm} {x y : InstV} {b : Nat} (hat : At (blk b (.cells (eInst.cells y).toArray 46 (0, 0))) l) :
    Ct Tryd.prog 39 [.agg (eInst.cells x).toArray, .pointer (some ⟨b, 0, none⟩)] I l (fun r J m => r = .bool (decide (x.stage < y.stage)) ∧ I = J ∧ l = m) := by
  refine Ct_enter Tryd.func39 rfl rfl rfl ?_
  refine K_seq ?_
  refine K_region ?_
  refine W_a (a_box rfl rfl ?_) rfl
  intro b2
  refine W_y (y_assign rfl) rfl rfl rfl ?_
  refine K_nil ?_
  refine K_then ?_
  refine K_seq ?_
  refine K_region ?_
  refine W_y (by first | exact y_fa tab rfl rfl rfl rfl rfl | exact y_fae tab (by assumption) rfl rfl rfl rfl rfl) rfl rfl rfl ?_
  refine W_y (y_load rfl (v := .int .i64 x.stage) (ld_cell tab rfl (rd_one .here rfl))) rfl rfl rfl ?_
  refine W_y (by first | exact y_fa tab rfl rfl rfl rfl rfl | exact y_fae tab (by assumption) rfl rfl rfl rfl rfl) rfl rfl rfl ?_
  refine W_y (y_load rfl (v := .int .i64 y.stage) (ld_cell tab rfl (rd_one (.there hat) rfl))) rfl rfl rfl ?_
  refine W_y (y_lt rfl rfl) rfl rfl rfl ?_
  refine W_y (y_assign rfl) rfl rfl rfl ?_
  refine K_nil ?_
  refine K_then ?_
  refine K_ret ?_
  refine K_out1 rfl (.tmp rfl) ?_
  exact fun w hw => ⟨_, _, _, rfl, Imm.le.refl _, hw.drop, rfl, rfl, rfl⟩
/-- The numbers below n of which q holds. -/
def allP (q : Nat → Bool) (n : Nat) : List Int := ((List.range n).filter q).map fun (k : Nat) => (k : Int)
theorem allP_succ (q : Nat → Bool) (n : Nat) : allP q (n + 1) = if q n then allP q n ++ [(n : Int)] else allP q n := by
  simp only [allP, List.range_succ, List.filter_append, List.map_append]
  by_cases h : q n = true
  · rw [if_pos h]; simp [h]
  · rw [if_neg h]; simp [h]
theorem allP_len (q : Nat → Bool) (n : Nat) : (allP q n).length ≤ n := by
  unfold allP
  rw [List.length_map]
  exact Nat.le_trans (List.length_filter_le _ _) (by simp)
def inst0 : InstV := ⟨⟨#[]⟩, 0, svnil, svnil, ⟨#[]⟩, svnil, 0, 0, false, 0, svnil, false, ⟨0, ⟨#[]⟩, 0, 0⟩⟩
theorem at_app {x : Itm} {l : List Itm} (h : At x l) : ∀ (m : List Itm), At x (m ++ l)
  | [] => h
  | _ :: m => .there (at_app h m)
theorem f38_ok {I : Imm} {l : List Itm} {v : Value} {xs : List InstV} {f : FuncId} {first cap : List Value} {q : Nat → Bool} (hr : RowI eInst I v xs) (he : Enters Tryd.prog f)
    (hq : ∀ k, k < xs.length → ∀ m0 : List Itm, Ct Tryd.prog f (first ++ [.agg (eInst.cells (xs.getD k inst0)).toArray] ++ cap) I (m0 ++ l) (fun r J m => r = .bool (q k) ∧ I = J ∧ m0 ++ l = m)) (hn : xs.length * 8 ≤ 140737488355328) :
    Ct Tryd.prog 38 [v, .func (.func f) first.toArray cap.toArray] I l (fun r J m => I = J ∧ m = row eInt 3 r (allP q xs.length) :: l) := by
  refine Ct_enter Tryd.func38 rfl rfl rfl ?_
  have hc := hr.sc
  refine K_seq ?_
  refine K_region ?_
  refine W_y (y_assign rfl) rfl rfl rfl ?_
  refine K_nil ?_
  refine K_then ?_
  refine K_seq ?_
  refine K_region ?_
  refine W_y (y_assign rfl) rfl rfl rfl ?_
  refine K_nil ?_
  refine K_then ?_
  refine K_seq ?_
  refine K_seq ?_
  refine K_region ?_
  refine W_y (y_move rfl) rfl rfl rfl ?_
  refine W_y (by first | exact y_lenc tab (by assumption) rfl rfl | exact y_lens tab rfl rfl | exact y_lenstr tab rfl rfl) rfl rfl rfl ?_
  refine W_y (y_move rfl) rfl rfl rfl ?_
  refine K_nil ?_
  refine K_then ?_
  refine K_block ?_
  refine K_nilrow eInt 3 ?_
  refine K_lp (σ := Nat × Value) (fun s => I) (fun s => [(0, v), (1, .func (.func f) first.toArray cap.toArray), (5, s.2), (8, v), (9, .int .i64 xs.length), (10, .int .i64 s.1)]) (fun s => row eInt 3 s.2 (allP q s.1) :: l) (fun s => s.1 ≤ xs.length) (fun s => xs.length - s.1) (0, .slice none 0 0) rfl (by repeat first | exact .nil _ | refine .cons rfl ?_) rfl (Nat.zero_le _) ?_
  rintro ⟨k, u⟩ hk
  simp only at hk ⊢
  have hal := allP_len q k
  refine K_seq ?_
  refine K_region ?_
  refine W_y (y_lt rfl rfl) rfl rfl rfl ?_
  refine K_nil ?_
  refine K_then ?_
  refine K_seq ?_
  first | refine K_if rfl (fun h1 => ?_) (fun h1 => ?_) | refine K_ifn rfl (fun h1 => ?_) (fun h1 => ?_) | refine K_cond rfl (fun h1 => ?_) (fun h1 => ?_)
  ·
    refine K_skip ?_
    refine K_then ?_
    refine K_seq ?_
    refine K_block ?_
    refine K_seq ?_
    refine K_region ?_
    refine W_y (y_move rfl) rfl rfl rfl ?_
    refine W_y (y_ixi tab hr rfl rfl rfl rfl (by omega)) rfl rfl rfl ?_
    refine W_y (y_load rfl (ld_rowia (i := k) tab hr rfl rfl rfl rfl (get_of inst0 (by omega)))) rfl rfl rfl ?_
    refine W_a (a_alloc tab rfl rfl ?_) rfl
    intro b7
    refine W_y (y_assign rfl) rfl rfl rfl ?_
    refine W_a (a_stw (us := eInst.cells (xs.getD k inst0)) tab rfl rfl rfl rfl (eInst.one _) rfl ?_) rfl
    refine K_nil ?_
    refine K_then ?_
    refine K_seq ?_
    refine K_region ?_
    refine W_y (y_move rfl) rfl rfl rfl ?_
    refine W_y (y_load rfl (ld_agg tab rfl rfl rfl (rd_all .here))) rfl rfl rfl ?_
    refine W_a (a_callv (vs := [.agg (eInst.cells (xs.getD k inst0)).toArray]) he rfl rfl (hq k (by omega) [blk b7 (.cells (eInst.cells (xs.getD k inst0)).toArray 46 (0, 0)), row eInt 3 u (allP q k)]) rfl ?_) rfl
    rintro _ _ _ - ⟨rfl, rfl, rfl⟩
    refine K_drop ?_
    refine K_nil ?_
    refine K_then ?_
    refine K_cond rfl (fun h2 => ?_) (fun h2 => ?_)
    ·
      have qk := h2
      refine K_region ?_
      refine W_y (y_move rfl) rfl rfl rfl ?_
      refine W_y (y_move rfl) rfl rfl rfl ?_
      refine W_a (a_bs (e := eInt) (xs := [(k : Int)]) (os := [.tmp 19]) tab rfl rfl rfl rfl rfl rfl rfl rfl rfl ?_) rfl
      intro b20
      refine K_f1 ?_
      refine W_a (a_app (e := eInt) (ys := [(k : Int)]) tab rfl rfl rfl rfl rfl (rd_rowall .here) (by simp only [List.length_singleton]; omega) rfl ?_) rfl
      intro v21
      refine K_f1 (K_drop ?_)
      refine W_y (y_assign rfl) rfl rfl rfl ?_
      refine K_nil ?_
      refine K_in ?_
      refine K_then ?_
      refine K_region ?_
      refine W_y (y_add rfl rfl (by omega)) rfl rfl rfl ?_
      refine W_y (y_move rfl) rfl rfl rfl ?_
      refine K_nil ?_
      refine K_thenA ?_
      first
        | (rw [show allP q k ++ [(k : Int)] = allP q (k + 1) by rw [allP_succ, if_pos qk]]
           exact K_back (k + 1, v21) rfl (by repeat first | exact .nil _ | refine .cons rfl ?_) rfl (by simp only; omega) (by simp only; omega))
        | (rw [show allP q k = allP q (k + 1) by rw [allP_succ, if_neg (by simp [qk])]]
           exact K_back (k + 1, u) rfl (by repeat first | exact .nil _ | refine .cons rfl ?_) rfl (by simp only; omega) (by simp only; omega))
    ·
      have qk := h2
      refine K_skip ?_
      refine K_in ?_
      refine K_then ?_
      refine K_region ?_
      refine W_y (y_add rfl rfl (by omega)) rfl rfl rfl ?_
      refine W_y (y_move rfl) rfl rfl rfl ?_
      refine K_nil ?_
      refine K_thenA ?_
      first
        | (rw [show allP q k ++ [(k : Int)] = allP q (k + 1) by rw [allP_succ, if_pos qk]]
           exact K_back (k + 1, v21) rfl (by repeat first | exact .nil _ | refine .cons rfl ?_) rfl (by simp only; omega) (by simp only; omega))
        | (rw [show allP q k = allP q (k + 1) by rw [allP_succ, if_neg (by simp [qk])]]
           exact K_back (k + 1, u) rfl (by repeat first | exact .nil _ | refine .cons rfl ?_) rfl (by simp only; omega) (by simp only; omega))
  ·
    have hke : k = xs.length := by omega
    subst hke
    refine K_exit ?_
    refine K_then_exit ?_
    refine K_then_exit ?_
    refine K_in_exit ?_
    refine K_then ?_
    refine K_seq ?_
    refine K_region ?_
    refine W_y (y_move rfl) rfl rfl rfl ?_
    refine W_y (y_assign rfl) rfl rfl rfl ?_
    refine K_nil ?_
    refine K_then ?_
    refine K_ret ?_
    refine K_out1 rfl (.tmp rfl) ?_
    exact fun w hw => ⟨_, _, _, rfl, Imm.le.refl _, hw, rfl, rfl⟩
end Go.Proofs.YtfnmcpgajjkemaaDoor
