/- graph.may, graph.left. Printed by wip/gen/g3.py. -/
import Derived.Test.YtfnmcpgajjkemaaDoorBld
import Derived.Test.YtfnmcpgajjkemaaDoorTab
import Derived.Test.YtfnmcpgajjkemaaDoorOrderP
import Derived.Test.YtfnmcpgajjkemaaDoorCycP
namespace Go.Proofs.YtfnmcpgajjkemaaDoor
open Go Go.RowKit Go.Proofs.YtfnmcpgajjkemaaDoor.SW
set_option maxRecDepth 100000
set_option maxHeartbeats 400000
theorem f25_ok {I : Imm} {l : List Itm} {v : Value} {vs : List SV} {xss : List (List Int)} (hr : RowII eInt I v vs xss) (hm : xss.length ≤ 140737488355328) :
    Ct Tryd.prog 25 [v] I l (fun r J m => r = .bool (decide (formOk xss)) ∧ I = J ∧ l = m) := by
  refine Ct_enter Tryd.func25 rfl rfl rfl ?_
  have hl := hr.len
  have hc := hr.top.sc
  rw [hl] at hc
  refine K_seq ?_
  refine K_region ?_
  refine W_y (y_assign rfl) rfl rfl rfl ?_
  refine K_nil ?_
  refine K_then ?_
  refine K_seq ?_
  refine K_seq ?_
  refine K_region ?_
  refine W_y (y_move rfl) rfl rfl rfl ?_
  refine W_y (by first | exact y_lenc tab (by assumption) rfl rfl | exact y_lens tab rfl rfl | exact y_lenstr tab rfl rfl) rfl rfl rfl ?_
  refine W_y (y_move rfl) rfl rfl rfl ?_
  refine K_nil ?_
  refine K_then ?_
  refine K_block ?_
  refine K_lp (σ := Nat) (fun s => I) (fun s => [(0, v), (7, v), (8, .int .i64 xss.length), (9, .int .i64 s)]) (fun s => l) (fun s => s ≤ xss.length ∧ ∀ i, i < s → ∀ k, k < (xss.getD i []).length → badAt xss.length (xss.getD i []) k = false) (fun s => xss.length - s) 0 rfl (by repeat first | exact .nil _ | refine .cons rfl ?_) rfl ⟨Nat.zero_le _, fun i h => absurd h (Nat.not_lt_zero i)⟩ ?_
  rintro i ⟨hi, hpre⟩
  refine K_seq ?_
  refine K_region ?_
  refine W_y (y_lt rfl rfl) rfl rfl rfl ?_
  refine K_nil ?_
  refine K_then ?_
  refine K_seq ?_
  first | refine K_if rfl (fun h1 => ?_) (fun h1 => ?_) | refine K_ifn rfl (fun h1 => ?_) (fun h1 => ?_) | refine K_cond rfl (fun h1 => ?_) (fun h1 => ?_)
  ·
    refine K_skip ?_
    refine K_then ?_
    refine K_seq ?_
    refine K_block ?_
    refine K_seq ?_
    refine K_region ?_
    refine W_y (y_ixi tab hr.top rfl rfl rfl rfl (by omega)) rfl rfl rfl ?_
    refine W_y (y_load rfl (ld_vi (i := i) tab hr.top rfl (by omega))) rfl rfl rfl ?_
    refine W_y (y_assign rfl) rfl rfl rfl ?_
    refine K_nil ?_
    refine K_then ?_
    refine K_seq ?_
    refine K_region ?_
    have hci := (hr.at_ i (by omega)).sc
    refine W_y (y_move rfl) rfl rfl rfl ?_
    refine W_y (by first | exact y_lenc tab (by assumption) rfl rfl | exact y_lens tab rfl rfl | exact y_lenstr tab rfl rfl) rfl rfl rfl ?_
    refine W_y (y_move rfl) rfl rfl rfl ?_
    refine K_nil ?_
    refine K_then ?_
    refine K_block ?_
    have hri := hr.at_ i (by omega)
    have hci := hri.sc
    have hmi := hri.max
    simp only [maxLen] at hmi
    refine K_lp (σ := Nat) (fun s => I) (fun s => [(0, v), (7, v), (8, .int .i64 xss.length), (9, .int .i64 i), (4, (vs.getD i svnil).1), (13, (vs.getD i svnil).1), (14, .int .i64 (xss.getD i []).length), (15, .int .i64 s)]) (fun s => l) (fun s => s ≤ (xss.getD i []).length ∧ ∀ k, k < s → badAt xss.length (xss.getD i []) k = false) (fun s => (xss.getD i []).length - s) 0 rfl (by repeat first | exact .nil _ | refine .cons rfl ?_) rfl ⟨Nat.zero_le _, fun k h => absurd h (Nat.not_lt_zero k)⟩ ?_
    rintro k ⟨hk, hin⟩
    refine K_seq ?_
    refine K_region ?_
    refine W_y (y_lt rfl rfl) rfl rfl rfl ?_
    refine K_nil ?_
    refine K_then ?_
    refine K_seq ?_
    first | refine K_if rfl (fun h2 => ?_) (fun h2 => ?_) | refine K_ifn rfl (fun h2 => ?_) (fun h2 => ?_) | refine K_cond rfl (fun h2 => ?_) (fun h2 => ?_)
    ·
      refine K_skip ?_
      refine K_then ?_
      refine K_seq ?_
      refine K_block ?_
      refine K_seq ?_
      refine K_region ?_
      refine W_y (y_move rfl) rfl rfl rfl ?_
      refine W_y (y_ixi tab hri rfl rfl rfl rfl (by omega)) rfl rfl rfl ?_
      refine W_y (y_load rfl (ld_ii (i := k) tab hri rfl (by omega))) rfl rfl rfl ?_
      refine W_y (y_assign rfl) rfl rfl rfl ?_
      refine W_y (y_assign rfl) rfl rfl rfl ?_
      refine K_nil ?_
      refine K_then ?_
      refine K_seq ?_
      refine K_region ?_
      refine W_y (y_move rfl) rfl rfl rfl ?_
      refine W_y (y_lt rfl rfl) rfl rfl rfl ?_
      refine W_y (y_move rfl) rfl rfl rfl ?_
      first | refine K_splitd 22 rfl (fun h3 => ?_) (fun h3 => ?_) | refine K_split 22 rfl (fun h3 => ?_) (fun h3 => ?_)
      ·
        have hres : decide (formOk xss) = false := decide_eq_false (fun hf => by
          have := hf i (by omega) k (by omega)
          simp only [badAt, Bool.or_eq_false_iff, Bool.and_eq_false_iff, decide_eq_false_iff_not] at this
          omega)
        refine W_skip rfl rfl rfl ?_
        refine W_skip rfl rfl rfl ?_
        refine W_skip rfl rfl rfl ?_
        refine W_skip rfl rfl rfl ?_
        refine W_y (y_pick rfl rfl) rfl rfl rfl ?_
        refine W_y (y_move rfl) rfl rfl rfl ?_
        refine W_skip rfl rfl rfl ?_
        refine W_skip rfl rfl rfl ?_
        refine W_skip rfl rfl rfl ?_
        refine W_skip rfl rfl rfl ?_
        refine W_skip rfl rfl rfl ?_
        refine W_skip rfl rfl rfl ?_
        refine W_skip rfl rfl rfl ?_
        refine W_skip rfl rfl rfl ?_
        refine W_skip rfl rfl rfl ?_
        refine W_skip rfl rfl rfl ?_
        refine W_skip rfl rfl rfl ?_
        refine W_y (y_pick rfl rfl) rfl rfl rfl ?_
        refine K_nil ?_
        refine K_then ?_
        refine K_yes rfl ?_
        refine K_seq ?_
        refine K_region ?_
        refine W_y (y_assign rfl) rfl rfl rfl ?_
        refine K_nil ?_
        refine K_then ?_
        refine K_ret ?_
        refine K_in_ret ?_
        refine K_then_ret ?_
        refine K_then_ret ?_
        refine K_in_ret ?_
        refine K_in_ret ?_
        refine K_then_ret ?_
        refine K_then_ret ?_
        refine K_in_ret ?_
        refine K_then_ret ?_
        refine K_out1 rfl (.tmp rfl) ?_
        exact fun w hw => ⟨_, _, _, rfl, Imm.le.refl _, hw, by rw [hres], rfl, rfl⟩
      ·
        refine W_y (y_move rfl) rfl rfl rfl ?_
        refine W_y (y_move rfl) rfl rfl rfl ?_
        refine W_y (by first | exact y_lenc tab (by assumption) rfl rfl | exact y_lens tab rfl rfl | exact y_lenstr tab rfl rfl) rfl rfl rfl ?_
        refine W_y (y_ge rfl rfl) rfl rfl rfl ?_
        refine W_y (y_pick rfl rfl) rfl rfl rfl ?_
        refine W_y (y_move rfl) rfl rfl rfl ?_
        first | refine K_splitd 28 rfl (fun h4 => ?_) (fun h4 => ?_) | refine K_split 28 rfl (fun h4 => ?_) (fun h4 => ?_)
        ·
          have hres : decide (formOk xss) = false := decide_eq_false (fun hf => by
            have := hf i (by omega) k (by omega)
            simp only [badAt, Bool.or_eq_false_iff, Bool.and_eq_false_iff, decide_eq_false_iff_not] at this
            omega)
          refine W_skip rfl rfl rfl ?_
          refine W_skip rfl rfl rfl ?_
          refine W_skip rfl rfl rfl ?_
          refine W_skip rfl rfl rfl ?_
          refine W_skip rfl rfl rfl ?_
          refine W_skip rfl rfl rfl ?_
          refine W_skip rfl rfl rfl ?_
          refine W_skip rfl rfl rfl ?_
          refine W_skip rfl rfl rfl ?_
          refine W_skip rfl rfl rfl ?_
          refine W_skip rfl rfl rfl ?_
          refine W_y (y_pick rfl rfl) rfl rfl rfl ?_
          refine K_nil ?_
          refine K_then ?_
          refine K_yes rfl ?_
          refine K_seq ?_
          refine K_region ?_
          refine W_y (y_assign rfl) rfl rfl rfl ?_
          refine K_nil ?_
          refine K_then ?_
          refine K_ret ?_
          refine K_in_ret ?_
          refine K_then_ret ?_
          refine K_then_ret ?_
          refine K_in_ret ?_
          refine K_in_ret ?_
          refine K_then_ret ?_
          refine K_then_ret ?_
          refine K_in_ret ?_
          refine K_then_ret ?_
          refine K_out1 rfl (.tmp rfl) ?_
          exact fun w hw => ⟨_, _, _, rfl, Imm.le.refl _, hw, by rw [hres], rfl, rfl⟩
        ·
          refine W_y (y_move rfl) rfl rfl rfl ?_
          refine W_y (y_gt rfl rfl) rfl rfl rfl ?_
          refine W_y (y_move rfl) rfl rfl rfl ?_
          first | refine K_splitd 31 rfl (fun h5 => ?_) (fun h5 => ?_) | refine K_split 31 rfl (fun h5 => ?_) (fun h5 => ?_)
          ·
            refine W_y (y_move rfl) rfl rfl rfl ?_
            refine W_y (y_move rfl) rfl rfl rfl ?_
            refine W_y (y_move rfl) rfl rfl rfl ?_
            refine W_y (y_sub rfl rfl (by omega)) rfl rfl rfl ?_
            refine W_y (y_ixN (k - 1) (y_ixi tab hri rfl rfl rfl rfl (by omega)) (by omega)) rfl rfl rfl ?_
            refine W_y (y_load rfl (ld_ii (i := k - 1) tab hri rfl (by omega))) rfl rfl rfl ?_
            refine W_y (y_le rfl rfl) rfl rfl rfl ?_
            refine W_y (y_pick rfl rfl) rfl rfl rfl ?_
            refine W_y (y_pick rfl rfl) rfl rfl rfl ?_
            refine K_nil ?_
            refine K_then ?_
            first | refine K_if rfl (fun h6 => ?_) (fun h6 => ?_) | refine K_ifn rfl (fun h6 => ?_) (fun h6 => ?_) | refine K_cond rfl (fun h6 => ?_) (fun h6 => ?_)
            ·
              have hres : decide (formOk xss) = false := decide_eq_false (fun hf => by
                have := hf i (by omega) k (by omega)
                simp only [badAt, Bool.or_eq_false_iff, Bool.and_eq_false_iff, decide_eq_false_iff_not] at this
                omega)
              refine K_seq ?_
              refine K_region ?_
              refine W_y (y_assign rfl) rfl rfl rfl ?_
              refine K_nil ?_
              refine K_then ?_
              refine K_ret ?_
              refine K_in_ret ?_
              refine K_then_ret ?_
              refine K_then_ret ?_
              refine K_in_ret ?_
              refine K_in_ret ?_
              refine K_then_ret ?_
              refine K_then_ret ?_
              refine K_in_ret ?_
              refine K_then_ret ?_
              refine K_out1 rfl (.tmp rfl) ?_
              exact fun w hw => ⟨_, _, _, rfl, Imm.le.refl _, hw, by rw [hres], rfl, rfl⟩
            ·
              refine K_skip ?_
              refine K_in ?_
              refine K_then ?_
              refine K_region ?_
              refine W_y (y_add rfl rfl (by omega)) rfl rfl rfl ?_
              refine W_y (y_move rfl) rfl rfl rfl ?_
              refine K_nil ?_
              refine K_thenA ?_
              have hb : badAt xss.length (xss.getD i []) k = false := by
                simp only [badAt, Bool.or_eq_false_iff, Bool.and_eq_false_iff, decide_eq_false_iff_not]
                omega
              exact K_back (k + 1) rfl (by repeat first | exact .nil _ | refine .cons rfl ?_) rfl ⟨by omega, all_succ hin hb⟩ (by first | omega | (simp only; omega))
          ·
            refine W_skip rfl rfl rfl ?_
            refine W_skip rfl rfl rfl ?_
            refine W_skip rfl rfl rfl ?_
            refine W_skip rfl rfl rfl ?_
            refine W_skip rfl rfl rfl ?_
            refine W_skip rfl rfl rfl ?_
            refine W_skip rfl rfl rfl ?_
            refine W_y (y_pick rfl rfl) rfl rfl rfl ?_
            refine W_y (y_pick rfl rfl) rfl rfl rfl ?_
            refine K_nil ?_
            refine K_then ?_
            refine K_no rfl ?_
            refine K_skip ?_
            refine K_in ?_
            refine K_then ?_
            refine K_region ?_
            refine W_y (y_add rfl rfl (by omega)) rfl rfl rfl ?_
            refine W_y (y_move rfl) rfl rfl rfl ?_
            refine K_nil ?_
            refine K_thenA ?_
            have hb : badAt xss.length (xss.getD i []) k = false := by
              simp only [badAt, Bool.or_eq_false_iff, Bool.and_eq_false_iff, decide_eq_false_iff_not]
              omega
            exact K_back (k + 1) rfl (by repeat first | exact .nil _ | refine .cons rfl ?_) rfl ⟨by omega, all_succ hin hb⟩ (by first | omega | (simp only; omega))
    ·
      have hnext : ∀ i', i' < i + 1 → ∀ k, k < (xss.getD i' []).length → badAt xss.length (xss.getD i' []) k = false := all_succ hpre (fun k' hk' => hin k' (by omega))
      refine K_exit ?_
      refine K_then_exit ?_
      refine K_then_exit ?_
      refine K_in_exit ?_
      refine K_in ?_
      refine K_then ?_
      refine K_region ?_
      refine W_y (y_add rfl rfl (by omega)) rfl rfl rfl ?_
      refine W_y (y_move rfl) rfl rfl rfl ?_
      refine K_nil ?_
      refine K_thenA ?_
      exact K_back (i + 1) rfl (by repeat first | exact .nil _ | refine .cons rfl ?_) rfl ⟨by omega, hnext⟩ (by first | omega | (simp only; omega))
  ·
    have hres : decide (formOk xss) = true := decide_eq_true (fun i' hi' => hpre i' (by omega))
    refine K_exit ?_
    refine K_then_exit ?_
    refine K_then_exit ?_
    refine K_in_exit ?_
    refine K_then ?_
    refine K_seq ?_
    refine K_region ?_
    refine W_y (y_assign rfl) rfl rfl rfl ?_
    refine K_nil ?_
    refine K_then ?_
    refine K_ret ?_
    refine K_out1 rfl (.tmp rfl) ?_
    exact fun w hw => ⟨_, _, _, rfl, Imm.le.refl _, hw, by rw [hres], rfl, rfl⟩
/-- The numbers below n that are not in a list, from k on. -/
def marks (n : Nat) (ord : List Int) (k : Nat) : List Bool := (List.range n).map fun (i : Nat) => decide ((i : Int) ∈ ord.take k)
theorem marks_len (n : Nat) (ord : List Int) (k : Nat) : (marks n ord k).length = n := by simp [marks]
theorem marks_zero (n : Nat) (ord : List Int) : marks n ord 0 = List.replicate n false := by
  refine List.ext_getElem? fun i => ?_
  by_cases h : i < n <;> simp [marks, h]
theorem marks_get {n : Nat} {ord : List Int} {k i : Nat} (h : i < n) : (marks n ord k).getD i false = decide ((i : Int) ∈ ord.take k) := by simp [marks, List.getD, h]
theorem marks_succ {n : Nat} {ord : List Int} {k : Nat} (hk : k < ord.length) (h0 : 0 ≤ ord.getD k 0) (h1 : ord.getD k 0 < n) : (marks n ord k).set (ord.getD k 0).toNat true = marks n ord (k + 1) := by
  refine List.ext_getElem? fun i => ?_
  have hg : ord.getD k 0 = ord[k] := by simp [List.getD, hk]
  rw [hg] at h0 h1 ⊢
  by_cases h : i < n
  · by_cases e : ord[k].toNat = i
    · have e' : (i : Int) = ord[k] := by omega
      rw [← e, List.getElem?_set_self (by rw [marks_len]; omega)]
      simp only [marks, List.getElem?_map, List.getElem?_range (show ord[k].toNat < n by omega), Option.map_some, List.take_add_one, List.getElem?_eq_getElem hk, Option.toList_some, List.mem_append, List.mem_singleton]
      simp [show ((ord[k].toNat : Nat) : Int) = ord[k] by omega]
    · rw [List.getElem?_set_ne e]
      have e' : ¬ (i : Int) = ord[k] := by omega
      simp only [marks, List.getElem?_map, List.getElem?_range h, Option.map_some, List.take_add_one, List.getElem?_eq_getElem hk, Option.toList_some, List.mem_append, List.mem_singleton, e', or_false]
  · rw [List.getElem?_eq_none (by rw [List.length_set, marks_len]; omega), List.getElem?_eq_none (by rw [marks_len]; omega)]
theorem f29_ok {I : Imm} {l : List Itm} {n : Nat} {v : Value} {ord : List Int} (hr : RowI eInt I v ord) (hm : n * 8 ≤ 140737488355328) (hin : ∀ k, k < ord.length → 0 ≤ ord.getD k 0 ∧ ord.getD k 0 < n) :
    Ct Tryd.prog 29 [.int .i64 n, v] I l (fun r J m => I = J ∧ m = row eInt 3 r (leftP n ord) :: l) := by
  refine Ct_enter Tryd.func29 rfl rfl rfl ?_
  have hc := hr.sc
  have hmo := hr.max
  simp only [maxLen] at hmo
  refine K_seq ?_
  refine K_region ?_
  refine W_y (y_assign rfl) rfl rfl rfl ?_
  refine K_nil ?_
  refine K_then ?_
  refine K_seq ?_
  refine K_region ?_
  refine W_y (y_move rfl) rfl rfl rfl ?_
  refine W_a (a_mk (e := eBool) (z0 := false) tab rfl rfl rfl rfl rfl (by omega) rfl ?_) rfl
  intro b11
  refine W_y (y_assign rfl) rfl rfl rfl ?_
  refine K_nil ?_
  refine K_then ?_
  refine K_seq ?_
  refine K_seq ?_
  refine K_region ?_
  refine W_y (y_move rfl) rfl rfl rfl ?_
  refine W_y (by first | exact y_lenc tab (by assumption) rfl rfl | exact y_lens tab rfl rfl | exact y_lenstr tab rfl rfl) rfl rfl rfl ?_
  refine W_y (y_move rfl) rfl rfl rfl ?_
  refine K_nil ?_
  refine K_then ?_
  refine K_block ?_
  rw [← marks_zero n ord]
  refine K_lp (σ := Nat) (fun s => I) (fun s => [(0, .int .i64 n), (5, .slice (some ⟨b11, 0, none⟩) n n), (12, v), (13, .int .i64 ord.length), (14, .int .i64 s)]) (fun s => row eBool 4 (.slice (some ⟨b11, 0, none⟩) n n) (marks n ord s) :: l) (fun s => s ≤ ord.length) (fun s => ord.length - s) 0 rfl (by repeat first | exact .nil _ | refine .cons rfl ?_) rfl (Nat.zero_le _) ?_
  intro k hk
  refine K_seq ?_
  refine K_region ?_
  refine W_y (y_lt rfl rfl) rfl rfl rfl ?_
  refine K_nil ?_
  refine K_then ?_
  refine K_seq ?_
  first | refine K_if rfl (fun h1 => ?_) (fun h1 => ?_) | refine K_ifn rfl (fun h1 => ?_) (fun h1 => ?_) | refine K_cond rfl (fun h1 => ?_) (fun h1 => ?_)
  ·
    refine K_skip ?_
    refine K_then ?_
    refine K_seq ?_
    refine K_block ?_
    refine K_seq ?_
    refine K_region ?_
    refine W_y (y_ixi tab hr rfl rfl rfl rfl (by omega)) rfl rfl rfl ?_
    refine W_y (y_load rfl (ld_ii (i := k) tab hr rfl (by omega))) rfl rfl rfl ?_
    refine W_y (y_assign rfl) rfl rfl rfl ?_
    refine K_nil ?_
    refine K_then ?_
    refine K_region ?_
    have hx := hin k (by omega)
    refine W_y (y_move rfl) rfl rfl rfl ?_
    refine W_y (y_move rfl) rfl rfl rfl ?_
    refine W_y (y_ixv tab rfl rfl rfl rfl hx.1 hx.2) rfl rfl rfl ?_
    refine W_a (a_ste (e := eBool) (a' := true) tab rfl rfl rfl rfl rfl rfl (get_of false (by rw [marks_len]; omega)) rfl rfl ?_) rfl
    refine K_nil ?_
    refine K_in ?_
    refine K_then ?_
    refine K_region ?_
    refine W_y (y_add rfl rfl (by omega)) rfl rfl rfl ?_
    refine W_y (y_move rfl) rfl rfl rfl ?_
    refine K_nil ?_
    refine K_thenA ?_
    rw [marks_succ (by omega) hx.1 hx.2]
    exact K_back (k + 1) rfl (by repeat first | exact .nil _ | refine .cons rfl ?_) rfl (by omega) (by first | omega | (simp only; omega))
  ·
    have hke : k = ord.length := by omega
    subst hke
    refine K_exit ?_
    refine K_then_exit ?_
    refine K_then_exit ?_
    refine K_in_exit ?_
    refine K_then ?_
    refine K_seq ?_
    refine K_region ?_
    refine W_y (y_assign rfl) rfl rfl rfl ?_
    refine K_nil ?_
    refine K_then ?_
    refine K_seq ?_
    refine K_seq ?_
    refine K_region ?_
    refine W_y (y_move rfl) rfl rfl rfl ?_
    refine W_y (by first | exact y_lenc tab (by assumption) rfl rfl | exact y_lens tab rfl rfl | exact y_lenstr tab rfl rfl) rfl rfl rfl ?_
    refine W_y (y_move rfl) rfl rfl rfl ?_
    refine K_nil ?_
    refine K_then ?_
    refine K_block ?_
    refine K_nilrow eInt 3 ?_
    refine K_f1 ?_
    refine K_lp (σ := Nat × Value) (fun s => I) (fun s => [(0, .int .i64 n), (5, .slice (some ⟨b11, 0, none⟩) n n), (8, s.2), (22, .slice (some ⟨b11, 0, none⟩) n n), (23, .int .i64 n), (24, .int .i64 s.1)]) (fun s => row eBool 4 (.slice (some ⟨b11, 0, none⟩) n n) (marks n ord ord.length) :: row eInt 3 s.2 (leftK ord s.1) :: l) (fun s => s.1 ≤ n) (fun s => n - s.1) (0, .slice none 0 0) rfl (by repeat first | exact .nil _ | refine .cons rfl ?_) rfl (Nat.zero_le _) ?_
    rintro ⟨k, u⟩ hk
    simp only at hk ⊢
    have hlk := leftK_len ord k
    refine K_seq ?_
    refine K_region ?_
    refine W_y (y_lt rfl rfl) rfl rfl rfl ?_
    refine K_nil ?_
    refine K_then ?_
    refine K_seq ?_
    first | refine K_if rfl (fun h2 => ?_) (fun h2 => ?_) | refine K_ifn rfl (fun h2 => ?_) (fun h2 => ?_) | refine K_cond rfl (fun h2 => ?_) (fun h2 => ?_)
    ·
      refine K_skip ?_
      refine K_then ?_
      refine K_seq ?_
      refine K_block ?_
      refine K_seq ?_
      refine K_region ?_
      refine W_y (y_move rfl) rfl rfl rfl ?_
      refine W_y (y_assign rfl) rfl rfl rfl ?_
      refine K_nil ?_
      refine K_then ?_
      refine K_seq ?_
      refine K_region ?_
      refine W_y (y_move rfl) rfl rfl rfl ?_
      refine W_y (y_move rfl) rfl rfl rfl ?_
      refine W_y (y_ixv tab rfl rfl rfl rfl (by omega) (by omega)) rfl rfl rfl ?_
      refine W_y (y_load rfl (ld_rb (i := k) tab .here rfl (by rw [marks_len]; omega))) rfl rfl rfl ?_
      rw [marks_get (by omega), List.take_length]
      refine W_y (y_not rfl) rfl rfl rfl ?_
      refine K_nil ?_
      refine K_then ?_
      first | refine K_if rfl (fun h3 => ?_) (fun h3 => ?_) | refine K_ifn rfl (fun h3 => ?_) (fun h3 => ?_) | refine K_cond rfl (fun h3 => ?_) (fun h3 => ?_)
      ·
        have hq := h3
        refine K_region ?_
        refine W_y (y_move rfl) rfl rfl rfl ?_
        refine W_y (y_move rfl) rfl rfl rfl ?_
        refine W_a (a_bs (e := eInt) (xs := [(k : Int)]) (os := [.tmp 33]) tab rfl rfl rfl rfl rfl rfl rfl rfl rfl ?_) rfl
        intro b34
        refine K_f2 ?_
        refine W_a (a_app (e := eInt) (ys := [(k : Int)]) tab rfl rfl rfl rfl rfl (rd_rowall .here) (by simp; omega) rfl ?_) rfl
        intro v35
        refine K_f1 (K_drop (K_f1 ?_))
        refine W_y (y_assign rfl) rfl rfl rfl ?_
        refine K_nil ?_
        refine K_in ?_
        refine K_then ?_
        refine K_region ?_
        refine W_y (y_add rfl rfl (by omega)) rfl rfl rfl ?_
        refine W_y (y_move rfl) rfl rfl rfl ?_
        refine K_nil ?_
        refine K_thenA ?_
        first
          | (rw [show leftK ord k ++ [(k : Int)] = leftK ord (k + 1) by rw [leftK_succ, if_neg (by simpa using hq)]]
             exact K_back (k + 1, v35) rfl (by repeat first | exact .nil _ | refine .cons rfl ?_) rfl (by first | omega | (simp only; omega)) (by first | omega | (simp only; omega)))
          | (rw [show leftK ord k = leftK ord (k + 1) by rw [leftK_succ, if_pos (by simpa using hq), List.append_nil]]
             exact K_back (k + 1, u) rfl (by repeat first | exact .nil _ | refine .cons rfl ?_) rfl (by first | omega | (simp only; omega)) (by first | omega | (simp only; omega)))
      ·
        have hq := h3
        refine K_skip ?_
        refine K_in ?_
        refine K_then ?_
        refine K_region ?_
        refine W_y (y_add rfl rfl (by omega)) rfl rfl rfl ?_
        refine W_y (y_move rfl) rfl rfl rfl ?_
        refine K_nil ?_
        refine K_thenA ?_
        first
          | (rw [show leftK ord k ++ [(k : Int)] = leftK ord (k + 1) by rw [leftK_succ, if_neg (by simpa using hq)]]
             exact K_back (k + 1, v35) rfl (by repeat first | exact .nil _ | refine .cons rfl ?_) rfl (by first | omega | (simp only; omega)) (by first | omega | (simp only; omega)))
          | (rw [show leftK ord k = leftK ord (k + 1) by rw [leftK_succ, if_pos (by simpa using hq), List.append_nil]]
             exact K_back (k + 1, u) rfl (by repeat first | exact .nil _ | refine .cons rfl ?_) rfl (by first | omega | (simp only; omega)) (by first | omega | (simp only; omega)))
    ·
      refine K_exit ?_
      refine K_then_exit ?_
      refine K_then_exit ?_
      refine K_in_exit ?_
      refine K_then ?_
      refine K_seq ?_
      refine K_drop ?_
      refine K_region ?_
      refine W_y (y_move rfl) rfl rfl rfl ?_
      refine W_y (y_assign rfl) rfl rfl rfl ?_
      refine K_nil ?_
      refine K_then ?_
      refine K_ret ?_
      refine K_out1 rfl (.tmp rfl) ?_
      have hkn : k = n := by omega
      subst hkn
      exact fun w hw => ⟨_, _, _, rfl, Imm.le.refl _, hw, rfl, rfl⟩
end Go.Proofs.YtfnmcpgajjkemaaDoor
