/- Plain: what an order is, place for place: each number is the best of what was ready; where each number stands. -/
import Derived.Test.YtfnmcpgajjkemaaDoorCycP
namespace Go.Proofs.YtfnmcpgajjkemaaDoor

section
variable {preds : List (List Int)} {ranks : List Int}
def GoodO (preds : List (List Int)) (ranks : List Int) (o : List Int) : Prop := ∀ k, k < o.length → ∃ b : Nat, o.getD k 0 = (b : Int) ∧ IsBest preds ranks (o.take k) preds.length b
theorem good_snoc {o : List Int} {b : Nat} (h : GoodO preds ranks o) (hb : IsBest preds ranks o preds.length b) : GoodO preds ranks (o ++ [(b : Int)]) := fun k hk => by
  rw [List.length_append, List.length_singleton] at hk
  rcases Nat.lt_succ_iff_lt_or_eq.1 hk with h1 | rfl
  · obtain ⟨c, h2, h3⟩ := h k h1
    refine ⟨c, ?_, ?_⟩
    · rw [List.getD_eq_getElem?_getD, List.getElem?_append_left h1, ← List.getD_eq_getElem?_getD]; exact h2
    · rw [List.take_append_of_le_length (by omega)]; exact h3
  · refine ⟨b, by simp [List.getD_eq_getElem?_getD], ?_⟩
    rw [List.take_append_of_le_length (Nat.le_refl _), List.take_length]; exact hb
theorem good_run : ∀ (f : Nat) (o : List Int), GoodO preds ranks o → GoodO preds ranks (ordRun preds ranks f o)
  | 0, _, h => h
  | f + 1, o, h => by
    unfold ordRun
    cases hb : best preds ranks o with
    | none => exact h
    | some b => exact good_run f _ (good_snoc h (bestK_some hb))
theorem orderL_good : GoodO preds ranks (orderL preds ranks) := good_run _ _ (fun k hk => by simp at hk)
end

theorem idxOf_nodup : ∀ {xs : List Int} {k : Nat}, xs.Nodup → k < xs.length → xs.idxOf (xs.getD k 0) = k
  | [], k, _, h => by simp at h
  | x :: xs, 0, _, _ => by simp
  | x :: xs, k + 1, hn, hk => by
    have h1 : k < xs.length := by simpa using hk
    have hm : xs.getD k 0 ∈ xs := by rw [List.getD_eq_getElem?_getD, List.getElem?_eq_getElem h1]; exact List.getElem_mem h1
    have hne : ¬ x = xs.getD k 0 := fun e => (List.nodup_cons.1 hn).1 (e ▸ hm)
    have hb : (x == xs.getD k 0) = false := by simpa using hne
    rw [List.getD_cons_succ, List.idxOf_cons, hb, cond_false, idxOf_nodup (List.nodup_cons.1 hn).2 h1]
theorem mem_take_get {xs : List Int} {k : Nat} {x : Int} (h : x ∈ xs.take k) : ∃ j, j < k ∧ j < xs.length ∧ xs.getD j 0 = x := by
  obtain ⟨j, hj, e⟩ := List.mem_iff_getElem.1 h
  rw [List.length_take] at hj
  refine ⟨j, by omega, by omega, ?_⟩
  rw [List.getElem_take] at e
  rw [List.getD_eq_getElem?_getD, List.getElem?_eq_getElem (by omega)]; exact e
/-- Where a number stands in an order's first k, counted from one; 0: it does not. -/
def posAt (out : List Int) (k i : Nat) : Int := if (i : Int) ∈ out.take k then ((out.idxOf (i : Int) : Nat) : Int) + 1 else 0
section
variable {out : List Int} {k i q n : Nat}
theorem posAt_nil : posAt out 0 = fun _ => 0 := funext fun i => by simp [posAt]
theorem posAt_zero : posAt out k i = 0 ↔ (i : Int) ∉ out.take k := by
  unfold posAt
  split
  · rename_i h; exact ⟨fun e => by omega, fun e => absurd h e⟩
  · rename_i h; exact ⟨fun _ => h, fun _ => rfl⟩
theorem posAt_new (hn : out.Nodup) (hk : k < out.length) (hq : out.getD k 0 = (q : Int)) : posAt out k q = 0 := posAt_zero.2 (by rw [← hq]; exact not_mem_take hn hk)
theorem posAt_step (hn : out.Nodup) (hk : k < out.length) (hq : out.getD k 0 = (q : Int)) : (tb n (posAt out k)).set q ((k : Int) + 1) = tb n (posAt out (k + 1)) := by
  rw [tb_set]
  refine tb_ext fun i _ => ?_
  by_cases e : i = q
  · subst e
    rw [if_pos rfl]
    unfold posAt
    rw [if_pos ((take_mem_succ hk _).2 (.inr hq.symm)), ← hq, idxOf_nodup hn hk]
  · rw [if_neg e]
    unfold posAt
    have : (i : Int) ∈ out.take (k + 1) ↔ (i : Int) ∈ out.take k := by
      rw [take_mem_succ hk, hq]
      exact ⟨fun h => h.resolve_right (fun h => e (by omega)), .inl⟩
    by_cases h : (i : Int) ∈ out.take k
    · rw [if_pos h, if_pos (this.2 h)]
    · rw [if_neg h, if_neg (fun h' => h (this.1 h'))]
end
section
variable {preds : List (List Int)} {ranks : List Int}
/-- Each number of an order stands behind its preds. -/
theorem orderL_behind {i q : Nat} (hi : (i : Int) ∈ orderL preds ranks) (hq : (q : Int) ∈ preds.getD i []) :
    (q : Int) ∈ orderL preds ranks ∧ ¬ posAt (orderL preds ranks) (orderL preds ranks).length i < posAt (orderL preds ranks) (orderL preds ranks).length q := by
  have hn := (orderL_onWay (preds := preds) (ranks := ranks)).1.nodup
  obtain ⟨k, hk, hke⟩ := List.mem_iff_getElem.1 hi
  obtain ⟨b, hb, hbest⟩ := orderL_good (preds := preds) (ranks := ranks) k hk
  have hkd : (orderL preds ranks).getD k 0 = (i : Int) := by rw [List.getD_eq_getElem?_getD, List.getElem?_eq_getElem hk]; exact hke
  have hbi : b = i := by rw [hkd] at hb; omega
  subst hbi
  have hin := (rdy_iff.1 hbest.2.1).2 _ hq
  obtain ⟨j, hj, hjl, hje⟩ := mem_take_get hin
  have hmem : (q : Int) ∈ orderL preds ranks := List.mem_of_mem_take hin
  refine ⟨hmem, ?_⟩
  unfold posAt
  rw [List.take_length, if_pos hi, if_pos hmem, ← hkd, idxOf_nodup hn hk, ← hje, idxOf_nodup hn hjl]
  omega
theorem orderL_left {i : Nat} (hi : i < preds.length) (h : (i : Int) ∉ orderL preds ranks) : ∃ p, p ∈ preds.getD i [] ∧ p ∉ orderL preds ranks := by
  have hr := bestK_none.1 (orderL_onWay (preds := preds) (ranks := ranks)).2 i hi
  refine Classical.byContradiction fun hc => ?_
  have : rdy preds (orderL preds ranks) i = true := rdy_iff.2 ⟨h, fun p hp => Classical.byContradiction fun hn => hc ⟨p, hp, hn⟩⟩
  rw [hr] at this; cases this
end
/-- Do the first k of a list lie in another? -/
def allK (o xs : List Int) (k : Nat) : Bool := (xs.take k).all fun p => decide (p ∈ o)
theorem allK_succ {o xs : List Int} {k : Nat} (hk : k < xs.length) : allK o xs (k + 1) = (allK o xs k && decide (xs.getD k 0 ∈ o)) := by
  unfold allK
  rw [List.take_add_one, List.getElem?_eq_getElem hk, List.all_append, List.getD_eq_getElem?_getD, List.getElem?_eq_getElem hk]
  simp
theorem allK_len {o xs : List Int} : allK o xs xs.length = true ↔ ∀ p, p ∈ xs → p ∈ o := by unfold allK; rw [List.take_length]; simp
end Go.Proofs.YtfnmcpgajjkemaaDoor
