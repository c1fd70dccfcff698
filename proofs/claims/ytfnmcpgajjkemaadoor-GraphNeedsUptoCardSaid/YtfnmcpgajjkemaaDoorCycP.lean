/- A cycle, in plain Lean. -/
import Derived.Test.YtfnmcpgajjkemaaDoorOrderP
namespace Go.Proofs.YtfnmcpgajjkemaaDoor

/-- The numbers below n that a list does not have. -/
def leftK (ord : List Int) (k : Nat) : List Int := ((List.range k).filter fun (i : Nat) => !decide ((i : Int) ∈ ord)).map fun (i : Nat) => (i : Int)
def leftP (n : Nat) (ord : List Int) : List Int := leftK ord n
theorem leftK_len (ord : List Int) (k : Nat) : (leftK ord k).length ≤ k := by
  unfold leftK
  rw [List.length_map]
  exact Nat.le_trans (List.length_filter_le _ _) (by simp)
theorem leftK_succ (ord : List Int) (k : Nat) : leftK ord (k + 1) = leftK ord k ++ (if (k : Int) ∈ ord then [] else [(k : Int)]) := by
  simp only [leftK, List.range_succ, List.filter_append, List.map_append]
  congr 1
  by_cases h : (k : Int) ∈ ord <;> simp [h]
theorem leftP_mem {n : Nat} {ord : List Int} {x : Int} : x ∈ leftP n ord ↔ 0 ≤ x ∧ x < n ∧ x ∉ ord := by
  simp only [leftP, leftK, List.mem_map, List.mem_filter, List.mem_range, Bool.not_eq_true', decide_eq_false_iff_not]
  constructor
  · rintro ⟨i, ⟨h1, h2⟩, rfl⟩; exact ⟨by omega, by omega, h2⟩
  · rintro ⟨h1, h2, h3⟩
    exact ⟨x.toNat, ⟨by omega, by rw [Int.toNat_of_nonneg h1]; exact h3⟩, by omega⟩
theorem leftP_sorted (n : Nat) (ord : List Int) : (leftP n ord).Pairwise (· ≤ ·) := by
  unfold leftP leftK
  refine List.Pairwise.map _ (fun a b (hab : a < b) => by omega) ((List.pairwise_lt_range (n := n)).filter _)
theorem leftP_nodup (n : Nat) (ord : List Int) : (leftP n ord).Nodup := by
  unfold leftP leftK
  refine List.Pairwise.map _ (fun a b hab => ?_) ((List.nodup_range (n := n)).filter _)
  intro e; exact hab (by omega)
theorem leftP_ne {n : Nat} {ord : List Int} (h : ord.length < n) : 0 < (leftP n ord).length := by
  rcases Nat.eq_zero_or_pos (leftP n ord).length with h0 | h0
  · have h1 : leftP n ord = [] := List.eq_nil_of_length_eq_zero h0
    have h2 : n ≤ ord.length := by
      have := nodup_le (l := (List.range n).map fun (i : Nat) => (i : Int)) (m := ord) (List.Pairwise.map _ (fun a b hab => by intro e; exact hab (by omega)) (List.nodup_range (n := n))) (fun x hx => by
        obtain ⟨i, hi, rfl⟩ := List.mem_map.1 hx
        rw [List.mem_range] at hi
        cases Classical.em ((i : Int) ∈ ord) with
        | inl h => exact h
        | inr h => have : (i : Int) ∈ leftP n ord := leftP_mem.2 ⟨by omega, by omega, h⟩
                   rw [h1] at this; cases this)
      simpa using this
    omega
  · exact h0
variable {preds : List (List Int)} {ranks : List Int}
/-- What is left waits for something that is left. -/
theorem left_waits (hf : formOk preds) {x : Int} (hx : x ∈ leftP preds.length (orderL preds ranks)) : ∃ p, p ∈ preds.getD x.toNat [] ∧ p ∈ leftP preds.length (orderL preds ranks) := by
  obtain ⟨h0, h1, h2⟩ := leftP_mem.1 hx
  have hn : x.toNat < preds.length := by omega
  have hb := bestK_none.1 (orderL_onWay (preds := preds) (ranks := ranks)).2 x.toNat hn
  have hr : ¬ ((x.toNat : Int) ∉ orderL preds ranks ∧ ∀ p, p ∈ preds.getD x.toNat [] → p ∈ orderL preds ranks) := fun h => by
    rw [rdy_iff.2 h] at hb; cases hb
  rw [Int.toNat_of_nonneg h0] at hr
  cases Classical.em (∃ p, p ∈ preds.getD x.toNat [] ∧ p ∉ orderL preds ranks) with
  | inl h =>
    obtain ⟨p, hp, hpo⟩ := h
    have := (hf.row hn).2 p hp
    exact ⟨p, hp, leftP_mem.2 ⟨this.1, this.2, hpo⟩⟩
  | inr h => exact absurd ⟨h2, fun p hp => Classical.byContradiction fun hpo => h ⟨p, hp, hpo⟩⟩ hr

/-- Numbers each of which waits for the next one: 'at' is waited for by the last. -/
structure Chain (preds : List (List Int)) (R way : List Int) (x : Int) : Prop where
  mem : ∀ y, y ∈ way → y ∈ R
  here : x ∈ R
  nodup : way.Nodup
  next : ∀ k, k + 1 < way.length → way.getD (k + 1) 0 ∈ preds.getD (way.getD k 0).toNat []
  last : 0 < way.length → x ∈ preds.getD (way.getD (way.length - 1) 0).toNat []
theorem Chain.start {R : List Int} {x : Int} (h : x ∈ R) : Chain preds R [] x := ⟨fun y hy => (by cases hy), h, List.nodup_nil, fun k hk => (by simp at hk), fun h => (by simp at h)⟩
theorem Chain.step {R way : List Int} {x p : Int} (h : Chain preds R way x) (hx : x ∉ way) (hp : p ∈ preds.getD x.toNat []) (hr : p ∈ R) : Chain preds R (way ++ [x]) p := by
  refine ⟨fun y hy => ?_, hr, List.nodup_append.2 ⟨h.nodup, List.pairwise_singleton _ _, fun a ha b hb e => ?_⟩, fun k hk => ?_, fun _ => ?_⟩
  · rcases List.mem_append.1 hy with h1 | h1
    · exact h.mem y h1
    · rw [List.mem_singleton] at h1; rw [h1]; exact h.here
  · rw [List.mem_singleton] at hb; subst hb; exact hx (e ▸ ha)
  · rw [List.length_append, List.length_singleton] at hk
    have hg : ∀ j, j < way.length → (way ++ [x]).getD j 0 = way.getD j 0 := fun j hj => by
      simp only [List.getD_eq_getElem?_getD]; rw [List.getElem?_append_left hj]
    by_cases h1 : k + 1 < way.length
    · rw [hg _ h1, hg _ (by omega)]; exact h.next k h1
    · have h2 : k + 1 = way.length := by omega
      have h3 : (way ++ [x]).getD (k + 1) 0 = x := by
        simp only [List.getD_eq_getElem?_getD]; rw [List.getElem?_append_right (by omega), h2]; simp
      rw [h3, hg _ (by omega)]
      have := h.last (by omega)
      rw [← h2, Nat.add_sub_cancel] at this
      exact this
  · have h3 : (way ++ [x]).getD ((way ++ [x]).length - 1) 0 = x := by
      simp only [List.getD_eq_getElem?_getD, List.length_append, List.length_singleton, Nat.add_sub_cancel]; rw [List.getElem?_append_right (Nat.le_refl _)]; simp
    rw [h3]; exact hp
theorem Chain.len {R way : List Int} {x : Int} (h : Chain preds R way x) (hx : x ∉ way) : way.length < R.length := by
  have := nodup_le (l := x :: way) (m := R) (List.nodup_cons.2 ⟨hx, h.nodup⟩) (fun y hy => by
    rcases List.mem_cons.1 hy with rfl | h1
    · exact h.here
    · exact h.mem y h1)
  simp only [List.length_cons] at this
  omega
/-- A cycle: each number is among the preds of the next one. -/
structure CycOk (preds : List (List Int)) (c : List Int) : Prop where
  ne : 0 < c.length
  nodup : c.Nodup
  range : ∀ i, i < c.length → 0 ≤ c.getD i 0 ∧ c.getD i 0 < preds.length
  next : ∀ i, i < c.length → c.getD i 0 ∈ preds.getD (c.getD ((i + 1) % c.length) 0).toNat []
theorem getD_drop {α : Type} (xs : List α) (i k : Nat) (d : α) : (xs.drop i).getD k d = xs.getD (i + k) d := by
  simp [List.getD_eq_getElem?_getD, List.getElem?_drop]
theorem getD_reverse {α : Type} (xs : List α) (k : Nat) (d : α) (hk : k < xs.length) : xs.reverse.getD k d = xs.getD (xs.length - 1 - k) d := by
  simp only [List.getD_eq_getElem?_getD]
  rw [List.getElem?_reverse hk]
theorem Chain.cyc {n : Nat} {ord way : List Int} {x : Int} {i : Nat} (hn : n = preds.length) (h : Chain preds (leftP n ord) way x) (hi : i < way.length) (hx : way.getD i 0 = x) : CycOk preds (way.drop i).reverse := by
  have hl : (way.drop i).reverse.length = way.length - i := by simp
  have hg : ∀ k, k < way.length - i → (way.drop i).reverse.getD k 0 = way.getD (way.length - 1 - k) 0 := fun k hk => by
    rw [getD_reverse _ _ _ (by simp; omega), getD_drop, List.length_drop]; congr 1; omega
  refine ⟨by omega, (List.reverse_perm _).nodup_iff.2 (h.nodup.sublist (List.drop_sublist _ _)), fun k hk => ?_, fun k hk => ?_⟩
  · rw [hl] at hk
    rw [hg k hk]
    have hm : way.getD (way.length - 1 - k) 0 ∈ way := by
      rw [List.getD_eq_getElem?_getD, List.getElem?_eq_getElem (by omega)]; exact List.getElem_mem _
    have := leftP_mem.1 (h.mem _ hm)
    exact ⟨this.1, by omega⟩
  · rw [hl] at hk
    rw [hl, hg k hk]
    by_cases h1 : k + 1 = way.length - i
    · rw [h1, Nat.mod_self, hg 0 (by omega)]
      have h2 : way.length - 1 - k = i := by omega
      rw [h2, hx]
      exact h.last (by omega)
    · rw [Nat.mod_eq_of_lt (by omega), hg (k + 1) (by omega)]
      have h2 := h.next (way.length - 1 - (k + 1)) (by omega)
      rw [show way.length - 1 - (k + 1) + 1 = way.length - 1 - k by omega] at h2
      exact h2
end Go.Proofs.YtfnmcpgajjkemaaDoor
