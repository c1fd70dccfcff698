/- A heap in a list, in plain Lean: what container/heap does, and what it keeps. -/
import GoSem.Core.Value
namespace Go.Proofs.YtfnmcpgajjkemaaDoor
def iless (a b : Int × Int) : Bool := decide (a.1 < b.1) || (decide (a.1 = b.1) && decide (a.2 < b.2))
abbrev z2 : Int × Int := (0, 0)
def swp (xs : List (Int × Int)) (i j : Nat) : List (Int × Int) := (xs.set i (xs.getD j z2)).set j (xs.getD i z2)
theorem swp_length (xs : List (Int × Int)) (i j : Nat) : (swp xs i j).length = xs.length := by simp [swp]
def up (xs : List (Int × Int)) (j : Nat) : List (Int × Int) :=
  if j = 0 then xs else if iless (xs.getD j z2) (xs.getD ((j - 1) / 2) z2) then up (swp xs ((j - 1) / 2) j) ((j - 1) / 2) else xs
termination_by j
decreasing_by omega
def kid (xs : List (Int × Int)) (i n : Nat) : Nat := if 2 * i + 2 < n ∧ iless (xs.getD (2 * i + 2) z2) (xs.getD (2 * i + 1) z2) = true then 2 * i + 2 else 2 * i + 1
theorem kid_lt {xs : List (Int × Int)} {i n : Nat} (h : ¬ n ≤ 2 * i + 1) : kid xs i n < n := by
  unfold kid
  split
  · rename_i h1; exact h1.1
  · omega
theorem kid_is (xs : List (Int × Int)) (i n : Nat) : kid xs i n = 2 * i + 1 ∨ kid xs i n = 2 * i + 2 := by
  unfold kid
  split
  · exact .inr rfl
  · exact .inl rfl
def down (xs : List (Int × Int)) (i n : Nat) : List (Int × Int) :=
  if _h : n ≤ 2 * i + 1 then xs
  else if iless (xs.getD (kid xs i n) z2) (xs.getD i z2) then down (swp xs i (kid xs i n)) (kid xs i n) n else xs
termination_by n - i
decreasing_by
  have h1 := kid_lt (xs := xs) _h
  have h2 := kid_is xs i n
  omega
theorem half (j : Nat) : ((j : Int) - 1).tdiv 2 = (((j - 1) / 2 : Nat) : Int) := by
  cases j with
  | zero => rfl
  | succ j =>
    have : ((j + 1 : Nat) : Int) - 1 = (j : Int) := by omega
    rw [this, Int.tdiv_eq_ediv_of_nonneg (by omega)]
    simp
theorem down_of {ys : List (Int × Int)} {k n q : Nat} (h : ¬ n ≤ 2 * k + 1) (hq : kid ys k n = q) :
    down ys k n = if iless (ys.getD q z2) (ys.getD k z2) then down (swp ys k q) q n else ys := by
  subst hq
  conv => { lhs; unfold down }
  rw [dif_neg h]

/-! ### The order of items -/
theorem iless_iff (a b : Int × Int) : iless a b = true ↔ a.1 < b.1 ∨ (a.1 = b.1 ∧ a.2 < b.2) := by simp [iless]
theorem iless_false (a b : Int × Int) : iless a b = false ↔ b.1 < a.1 ∨ (a.1 = b.1 ∧ b.2 ≤ a.2) := by
  rw [← Bool.not_eq_true, iless_iff]; omega
theorem iless_trans_nle {a b c : Int × Int} (h : iless b a = false) (k : iless c b = false) : iless c a = false := by
  rw [iless_false] at *; omega
theorem iless_irrefl (a : Int × Int) : iless a a = false := by rw [iless_false]; omega
theorem iless_asymm {a b : Int × Int} (h : iless a b = true) : iless b a = false := by
  rw [iless_iff] at h; rw [iless_false]; omega

/-! ### Swapping -/
theorem swp_get {xs : List (Int × Int)} {i j m : Nat} (hi : i < xs.length) (hj : j < xs.length) : (swp xs i j).getD m z2 = if m = j then xs.getD i z2 else if m = i then xs.getD j z2 else xs.getD m z2 := by
  simp only [swp, List.getD_eq_getElem?_getD, List.getElem?_set, List.length_set]
  by_cases h1 : m = j
  · subst h1; simp [hj]
  · have h1' : ¬ j = m := fun e => h1 e.symm
    by_cases h2 : m = i
    · subst h2; simp [h1, h1', hi]
    · have h2' : ¬ i = m := fun e => h2 e.symm
      simp [h1, h1', h2, h2']
theorem swp_perm {xs : List (Int × Int)} {i j : Nat} (hi : i < xs.length) (hj : j < xs.length) : (swp xs i j).Perm xs := by
  unfold swp
  have := List.set_set_perm (as := xs) (h₁ := hi) (h₂ := hj)
  simpa [List.getD_eq_getElem?_getD, hi, hj] using this
theorem up_perm (xs : List (Int × Int)) (j : Nat) (hj : j < xs.length) : (up xs j).Perm xs := by
  induction j using Nat.strongRecOn generalizing xs with
  | _ j ih =>
    unfold up
    split
    · exact .refl _
    · split
      · exact (ih _ (by omega) _ (by rw [swp_length]; omega)).trans (swp_perm (by omega) hj)
      · exact .refl _
theorem down_perm (xs : List (Int × Int)) (i n : Nat) (hn : n ≤ xs.length) : (down xs i n).Perm xs := by
  fun_induction down xs i n with
  | case1 => exact .refl _
  | case2 xs i h h2 ih =>
    have hj := kid_lt (xs := xs) h
    exact (ih (by rw [swp_length]; exact hn)).trans (swp_perm (by omega) (by omega))
  | case3 => exact .refl _
theorem down_above (xs : List (Int × Int)) (i n m : Nat) (hn : n ≤ xs.length) (hm : n ≤ m) : (down xs i n).getD m z2 = xs.getD m z2 := by
  fun_induction down xs i n with
  | case1 => rfl
  | case2 xs i h h2 ih =>
    have hj := kid_lt (xs := xs) h
    rw [ih (by rw [swp_length]; exact hn), swp_get (by omega) (by omega), if_neg (by omega), if_neg (by omega)]
  | case3 => rfl

/-! ### Heaps -/
/-- Of the first n, none is less than the one above it. -/
def Heap (xs : List (Int × Int)) (n : Nat) : Prop := ∀ k, 0 < k → k < n → iless (xs.getD k z2) (xs.getD ((k - 1) / 2) z2) = false
/-- All but the place j against the one above it; and what is under j is not less than what is above j. -/
structure HeapUp (xs : List (Int × Int)) (n j : Nat) : Prop where
  rest : ∀ k, 0 < k → k < n → k ≠ j → iless (xs.getD k z2) (xs.getD ((k - 1) / 2) z2) = false
  skip : 0 < j → ∀ k, 0 < k → k < n → (k - 1) / 2 = j → iless (xs.getD k z2) (xs.getD ((j - 1) / 2) z2) = false
theorem up_heap (xs : List (Int × Int)) (j : Nat) (hj : j < xs.length) (h : HeapUp xs xs.length j) : Heap (up xs j) xs.length := by
  induction j using Nat.strongRecOn generalizing xs with
  | _ j ih =>
    unfold up
    split
    · rename_i h0
      intro k hk hkn
      exact h.rest k hk hkn (by omega)
    · rename_i h0
      split
      · rename_i hl
        have hp : (j - 1) / 2 < j := by omega
        have hg := fun m => swp_get (xs := xs) (i := (j - 1) / 2) (j := j) (m := m) (by omega) hj
        have := ih ((j - 1) / 2) (by omega) (swp xs ((j - 1) / 2) j) (by rw [swp_length]; omega) ?_
        · rw [swp_length] at this; exact this
        · rw [swp_length]
          refine ⟨fun k hk hkn hne => ?_, fun hp0 k hk hkn hkp => ?_⟩
          · rw [hg, hg]
            by_cases h1 : k = j
            · subst h1
              rw [if_pos rfl, if_neg (by omega), if_pos rfl]
              exact iless_asymm hl
            · rw [if_neg h1, if_neg hne]
              by_cases h2 : (k - 1) / 2 = j
              · rw [if_pos h2]; exact h.skip (by omega) k hk hkn h2
              · rw [if_neg h2]
                by_cases h3 : (k - 1) / 2 = (j - 1) / 2
                · rw [if_pos h3]
                  have h4 := h.rest k hk hkn h1
                  rw [h3] at h4
                  exact iless_trans_nle (iless_asymm hl) h4
                · rw [if_neg h3]; exact h.rest k hk hkn h1
          · have h5 := h.rest ((j - 1) / 2) hp0 (by omega) (by omega)
            rw [hg, hg]
            rw [if_neg (show ¬ ((j - 1) / 2 - 1) / 2 = j by omega), if_neg (show ¬ ((j - 1) / 2 - 1) / 2 = (j - 1) / 2 by omega)]
            by_cases h1 : k = j
            · rw [if_pos h1]; exact h5
            · rw [if_neg h1, if_neg (by omega)]
              have h4 := h.rest k hk hkn h1
              rw [hkp] at h4
              exact iless_trans_nle h5 h4
      · rename_i hl
        intro k hk hkn
        by_cases h1 : k = j
        · subst h1; exact Bool.eq_false_iff.2 hl
        · exact h.rest k hk hkn h1
/-- All but what is under the place i. -/
structure HeapDn (xs : List (Int × Int)) (n i : Nat) : Prop where
  rest : ∀ k, 0 < k → k < n → (k - 1) / 2 ≠ i → iless (xs.getD k z2) (xs.getD ((k - 1) / 2) z2) = false
  skip : 0 < i → ∀ k, 0 < k → k < n → (k - 1) / 2 = i → iless (xs.getD k z2) (xs.getD ((i - 1) / 2) z2) = false
theorem kid_min (xs : List (Int × Int)) (i n : Nat) : ∀ k, 0 < k → k < n → (k - 1) / 2 = i → iless (xs.getD k z2) (xs.getD (kid xs i n) z2) = false := by
  intro k hk hkn hki
  have hk' : k = 2 * i + 1 ∨ k = 2 * i + 2 := by omega
  unfold kid
  split
  · rename_i h3
    rcases hk' with rfl | rfl
    · exact iless_asymm h3.2
    · exact iless_irrefl _
  · rename_i h3
    rcases hk' with rfl | rfl
    · exact iless_irrefl _
    · exact Bool.eq_false_iff.2 (fun e => h3 ⟨hkn, e⟩)
theorem down_heap (xs : List (Int × Int)) (i n : Nat) (hn : n ≤ xs.length) (h : HeapDn xs n i) : Heap (down xs i n) n := by
  fun_induction down xs i n with
  | case1 xs i h1 =>
    intro k hk hkn
    exact h.rest k hk hkn (by omega)
  | case2 xs i h1 h2 ih =>
    have hmin := kid_min xs i n
    have hj := kid_is xs i n
    have hjn := kid_lt (xs := xs) h1
    generalize kid xs i n = j at *
    have hg := fun m => swp_get (xs := xs) (i := i) (j := j) (m := m) (by omega) (by omega)
    refine ih (by rw [swp_length]; exact hn) ⟨fun k hk hkn hne => ?_, fun _ k hk hkn hkp => ?_⟩
    · rw [hg, hg]
      by_cases h3 : k = j
      · subst h3
        have h4 : (k - 1) / 2 = i := by omega
        rw [if_pos rfl, h4, if_neg (by omega), if_pos rfl]
        exact iless_asymm h2
      · rw [if_neg h3, if_neg (show ¬ (k - 1) / 2 = j from hne)]
        by_cases h4 : k = i
        · have h5 := h.skip (by omega)
          rw [if_pos h4, if_neg (by omega), h4]
          exact h5 j (by omega) hjn (by omega)
        · rw [if_neg h4]
          by_cases h5 : (k - 1) / 2 = i
          · rw [if_pos h5]; exact hmin k hk hkn h5
          · rw [if_neg h5]; exact h.rest k hk hkn h5
    · have h6 : (j - 1) / 2 = i := by omega
      rw [hg, hg, if_neg (by omega), if_neg (by omega), h6, if_neg (by omega), if_pos rfl]
      have := h.rest k hk hkn (by omega)
      rw [hkp] at this
      exact this
  | case3 xs i h1 h2 =>
    have hmin := kid_min xs i n
    intro k hk hkn
    by_cases h3 : (k - 1) / 2 = i
    · rw [h3]
      exact iless_trans_nle (Bool.eq_false_iff.2 h2) (hmin k hk hkn h3)
    · exact h.rest k hk hkn h3
/-- A heap's first is its least. -/
theorem Heap.least {xs : List (Int × Int)} {n : Nat} (h : Heap xs n) : ∀ k, k < n → iless (xs.getD k z2) (xs.getD 0 z2) = false := by
  intro k
  induction k using Nat.strongRecOn with
  | _ k ih =>
    intro hk
    by_cases h0 : k = 0
    · subst h0; exact iless_irrefl _
    · exact iless_trans_nle (ih ((k - 1) / 2) (by omega) (by omega)) (h k (by omega) hk)

/-! ### Push and Pop -/
def hpush (xs : List (Int × Int)) (x : Int × Int) : List (Int × Int) := up (xs ++ [x]) xs.length
def hpop (xs : List (Int × Int)) : List (Int × Int) := (down (swp xs 0 (xs.length - 1)) 0 (xs.length - 1)).take (xs.length - 1)
theorem hpush_perm (xs : List (Int × Int)) (x : Int × Int) : (hpush xs x).Perm (x :: xs) :=
  (up_perm _ _ (by simp)).trans (List.perm_append_comm)
theorem hpush_heap (xs : List (Int × Int)) (x : Int × Int) (h : Heap xs xs.length) : Heap (hpush xs x) (hpush xs x).length := by
  have hl : (hpush xs x).length = (xs ++ [x]).length := (up_perm _ _ (by simp)).length_eq
  rw [hl]
  refine up_heap _ _ (by simp) ⟨fun k hk hkn hne => ?_, fun _ k hk hkn hkp => ?_⟩
  · have hk' : k < xs.length := by simp at hkn; omega
    have := h k hk hk'
    simp only [List.getD_eq_getElem?_getD] at this ⊢
    rw [List.getElem?_append_left hk', List.getElem?_append_left (by omega)]
    exact this
  · simp at hkn; omega
theorem down_last {xs : List (Int × Int)} {n : Nat} (h : xs.length = n + 1) : down (swp xs 0 n) 0 n = hpop xs ++ [xs.getD 0 z2] := by
  have hl : (down (swp xs 0 n) 0 n).length = n + 1 := by rw [(down_perm _ _ _ (by rw [swp_length]; omega)).length_eq, swp_length]; exact h
  have h1 : xs.length - 1 = n := by omega
  have h2 : (down (swp xs 0 n) 0 n).getD n z2 = xs.getD 0 z2 := by
    rw [down_above _ _ _ _ (by rw [swp_length]; omega) (Nat.le_refl _), swp_get (by omega) (by omega), if_pos rfl]
  unfold hpop
  rw [h1, ← h2]
  refine List.ext_getElem? fun m => ?_
  rcases Nat.lt_trichotomy m n with h3 | h3 | h3
  · rw [List.getElem?_append_left (by rw [List.length_take]; omega), List.getElem?_take, if_pos h3]
  · subst h3
    rw [List.getElem?_append_right (by rw [List.length_take]; omega), List.length_take, show m - min m (down (swp xs 0 m) 0 m).length = 0 from by omega]
    simp [List.getD_eq_getElem?_getD, List.getElem?_eq_getElem (show m < (down (swp xs 0 m) 0 m).length by omega)]
  · rw [List.getElem?_eq_none (by omega), List.getElem?_eq_none (by rw [List.length_append, List.length_take]; simp; omega)]
theorem hpop_perm {xs : List (Int × Int)} (h : 0 < xs.length) : xs.Perm (xs.getD 0 z2 :: hpop xs) := by
  obtain ⟨n, hn⟩ : ∃ n, xs.length = n + 1 := ⟨xs.length - 1, by omega⟩
  have h1 := down_last hn
  have h2 : (down (swp xs 0 n) 0 n).Perm xs := (down_perm _ _ _ (by rw [swp_length]; omega)).trans (swp_perm (by omega) (by omega))
  rw [h1] at h2
  exact h2.symm.trans List.perm_append_comm
theorem hpop_heap {xs : List (Int × Int)} (hx : 0 < xs.length) (h : Heap xs xs.length) : Heap (hpop xs) (hpop xs).length := by
  obtain ⟨n, hn⟩ : ∃ n, xs.length = n + 1 := ⟨xs.length - 1, by omega⟩
  have h1 := down_last hn
  have hl : (hpop xs).length = n := by have := (hpop_perm hx).length_eq; simp at this; omega
  have h3 : Heap (down (swp xs 0 n) 0 n) n := by
    refine down_heap _ _ _ (by rw [swp_length]; omega) ⟨fun k hk hkn hne => ?_, fun h0 => by omega⟩
    rw [swp_get (by omega) (by omega), swp_get (by omega) (by omega), if_neg (by omega), if_neg (by omega), if_neg (by omega), if_neg hne]
    exact h k hk (by omega)
  rw [hl]
  intro k hk hkn
  have := h3 k hk hkn
  rw [h1] at this
  simp only [List.getD_eq_getElem?_getD] at this ⊢
  rw [List.getElem?_append_left (by omega), List.getElem?_append_left (by omega)] at this
  exact this
theorem hpop_least {xs : List (Int × Int)} (h : Heap xs xs.length) : ∀ y, y ∈ xs → iless y (xs.getD 0 z2) = false := fun y hy => by
  obtain ⟨k, hk, rfl⟩ := List.mem_iff_getElem.1 hy
  have := h.least k hk
  rw [List.getD_eq_getElem?_getD, List.getElem?_eq_getElem hk] at this
  exact this
end Go.Proofs.YtfnmcpgajjkemaaDoor
