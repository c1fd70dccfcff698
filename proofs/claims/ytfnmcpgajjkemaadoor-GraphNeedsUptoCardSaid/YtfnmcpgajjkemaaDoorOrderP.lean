/- The order of chapter 16, in plain Lean: the document's, and that a heap of what is ready comes to it. -/
import Derived.Test.YtfnmcpgajjkemaaDoorHeapP
namespace Go.Proofs.YtfnmcpgajjkemaaDoor

/-! ### Tables -/
def tb {α : Type} (n : Nat) (f : Nat → α) : List α := (List.range n).map f
section tb
variable {α : Type} {n i : Nat} {f : Nat → α}
theorem tb_len : (tb n f).length = n := by simp [tb]
theorem tb_get (d : α) (h : i < n) : (tb n f).getD i d = f i := by simp [tb, List.getD, h]
theorem tb_get? (h : i < n) : (tb n f)[i]? = some (f i) := by simp [tb, h]
theorem tb_set (x : α) : (tb n f).set i x = tb n (fun j => if j = i then x else f j) := by
  refine List.ext_getElem? fun k => ?_
  by_cases hk : k < n
  · by_cases e : i = k
    · subst e
      rw [List.getElem?_set_self (by rw [tb_len]; exact hk), tb_get? hk, if_pos rfl]
    · rw [List.getElem?_set_ne e, tb_get? hk, tb_get? hk, if_neg (fun h => e h.symm)]
  · rw [List.getElem?_eq_none (by rw [List.length_set, tb_len]; omega), List.getElem?_eq_none (by rw [tb_len]; omega)]
theorem tb_ext {g : Nat → α} (h : ∀ i, i < n → f i = g i) : tb n f = tb n g := by
  unfold tb
  exact List.map_congr_left fun i hi => h i (by simpa using hi)
theorem tb_const (x : α) : List.replicate n x = tb n (fun _ => x) := by
  refine List.ext_getElem? fun k => ?_
  by_cases hk : k < n <;> simp [tb, hk]
end tb
theorem nodup_le {α : Type} [DecidableEq α] : ∀ {l m : List α}, l.Nodup → (∀ x, x ∈ l → x ∈ m) → l.length ≤ m.length
  | [], m, _, _ => Nat.zero_le _
  | x :: l, m, hn, hs => by
    have hn' := List.nodup_cons.1 hn
    have hx : x ∈ m := hs x (List.mem_cons_self ..)
    have h1 := nodup_le (l := l) (m := m.erase x) hn'.2 (fun y hy => (List.mem_erase_of_ne (show y ≠ x from fun e => hn'.1 (by rw [← e]; exact hy))).2 (hs y (List.mem_cons_of_mem _ hy)))
    rw [List.length_erase_of_mem hx] at h1
    have : 0 < m.length := List.length_pos_of_mem hx
    simp only [List.length_cons]
    omega
/-- Numbers of 0, .., n - 1 as ints, no one twice: at most n. -/
theorem ints_le {n : Nat} {l : List Int} (hn : l.Nodup) (hr : ∀ x, x ∈ l → 0 ≤ x ∧ x < n) : l.length ≤ n := by
  have := nodup_le hn (m := (List.range n).map fun (i : Nat) => (i : Int)) (fun x hx => by
    have := hr x hx
    exact List.mem_map.2 ⟨x.toNat, by rw [List.mem_range]; omega, by omega⟩)
  simpa using this

/-! ### Which lists of preds may be -/
/-- Is the number at a place of a list one that may not be? -/
def badAt (n : Nat) (xs : List Int) (k : Nat) : Bool := decide (xs.getD k 0 < 0) || (decide ((n : Int) ≤ xs.getD k 0) || (decide (0 < k) && decide (xs.getD k 0 ≤ xs.getD (k - 1) 0)))
def formOk (xss : List (List Int)) : Prop := ∀ i, i < xss.length → ∀ k, k < (xss.getD i []).length → badAt xss.length (xss.getD i []) k = false
instance (xss : List (List Int)) : Decidable (formOk xss) := by unfold formOk; exact inferInstance
theorem badAt_false {n : Nat} {xs : List Int} {k : Nat} : badAt n xs k = false ↔ 0 ≤ xs.getD k 0 ∧ xs.getD k 0 < n ∧ (0 < k → xs.getD (k - 1) 0 < xs.getD k 0) := by
  simp only [badAt, Bool.or_eq_false_iff, Bool.and_eq_false_iff, decide_eq_false_iff_not]; omega
theorem rising_nodup {xs : List Int} (h : ∀ k, k + 1 < xs.length → xs.getD k 0 < xs.getD (k + 1) 0) : xs.Nodup := by
  have hlt : ∀ j k, j < k → k < xs.length → xs.getD j 0 < xs.getD k 0 := by
    intro j k hjk
    induction k with
    | zero => omega
    | succ k ih =>
      intro hk
      have h1 := h k hk
      rcases Nat.lt_succ_iff_lt_or_eq.1 hjk with h2 | rfl
      · have := ih h2 (by omega); omega
      · exact h1
  refine List.pairwise_iff_getElem.2 fun i j hi hj hij e => ?_
  have := hlt i j hij hj
  simp only [List.getD_eq_getElem?_getD, List.getElem?_eq_getElem hi, List.getElem?_eq_getElem hj, Option.getD_some] at this
  omega
theorem formOk.row {xss : List (List Int)} (h : formOk xss) {i : Nat} (hi : i < xss.length) : (xss.getD i []).Nodup ∧ ∀ p, p ∈ xss.getD i [] → 0 ≤ p ∧ p < xss.length := by
  refine ⟨rising_nodup fun k hk => ?_, fun p hp => ?_⟩
  · exact (badAt_false.1 (h i hi (k + 1) hk)).2.2 (by omega)
  · obtain ⟨k, hk, rfl⟩ := List.mem_iff_getElem.1 hp
    have := badAt_false.1 (h i hi k hk)
    rw [List.getD_eq_getElem?_getD, List.getElem?_eq_getElem hk] at this
    exact ⟨this.1, this.2.1⟩

/-! ### The document's order -/
section spec
variable (preds : List (List Int)) (ranks : List Int)
/-- Has a number all its preds in a list, and is not in it itself? -/
def rdy (out : List Int) (i : Nat) : Bool := !decide ((i : Int) ∈ out) && (preds.getD i []).all fun p => decide (p ∈ out)
def bestK (out : List Int) : Nat → Option Nat
  | 0 => none
  | k + 1 => match bestK out k with
    | none => if rdy preds out k then some k else none
    | some b => if rdy preds out k && decide (ranks.getD k 0 < ranks.getD b 0) then some k else some b
def best (out : List Int) : Option Nat := bestK preds ranks out preds.length
def ordRun : Nat → List Int → List Int
  | 0, out => out
  | f + 1, out => match best preds ranks out with
    | none => out
    | some b => ordRun f (out ++ [(b : Int)])
def orderL : List Int := ordRun preds ranks preds.length []
end spec
variable {preds : List (List Int)} {ranks : List Int}
theorem rdy_iff {out : List Int} {i : Nat} : rdy preds out i = true ↔ (i : Int) ∉ out ∧ ∀ p, p ∈ preds.getD i [] → p ∈ out := by
  simp [rdy]
theorem bestK_none {out : List Int} : ∀ {k : Nat}, bestK preds ranks out k = none ↔ ∀ i, i < k → rdy preds out i = false
  | 0 => by simp [bestK]
  | k + 1 => by
    have ih := bestK_none (out := out) (k := k)
    simp only [bestK]
    cases hb : bestK preds ranks out k with
    | none =>
      rw [hb] at ih
      have ih' := ih.1 rfl
      constructor
      · intro h i hi
        rcases Nat.lt_succ_iff_lt_or_eq.1 hi with h1 | rfl
        · exact ih' i h1
        · by_cases hr : rdy preds out i = true
          · simp [hr] at h
          · exact Bool.eq_false_iff.2 hr
      · intro h; simp [h k (Nat.lt_succ_self k)]
    | some b =>
      constructor
      · intro h; simp only at h; split at h <;> cases h
      · intro h
        have : bestK preds ranks out k = none := ih.2 (fun i hi => h i (by omega))
        rw [hb] at this; cases this
/-- b is the least of those that are ready below k. -/
def IsBest (preds : List (List Int)) (ranks : List Int) (out : List Int) (k b : Nat) : Prop :=
  b < k ∧ rdy preds out b = true ∧ ∀ i, i < k → rdy preds out i = true → ranks.getD b 0 < ranks.getD i 0 ∨ (ranks.getD b 0 = ranks.getD i 0 ∧ b ≤ i)
theorem bestK_some {out : List Int} : ∀ {k b : Nat}, bestK preds ranks out k = some b → IsBest preds ranks out k b
  | 0, b, h => by cases h
  | k + 1, b, h => by
    simp only [bestK] at h
    cases hb : bestK preds ranks out k with
    | none =>
      rw [hb] at h
      simp only at h
      split at h
      · rename_i hr
        cases h
        refine ⟨Nat.lt_succ_self _, hr, fun i hi hri => ?_⟩
        rcases Nat.lt_succ_iff_lt_or_eq.1 hi with h1 | rfl
        · rw [bestK_none.1 hb i h1] at hri; cases hri
        · exact .inr ⟨rfl, Nat.le_refl _⟩
      · cases h
    | some c =>
      rw [hb] at h
      simp only at h
      have ih := bestK_some hb
      split at h
      · rename_i hr
        simp only [Bool.and_eq_true, decide_eq_true_eq] at hr
        cases h
        refine ⟨Nat.lt_succ_self _, hr.1, fun i hi hri => ?_⟩
        rcases Nat.lt_succ_iff_lt_or_eq.1 hi with h1 | rfl
        · have := ih.2.2 i h1 hri; omega
        · exact .inr ⟨rfl, Nat.le_refl _⟩
      · rename_i hr
        simp only [Bool.and_eq_true, decide_eq_true_eq, not_and] at hr
        cases h
        refine ⟨by have := ih.1; omega, ih.2.1, fun i hi hri => ?_⟩
        rcases Nat.lt_succ_iff_lt_or_eq.1 hi with h1 | rfl
        · exact ih.2.2 i h1 hri
        · have := hr hri; have := ih.1; omega
theorem IsBest.eq {out : List Int} {k b c : Nat} (h : IsBest preds ranks out k b) (h' : IsBest preds ranks out k c) : b = c := by
  have h1 := h.2.2 c h'.1 h'.2.1
  have h2 := h'.2.2 b h.1 h.2.1
  omega
theorem bestK_is {out : List Int} {k b : Nat} (h : IsBest preds ranks out k b) : bestK preds ranks out k = some b := by
  cases hb : bestK preds ranks out k with
  | none => have := bestK_none.1 hb b h.1; rw [h.2.1] at this; cases this
  | some c => rw [(bestK_some hb).eq h]
/-- On the way: a list that the run comes by. -/
structure OnWay (preds : List (List Int)) (ranks : List Int) (out : List Int) : Prop where
  nodup : out.Nodup
  range : ∀ x, x ∈ out → 0 ≤ x ∧ x < preds.length
  run : ordRun preds ranks (preds.length - out.length) out = orderL preds ranks
  closed : ∀ i : Nat, (i : Int) ∈ out → ∀ p, p ∈ preds.getD i [] → p ∈ out
theorem OnWay.nil : OnWay preds ranks [] := ⟨List.nodup_nil, fun x h => (by cases h), by simp [orderL], fun i h => (by cases h)⟩
theorem OnWay.le {out : List Int} (h : OnWay preds ranks out) : out.length ≤ preds.length := ints_le h.nodup h.range
theorem OnWay.snoc_nodup {out : List Int} {b : Nat} (h : OnWay preds ranks out) (hb : IsBest preds ranks out preds.length b) : (out ++ [(b : Int)]).Nodup :=
  List.nodup_append.2 ⟨h.nodup, List.pairwise_singleton _ _, fun x hx y hy => by rw [List.mem_singleton] at hy; subst hy; exact fun e => (rdy_iff.1 hb.2.1).1 (e ▸ hx)⟩
theorem OnWay.step {out : List Int} {b : Nat} (h : OnWay preds ranks out) (hb : IsBest preds ranks out preds.length b) : OnWay preds ranks (out ++ [(b : Int)]) := by
  have hn := h.snoc_nodup hb
  have hr : ∀ x, x ∈ out ++ [(b : Int)] → 0 ≤ x ∧ x < preds.length := fun x hx => by
    rcases List.mem_append.1 hx with h1 | h1
    · exact h.range x h1
    · rw [List.mem_singleton] at h1; subst h1; have := hb.1; omega
  have hl := ints_le hn hr
  refine ⟨hn, hr, ?_, fun i hi p hp => ?_⟩
  case refine_2 =>
    rcases List.mem_append.1 hi with h1 | h1
    · exact List.mem_append_left _ (h.closed i h1 p hp)
    · rw [List.mem_singleton] at h1
      have : i = b := by omega
      subst this
      exact List.mem_append_left _ ((rdy_iff.1 hb.2.1).2 p hp)
  rw [List.length_append, List.length_singleton] at hl ⊢
  rw [← h.run, show preds.length - out.length = (preds.length - (out.length + 1)) + 1 by omega]
  simp only [ordRun, best, bestK_is hb]
theorem OnWay.lt {out : List Int} {b : Nat} (h : OnWay preds ranks out) (hb : IsBest preds ranks out preds.length b) : out.length < preds.length := by
  have := (h.step hb).le
  rw [List.length_append, List.length_singleton] at this
  omega
theorem OnWay.fin {out : List Int} (h : OnWay preds ranks out) (hb : best preds ranks out = none) : out = orderL preds ranks := by
  rw [← h.run]
  cases preds.length - out.length with
  | zero => rfl
  | succ k => simp only [ordRun, hb]
/-- The way comes to its end: none is ready. -/
theorem onWay_end : ∀ (f : Nat) (out : List Int), preds.length - out.length ≤ f → OnWay preds ranks out → ∃ o, OnWay preds ranks o ∧ best preds ranks o = none
  | f, out, hf, h => by
    cases hb : best preds ranks out with
    | none => exact ⟨out, h, hb⟩
    | some b =>
      have hib := bestK_some hb
      have h1 := h.lt hib
      cases f with
      | zero => omega
      | succ f => exact onWay_end f _ (by rw [List.length_append, List.length_singleton]; omega) (h.step hib)
theorem orderL_onWay : OnWay preds ranks (orderL preds ranks) ∧ best preds ranks (orderL preds ranks) = none := by
  obtain ⟨o, h1, h2⟩ := onWay_end (preds := preds) (ranks := ranks) _ [] (Nat.le_refl _) .nil
  have := h1.fin h2
  rw [← this]; exact ⟨h1, h2⟩

/-! ### A heap of those that are ready -/
/-- The heap holds just those of which P holds, with their ranks. -/
structure HS (n : Nat) (ranks : List Int) (P : Nat → Prop) (xs : List (Int × Int)) : Prop where
  heap : Heap xs xs.length
  nodup : xs.Nodup
  mem : ∀ y, y ∈ xs ↔ ∃ i : Nat, i < n ∧ P i ∧ y = (ranks.getD i 0, (i : Int))
theorem HS.nil {n : Nat} {P : Nat → Prop} (h : ∀ i, i < n → ¬ P i) : HS n ranks P [] := ⟨fun k _ hk => by simp at hk, List.nodup_nil, fun y => ⟨fun h => (by cases h), fun ⟨i, hi, hp, _⟩ => absurd hp (h i hi)⟩⟩
theorem HS.congr {n : Nat} {P P' : Nat → Prop} {xs : List (Int × Int)} (h : HS n ranks P xs) (e : ∀ i, i < n → (P i ↔ P' i)) : HS n ranks P' xs :=
  ⟨h.heap, h.nodup, fun y => (h.mem y).trans ⟨fun ⟨i, hi, hp, hy⟩ => ⟨i, hi, (e i hi).1 hp, hy⟩, fun ⟨i, hi, hp, hy⟩ => ⟨i, hi, (e i hi).2 hp, hy⟩⟩⟩
theorem HS.push {n : Nat} {P : Nat → Prop} {xs : List (Int × Int)} {x : Nat} (h : HS n ranks P xs) (hx : x < n) (hp : ¬ P x) : HS n ranks (fun i => P i ∨ i = x) (hpush xs (ranks.getD x 0, (x : Int))) := by
  refine ⟨hpush_heap _ _ h.heap, (hpush_perm _ _).nodup_iff.2 (List.nodup_cons.2 ⟨fun hm => ?_, h.nodup⟩), fun y => ?_⟩
  · obtain ⟨i, _, hpi, he⟩ := (h.mem _).1 hm
    have : (x : Int) = (i : Int) := (Prod.mk.inj he).2
    have : x = i := by omega
    exact hp (this ▸ hpi)
  · rw [(hpush_perm _ _).mem_iff, List.mem_cons, h.mem]
    constructor
    · rintro (rfl | ⟨i, hi, hpi, he⟩)
      · exact ⟨x, hx, .inr rfl, rfl⟩
      · exact ⟨i, hi, .inl hpi, he⟩
    · rintro ⟨i, hi, hpi | rfl, he⟩
      · exact .inr ⟨i, hi, hpi, he⟩
      · exact .inl he
theorem HS.pop {n : Nat} {P : Nat → Prop} {xs : List (Int × Int)} (h : HS n ranks P xs) (h0 : 0 < xs.length) :
    ∃ x : Nat, x < n ∧ P x ∧ xs.getD 0 z2 = (ranks.getD x 0, (x : Int)) ∧ HS n ranks (fun i => P i ∧ i ≠ x) (hpop xs) ∧ ∀ i, i < n → P i → ranks.getD x 0 < ranks.getD i 0 ∨ (ranks.getD x 0 = ranks.getD i 0 ∧ x ≤ i) := by
  have hp := hpop_perm h0
  have hm : xs.getD 0 z2 ∈ xs := hp.mem_iff.2 (List.mem_cons_self ..)
  obtain ⟨x, hx, hpx, he⟩ := (h.mem _).1 hm
  have hnd := hp.nodup_iff.1 h.nodup
  rw [List.nodup_cons] at hnd
  refine ⟨x, hx, hpx, he, ⟨hpop_heap h0 h.heap, hnd.2, fun y => ⟨fun hy => ?_, fun ⟨i, hi, ⟨hpi, hne⟩, hy⟩ => ?_⟩⟩, fun i hi hpi => ?_⟩
  · obtain ⟨i, hi, hpi, hyi⟩ := (h.mem y).1 (hp.mem_iff.2 (List.mem_cons_of_mem _ hy))
    refine ⟨i, hi, ⟨hpi, fun e => hnd.1 ?_⟩, hyi⟩
    subst e
    rw [he, ← hyi]; exact hy
  · have hyx : y ∈ xs := (h.mem y).2 ⟨i, hi, hpi, hy⟩
    rcases List.mem_cons.1 (hp.mem_iff.1 hyx) with h1 | h1
    · rw [h1, he] at hy
      have := (Prod.mk.inj hy).2
      omega
    · exact h1
  · have := hpop_least h.heap _ ((h.mem _).2 ⟨i, hi, hpi, rfl⟩)
    rw [he, iless_false] at this
    simp only at this
    omega
theorem HS.le {n : Nat} {P : Nat → Prop} {xs : List (Int × Int)} (h : HS n ranks P xs) : xs.length ≤ n := by
  have := nodup_le h.nodup (m := (List.range n).map fun (i : Nat) => (ranks.getD i 0, (i : Int))) (fun y hy => by
    obtain ⟨i, hi, _, he⟩ := (h.mem y).1 hy
    exact List.mem_map.2 ⟨i, by simpa using hi, he.symm⟩)
  simpa using this

/-! ### Counting -/
/-- How many of a number's preds are not in a list. -/
def cnt (preds : List (List Int)) (out : List Int) (i : Nat) : Nat := ((preds.getD i []).filter fun p => !decide (p ∈ out)).length
theorem cnt_zero {out : List Int} {i : Nat} : cnt preds out i = 0 ↔ ∀ p, p ∈ preds.getD i [] → p ∈ out := by
  unfold cnt
  rw [List.length_eq_zero_iff, List.filter_eq_nil_iff]
  simp
theorem rdy_cnt {out : List Int} {i : Nat} : rdy preds out i = true ↔ (i : Int) ∉ out ∧ cnt preds out i = 0 := by rw [rdy_iff, cnt_zero]
theorem cnt_nil (i : Nat) : cnt preds [] i = (preds.getD i []).length := by simp [cnt]
theorem filter_drop_one {x : Int} {out : List Int} (hx : x ∉ out) : ∀ {ps : List Int}, ps.Nodup → (ps.filter fun p => !decide (p ∈ out)).length = (ps.filter fun p => !decide (p ∈ out ++ [x])).length + (if x ∈ ps then 1 else 0)
  | [], _ => rfl
  | p :: ps, hn => by
    have hn' := List.nodup_cons.1 hn
    have ih := filter_drop_one hx hn'.2
    by_cases h1 : p = x
    · subst h1
      have h2 : ¬ p ∈ ps := hn'.1
      rw [if_neg h2] at ih
      simp [hx] at ih ⊢
      exact ih
    · by_cases h2 : p ∈ out
      · simp [h2, h1, Ne.symm h1] at ih ⊢; exact ih
      · have h3 : ¬ x = p := fun e => h1 e.symm
        simp [h2, h1, h3] at ih ⊢; omega
theorem cnt_snoc {x : Int} {out : List Int} {i : Nat} (hx : x ∉ out) (hn : (preds.getD i []).Nodup) : cnt preds out i = cnt preds (out ++ [x]) i + (if x ∈ preds.getD i [] then 1 else 0) := filter_drop_one hx hn
theorem cnt_le (hf : formOk preds) {out : List Int} {i : Nat} (hi : i < preds.length) : cnt preds out i ≤ preds.length := by
  have h := hf.row hi
  exact Nat.le_trans (List.length_filter_le _ _) (ints_le h.1 h.2)
/-- Those below K that have p among their preds. -/
def bhd (preds : List (List Int)) (K p : Nat) : List Int := ((List.range K).filter fun k => decide ((p : Int) ∈ preds.getD k [])).map fun (k : Nat) => (k : Int)
theorem bhd_succ (K p : Nat) : bhd preds (K + 1) p = bhd preds K p ++ (if (p : Int) ∈ preds.getD K [] then [(K : Int)] else []) := by
  simp only [bhd, List.range_succ, List.filter_append, List.map_append]
  congr 1
  by_cases h : (p : Int) ∈ preds.getD K []
  · simp only [List.filter_cons, List.filter_nil, h, decide_true, if_true, List.map_cons, List.map_nil]
  · simp only [List.filter_cons, List.filter_nil, h, decide_false, if_false, List.map_nil, Bool.false_eq_true]
theorem bhd_mem {K p : Nat} {x : Int} : x ∈ bhd preds K p ↔ ∃ k : Nat, k < K ∧ (p : Int) ∈ preds.getD k [] ∧ x = (k : Int) := by
  simp only [bhd, List.mem_map, List.mem_filter, List.mem_range, decide_eq_true_eq]
  exact ⟨fun ⟨k, ⟨h1, h2⟩, h3⟩ => ⟨k, h1, h2, h3.symm⟩, fun ⟨k, h1, h2, h3⟩ => ⟨k, ⟨h1, h2⟩, h3.symm⟩⟩
theorem bhd_len (K p : Nat) : (bhd preds K p).length ≤ K := by
  unfold bhd
  rw [List.length_map]
  exact Nat.le_trans (List.length_filter_le _ _) (by simp)
theorem bhd_nodup (K p : Nat) : (bhd preds K p).Nodup := by
  unfold bhd
  refine List.Pairwise.map _ (fun a b hab => ?_) ((List.nodup_range (n := K)).filter _)
  intro e; exact hab (by omega)
/-- What stands in 'behind', while the K-th list is gone through. -/
def bhdAt (preds : List (List Int)) (K j p : Nat) : List Int := bhd preds K p ++ (if (p : Int) ∈ (preds.getD K []).take j then [(K : Int)] else [])
theorem bhdAt_zero (K p : Nat) : bhdAt preds K 0 p = bhd preds K p := by simp [bhdAt]
theorem bhdAt_end (K p : Nat) : bhdAt preds K (preds.getD K []).length p = bhd preds (K + 1) p := by rw [bhdAt, List.take_length, bhd_succ]
theorem bhdAt_len (K j p : Nat) : (bhdAt preds K j p).length ≤ K + 1 := by
  have := bhd_len (preds := preds) K p
  unfold bhdAt
  rw [List.length_append]
  split <;> simp <;> omega
theorem take_mem_succ {xs : List Int} {j : Nat} (hj : j < xs.length) (x : Int) : x ∈ xs.take (j + 1) ↔ x ∈ xs.take j ∨ x = xs.getD j 0 := by
  rw [List.take_add_one, List.getElem?_eq_getElem hj, List.getD_eq_getElem?_getD, List.getElem?_eq_getElem hj]
  simp only [Option.toList_some, Option.getD_some, List.mem_append, List.mem_singleton]
theorem not_mem_take {xs : List Int} {j : Nat} (hn : xs.Nodup) (hj : j < xs.length) : xs.getD j 0 ∉ xs.take j := fun h => by
  obtain ⟨k, hk, he⟩ := List.mem_iff_getElem.1 h
  rw [List.length_take] at hk
  have h1 := List.pairwise_iff_getElem.1 hn k j (by omega) hj (by omega)
  rw [List.getElem_take] at he
  rw [List.getD_eq_getElem?_getD, List.getElem?_eq_getElem hj] at he
  exact h1 he
theorem bhdAt_step {K j p : Nat} (hn : (preds.getD K []).Nodup) (hj : j < (preds.getD K []).length) (hp : (p : Int) = (preds.getD K []).getD j 0) (q : Nat) :
    bhdAt preds K (j + 1) q = if q = p then bhdAt preds K j p ++ [(K : Int)] else bhdAt preds K j q := by
  have h1 := not_mem_take hn hj
  by_cases e : q = p
  · subst e
    rw [if_pos rfl]
    unfold bhdAt
    rw [if_pos ((take_mem_succ hj _).2 (.inr hp)), if_neg (by rw [hp]; exact h1), List.append_nil]
  · rw [if_neg e]
    unfold bhdAt
    have : ((q : Int) ∈ (preds.getD K []).take (j + 1)) = ((q : Int) ∈ (preds.getD K []).take j) := by
      rw [take_mem_succ hj, ← hp]
      exact propext ⟨fun h => h.resolve_right (fun h => e (by omega)), .inl⟩
    simp only [this]
/-- What stands in 'open', while those behind x are gone through: D are done. -/
def cntAt (preds : List (List Int)) (out : List Int) (x : Int) (D : List Int) (i : Nat) : Nat := if (i : Int) ∈ D then cnt preds (out ++ [x]) i else cnt preds out i
/-- Which numbers are ready then. -/
def RdyAt (preds : List (List Int)) (out : List Int) (x : Int) (D : List Int) (i : Nat) : Prop := (i : Int) ∉ out ++ [x] ∧ cntAt preds out x D i = 0
section inner
variable {out : List Int} {x : Nat}
theorem rdyAt_zero {i : Nat} : RdyAt preds out x [] i ↔ (rdy preds out i = true ∧ i ≠ x) := by
  rw [rdy_cnt]
  simp only [RdyAt, cntAt, List.not_mem_nil, if_false, List.mem_append, List.mem_singleton, not_or]
  constructor
  · rintro ⟨⟨h1, h2⟩, h3⟩; exact ⟨⟨h1, h3⟩, fun e => h2 (by omega)⟩
  · rintro ⟨⟨h1, h3⟩, h2⟩; exact ⟨⟨h1, fun e => h2 (by omega)⟩, h3⟩
theorem cntAt_end (hf : formOk preds) (hx : (x : Int) ∉ out) {i : Nat} (hi : i < preds.length) : cntAt preds out x (bhd preds preds.length x) i = cnt preds (out ++ [(x : Int)]) i := by
  unfold cntAt
  split
  · rfl
  · rename_i h
    have : ¬ (x : Int) ∈ preds.getD i [] := fun hm => h (bhd_mem.2 ⟨i, hi, hm, rfl⟩)
    have h2 := cnt_snoc hx (hf.row hi).1
    rw [if_neg this] at h2
    omega
theorem rdyAt_end (hf : formOk preds) (hx : (x : Int) ∉ out) {i : Nat} (hi : i < preds.length) : RdyAt preds out x (bhd preds preds.length x) i ↔ rdy preds (out ++ [(x : Int)]) i = true := by
  rw [rdy_cnt, RdyAt, cntAt_end hf hx hi]
/-- The j-th of those behind x. -/
structure Behind (preds : List (List Int)) (out : List Int) (x j m : Nat) : Prop where
  lt : m < preds.length
  is_ : (m : Int) = (bhd preds preds.length x).getD j 0
  cnt_ : cnt preds out m = cnt preds (out ++ [(x : Int)]) m + 1
  at_ : cntAt preds out x ((bhd preds preds.length x).take j) m = cnt preds out m
  next : ∀ i, cntAt preds out x ((bhd preds preds.length x).take (j + 1)) i = if i = m then cnt preds (out ++ [(x : Int)]) m else cntAt preds out x ((bhd preds preds.length x).take j) i
  out : (m : Int) ∉ out ++ [(x : Int)]
theorem behind_of (hf : formOk preds) (hw : OnWay preds ranks out) (hb : IsBest preds ranks out preds.length x) {j : Nat} (hj : j < (bhd preds preds.length x).length) : ∃ m, Behind preds out x j m := by
  have hg : (bhd preds preds.length x).getD j 0 ∈ bhd preds preds.length x := by
    rw [List.getD_eq_getElem?_getD, List.getElem?_eq_getElem hj]; exact List.getElem_mem hj
  obtain ⟨m, hm, hxm, he⟩ := bhd_mem.1 hg
  have hx := (rdy_iff.1 hb.2.1).1
  have hc := cnt_snoc hx (hf.row hm).1
  rw [if_pos hxm] at hc
  have hnt := not_mem_take (bhd_nodup preds.length x) hj
  refine ⟨m, hm, he.symm, hc, ?_, fun i => ?_, fun h => ?_⟩
  · unfold cntAt; rw [if_neg (by rw [← he]; exact hnt)]
  · unfold cntAt
    by_cases e : i = m
    · subst e
      rw [if_pos rfl, if_pos ((take_mem_succ hj _).2 (.inr he.symm))]
    · rw [if_neg e]
      have : ((i : Int) ∈ (bhd preds preds.length x).take (j + 1)) = ((i : Int) ∈ (bhd preds preds.length x).take j) := by
        rw [take_mem_succ hj, he]
        exact propext ⟨fun h => h.resolve_right (fun h => e (by omega)), .inl⟩
      simp only [this]
  · rcases List.mem_append.1 h with h1 | h1
    · exact hx (hw.closed m h1 _ hxm)
    · rw [List.mem_singleton] at h1
      have : m = x := by omega
      subst this
      exact hx ((rdy_iff.1 hb.2.1).2 _ hxm)
theorem Behind.rdy_zero {j m : Nat} (h : Behind preds out x j m) (h0 : cnt preds (out ++ [(x : Int)]) m = 0) (i : Nat) : (RdyAt preds out x ((bhd preds preds.length x).take j) i ∨ i = m) ↔ RdyAt preds out x ((bhd preds preds.length x).take (j + 1)) i := by
  unfold RdyAt
  rw [h.next i]
  by_cases e : i = m
  · subst e; simp [h0, h.out]
  · simp [e]
theorem Behind.rdy_pos {j m : Nat} (h : Behind preds out x j m) (h0 : cnt preds (out ++ [(x : Int)]) m ≠ 0) (i : Nat) : RdyAt preds out x ((bhd preds preds.length x).take j) i ↔ RdyAt preds out x ((bhd preds preds.length x).take (j + 1)) i := by
  unfold RdyAt
  rw [h.next i]
  by_cases e : i = m
  · subst e; rw [h.at_, h.cnt_]; simp [h0]
  · simp [e]
theorem Behind.not_rdy {j m : Nat} (h : Behind preds out x j m) : ¬ RdyAt preds out x ((bhd preds preds.length x).take j) m := by
  unfold RdyAt
  rw [h.at_, h.cnt_]
  rintro ⟨_, h1⟩; omega
end inner
end Go.Proofs.YtfnmcpgajjkemaaDoor
