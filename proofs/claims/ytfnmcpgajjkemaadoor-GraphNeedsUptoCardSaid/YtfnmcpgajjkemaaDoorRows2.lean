/- The symbolic walk, part 9: rows of ints, of bools, of rows. -/
import Derived.Test.YtfnmcpgajjkemaaDoorEnc
namespace Go.Proofs.YtfnmcpgajjkemaaDoor.SW
open Go Go.RowKit

abbrev SV := { v : Value // v.oneCell' = true }
def svnil : SV := ⟨.slice none 0 0, rfl⟩
section
variable {P : Program} {Q : Exit → Act → World → Prop} {n : Nat} {I J : Imm} {fr : List (Nat × Value)} {l : List Itm} {K : Act → World → Prop} {t : TypeId} {v : Value}
variable {α : Type} {e : Enc α} {E : TypeId}
theorem ld_ii {xs : List Int} {i : Nat} (T : Tab P) (hr : RowI eInt I v xs) (ht : (T.sh t).plain = true) (h : i < xs.length) : Ld P I l t (eptr v 1 i 0) (.int .i64 (xs.getD i 0)) := ld_rowi T hr rfl ht (get_of 0 h) rfl
theorem ld_ri {xs : List Int} {i : Nat} (T : Tab P) (hat : At (row eInt E v xs) l) (ht : (T.sh t).plain = true) (h : i < xs.length) : Ld P I l t (eptr v 1 i 0) (.int .i64 (xs.getD i 0)) := ld_row T hat rfl ht (get_of 0 h) rfl
theorem ld_rb {xs : List Bool} {i : Nat} (T : Tab P) (hat : At (row eBool E v xs) l) (ht : (T.sh t).plain = true) (h : i < xs.length) : Ld P I l t (eptr v 1 i 0) (.bool (xs.getD i false)) := ld_row T hat rfl ht (get_of false h) rfl
theorem ld_vi {vs : List SV} {i : Nat} (T : Tab P) (hr : RowI eVal I v vs) (ht : (T.sh t).plain = true) (h : i < vs.length) : Ld P I l t (eptr v 1 i 0) (vs.getD i svnil).1 := ld_rowi T hr rfl ht (get_of svnil h) rfl
theorem ld_vr {vs : List SV} {i : Nat} (T : Tab P) (hat : At (row eVal E v vs) l) (ht : (T.sh t).plain = true) (h : i < vs.length) : Ld P I l t (eptr v 1 i 0) (vs.getD i svnil).1 := ld_row T hat rfl ht (get_of svnil h) rfl

/-- A slice of slices, of the immutable part. -/
structure RowII (e : Enc α) (I : Imm) (v : Value) (vs : List SV) (xss : List (List α)) : Prop where
  top : RowI eVal I v vs
  len : vs.length = xss.length
  at_ : ∀ i, i < xss.length → RowI e I (vs.getD i svnil).1 (xss.getD i [])
theorem RowII.mono {vs : List SV} {xss : List (List α)} (h : RowII e I v vs xss) (k : I.le J) : RowII e J v vs xss := ⟨h.top.mono k, h.len, fun i hi => (h.at_ i hi).mono k⟩

theorem RowII.nil (e : Enc α) (I : Imm) : RowII e I (.slice none 0 0) [] [] := ⟨RowI.nil eVal I, rfl, fun i hi => by simp at hi⟩
theorem rows_snoc {vs : List SV} {k : Nat} {u : SV} {R : Nat → List α} (hl : vs.length = k) (h : ∀ i, i < k → RowI e I (vs.getD i svnil).1 (R i)) (hu : RowI e I u.1 (R k)) : ∀ i, i < k + 1 → RowI e I ((vs ++ [u]).getD i svnil).1 (R i) := fun i hi => by
  subst hl
  rcases Nat.lt_succ_iff_lt_or_eq.1 hi with h1 | rfl
  · rw [List.getD_eq_getElem?_getD, List.getElem?_append_left h1, ← List.getD_eq_getElem?_getD]; exact h i h1
  · rw [List.getD_eq_getElem?_getD, List.getElem?_append_right (Nat.le_refl _)]; simpa using hu
/-! ### Owned slices of owned slices -/
theorem cons_erase_perm {β : Type} : ∀ {xs : List β} {i : Nat} (h : i < xs.length), (xs[i] :: xs.eraseIdx i).Perm xs
  | x :: xs, 0, _ => .refl _
  | x :: xs, i + 1, h => by
    have := cons_erase_perm (xs := xs) (i := i) (by simpa using h)
    exact (List.Perm.swap _ _ _).trans (this.cons x)
def rowsL (e : Enc α) (E : TypeId) (vs : List SV) (xss : List (List α)) : List Itm := List.zipWith (fun v xs => row e E v.1 xs) vs xss
theorem rowsL_length {vs : List SV} {xss : List (List α)} (h : vs.length = xss.length) : (rowsL e E vs xss).length = xss.length := by simp [rowsL, h]
theorem rowsL_get {vs : List SV} {xss : List (List α)} {i : Nat} (h : vs.length = xss.length) (hi : i < xss.length) : (rowsL e E vs xss)[i]? = some (row e E (vs.getD i svnil).1 (xss.getD i [])) := by
  have h2 : i < vs.length := by omega
  simp [rowsL, List.getElem?_zipWith, List.getD, hi, h2]
theorem rowsL_take {vs : List SV} {xss : List (List α)} {i : Nat} (h : vs.length = xss.length) (hi : i < xss.length) : (rowsL e E vs xss).Perm (row e E (vs.getD i svnil).1 (xss.getD i []) :: (rowsL e E vs xss).eraseIdx i) := by
  have hl : i < (rowsL e E vs xss).length := by rw [rowsL_length h]; exact hi
  have hg := rowsL_get (e := e) (E := E) h hi
  rw [List.getElem?_eq_getElem hl] at hg
  rw [← Option.some.inj hg]
  exact (cons_erase_perm hl).symm
theorem rowsL_put {vs : List SV} {xss : List (List α)} {i : Nat} (h : vs.length = xss.length) (hi : i < xss.length) (u : SV) (ys : List α) : (row e E u.1 ys :: (rowsL e E vs xss).eraseIdx i).Perm (rowsL e E (vs.set i u) (xss.set i ys)) := by
  have hset : rowsL e E (vs.set i u) (xss.set i ys) = (rowsL e E vs xss).set i (row e E u.1 ys) := by
    refine List.ext_getElem? fun k => ?_
    have h2 : i < vs.length := by omega
    by_cases hk : i = k
    · subst hk
      rw [List.getElem?_set_self (by rw [rowsL_length h]; exact hi)]
      simp [rowsL, List.getElem?_zipWith, hi, h2]
    · simp [rowsL, List.getElem?_zipWith, List.getElem?_set_ne hk]
  have hl : i < ((rowsL e E vs xss).set i (row e E u.1 ys)).length := by rw [List.length_set, rowsL_length h]; exact hi
  have := cons_erase_perm hl
  rw [hset]
  simpa [List.getElem_set_self, List.eraseIdx_set_eq] using this
theorem K_rowsnil (e : Enc α) (E : TypeId) (k : Nat) (h : KK n I fr (rowsL e E (List.replicate k svnil) (List.replicate k []) ++ l) K) : KK n I fr l K := by
  induction k with
  | zero => exact h
  | succ k ih =>
    refine ih (K_nilrow e E ?_)
    exact h
theorem K_rowsgive {vs : List SV} {xss : List (List α)} (hl : vs.length = xss.length) (h : ∀ J, I.le J → (∀ i, i < xss.length → RowI e J (vs.getD i svnil).1 (xss.getD i [])) → KK n J fr l K) : KK n I fr (rowsL e E vs xss ++ l) K := by
  induction xss generalizing vs I with
  | nil =>
    cases vs with
    | nil => exact h I (Imm.le.refl I) (fun i hi => by simp at hi)
    | cons _ _ => cases hl
  | cons xs xss ih =>
    cases vs with
    | nil => cases hl
    | cons u vs =>
      refine K_give (fun J hJ hr => ih (vs := vs) (by simpa using hl) (fun J' hJ' hrs => h J' (hJ.trans hJ') (fun i hi => ?_)))
      cases i with
      | zero => exact hr.mono hJ'
      | succ i => exact hrs i (by simpa using hi)
theorem K_app {m : List Itm} (h : KK n I fr (m ++ l) K) : KK n I fr (l ++ m) K := K_perm List.perm_append_comm h
end
end Go.Proofs.YtfnmcpgajjkemaaDoor.SW
