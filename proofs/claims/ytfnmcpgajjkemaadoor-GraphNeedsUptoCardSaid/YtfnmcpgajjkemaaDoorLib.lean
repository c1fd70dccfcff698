/- The library's functions that package graph calls, in the walk's words. -/
import Derived.Test.YtfnmcpgajjkemaaDoorStr
import Derived.Test.YtfnmcpgajjkemaaDoorShelf
import Derived.Lib.ReplaceLaws
import Derived.Lib.SplitLaws
namespace Go.Proofs.YtfnmcpgajjkemaaDoor
open Go Go.RowKit Go.Proofs.YtfnmcpgajjkemaaDoor.SW
theorem idxFrom_mem (x : Int) : ∀ (xs : List Int) (i : Nat), x ∈ xs → ∃ k : Nat, Lib.idxFrom xs x i = ((i + k : Nat) : Int) ∧ k < xs.length ∧ xs.getD k 0 = x
  | [], _, h => by cases h
  | z :: zs, i, h => by
    by_cases hz : z = x
    · exact ⟨0, by simp [Lib.idxFrom, hz], by simp, by simpa using hz⟩
    · obtain ⟨k, h1, h2, h3⟩ := idxFrom_mem x zs (i + 1) ((List.mem_cons.1 h).resolve_left (fun e => hz e.symm))
      refine ⟨k + 1, ?_, by simpa using h2, by simpa using h3⟩
      simp only [Lib.idxFrom, if_neg hz, h1]
      congr 1
      omega
theorem idxOf_mem {x : Int} {xs : List Int} (h : x ∈ xs) : ∃ k : Nat, Lib.idxOf xs x = (k : Int) ∧ k < xs.length ∧ xs.getD k 0 = x := by
  obtain ⟨k, h1, h2⟩ := idxFrom_mem x xs 0 h
  exact ⟨k, by simpa [Lib.idxOf] using h1, h2⟩
theorem foldl_min_mem : ∀ (xs : List Int) (a : Int), xs.foldl min a = a ∨ xs.foldl min a ∈ xs
  | [], a => .inl rfl
  | x :: xs, a => by
    rw [List.foldl_cons]
    rcases foldl_min_mem xs (min a x) with h | h
    · rw [h]
      by_cases h2 : a ≤ x
      · left; omega
      · right; rw [show min a x = x by omega]; exact List.mem_cons_self ..
    · exact .inr (List.mem_cons_of_mem _ h)
theorem minOf_mem {xs : List Int} (h : 0 < xs.length) : Lib.minOf xs ∈ xs := by
  cases xs with
  | nil => simp at h
  | cons x xs =>
    unfold Lib.minOf
    rcases foldl_min_mem (x :: xs) ((x :: xs).headD 0) with h1 | h1
    · rw [h1]; simp
    · exact h1
section
variable {I : Imm} {l : List Itm} {v : Value} {xs : List Int} {x : Int} {E : TypeId}
theorem c_contains (h : Cl I l v xs) : Ct Tryd.prog 30 [v, .int .i64 x] I l (fun r J m => r = .bool (decide (x ∈ xs)) ∧ I = J ∧ l = m) :=
  Ct.stay (fun w hw => by
    rcases h w hw with ⟨rfl, a, c, rfl⟩ | ⟨h0, hm, b, off, c, rfl, hc⟩
    · exact Tryd.slices_Contains_int_empty a c x w
    · have := Tryd.slices_Contains_int b off xs.length c xs x w (Nat.le_refl _) (by simp only [maxLen] at hm; omega) hc
      rw [List.take_length] at this
      simpa [List.contains_eq_mem] using this) ⟨rfl, rfl, rfl⟩
theorem c_index (h : Cl I l v xs) : Ct Tryd.prog 32 [v, .int .i64 x] I l (fun r J m => r = .int .i64 (Lib.idxOf xs x) ∧ I = J ∧ l = m) :=
  Ct.stay (fun w hw => by
    rcases h w hw with ⟨rfl, a, c, rfl⟩ | ⟨h0, hm, b, off, c, rfl, hc⟩
    · exact Tryd.slices_Index_int_empty a c x w
    · have := Tryd.slices_Index_int b off xs.length c xs x w (Nat.le_refl _) (by simp only [maxLen] at hm; omega) hc
      rw [List.take_length] at this
      exact this) ⟨rfl, rfl, rfl⟩
theorem c_min (h : Cl I l v xs) (hn : 0 < xs.length) : Ct Tryd.prog 40 [v] I l (fun r J m => r = .int .i64 (Lib.minOf xs) ∧ I = J ∧ l = m) :=
  Ct.stay (fun w hw => by
    rcases h w hw with ⟨rfl, a, c, rfl⟩ | ⟨h0, hm, b, off, c, rfl, hc⟩
    · simp at hn
    · have := Tryd.slices_Min_int b off xs.length c xs w hn (Nat.le_refl _) (by simp only [maxLen] at hm; omega) hc
      rw [List.take_length] at this
      exact this) ⟨rfl, rfl, rfl⟩
theorem c_bsearch (h : Cl I l v xs) (hs : xs.Pairwise (· ≤ ·)) (hm : xs.length < 4611686018427387904) : Ct Tryd.prog 31 [v, .int .i64 x] I l (fun r J m => r = .tuple #[.int .i64 (xs.countP (· < x) : Nat), .bool (decide (x ∈ xs))] ∧ I = J ∧ l = m) :=
  Ct.draws (fun w hw => by
    rcases h w hw with ⟨rfl, a, c, rfl⟩ | ⟨h0, _, b, off, c, rfl, hc⟩
    · exact (Tryd.slices_BinarySearch_int_empty a c x w).mono fun e w' ⟨h1, h2⟩ => ⟨h1, 0, by rw [h2]; rfl⟩
    · have := Tryd.slices_BinarySearch_int b off xs.length c xs x w (Nat.le_refl _) hm hc (by rw [List.take_length]; exact hs)
      rw [List.take_length] at this
      simpa [List.contains_eq_mem] using this) ⟨rfl, rfl, rfl⟩
theorem c_reverse : Ct Tryd.prog 33 [v] I (row eInt E v xs :: l) (fun _ J m => I = J ∧ m = row eInt E v xs.reverse :: l) := fun w hw => by
  rcases row_split hw with ⟨rfl, rfl⟩ | ⟨b, cap, rfl⟩
  · exact (Tryd.slices_Reverse_int_empty none 0 w).mono fun e w' ⟨h1, h2⟩ => ⟨_, I, _, h1, Imm.le.refl I, by rw [h2]; exact hw, rfl, rfl⟩
  · obtain ⟨_, h2, h3, h4⟩ := row_cells hw
    refine (Tryd.slices_Reverse_int b 0 cap xs w (row_holds hw) (by simp only [maxLen] at h4; omega)).mono fun e w' ⟨h5, n, h6⟩ => ⟨_, I, _, h5, Imm.le.refl I, ?_, rfl, rfl⟩
    have := hw.putRow (ys := xs.reverse) (by simp) n #[]
    rw [Go.Sort.grow_empty] at this
    rw [h6]; exact this
theorem c_sort (hm : xs.length < 4611686018427387904) : Ct Tryd.prog 50 [v] I (row eInt E v xs :: l) (fun _ J m => I = J ∧ m = row eInt E v (xs.mergeSort fun x y => decide (x ≤ y)) :: l) := fun w hw => by
  rcases row_split hw with ⟨rfl, rfl⟩ | ⟨b, cap, rfl⟩
  · exact (Tryd.slices_Sort_int_none none 0 w).mono fun e w' ⟨h1, h2⟩ => ⟨_, I, row eInt E (.slice none 0 0) [] :: l, h1, Imm.le.refl I, by rw [h2]; exact hw, rfl, by simp⟩
  · obtain ⟨_, h2, _⟩ := row_cells hw
    refine (Tryd.slices_Sort_int b 0 cap xs w (row_holds hw) h2 hm).mono fun e w' ⟨h5, n, os, h6⟩ => ⟨_, I, _, h5, Imm.le.refl I, ?_, rfl, rfl⟩
    have := hw.putRow (ys := xs.mergeSort fun x y => decide (x ≤ y)) (by simp) n os
    rw [h6]; exact this
theorem c_compact : Ct Tryd.prog 51 [v] I (row eInt E v xs :: l) (fun r J m => I = J ∧ m = row eInt E r (Lib.compact xs) :: l) := fun w hw => by
  rcases row_split hw with ⟨rfl, rfl⟩ | ⟨b, cap, rfl⟩
  · exact (Tryd.slices_Compact_int_empty none 0 w).mono fun e w' ⟨h1, h2⟩ => ⟨_, I, _, h1, Imm.le.refl I, by rw [h2]; exact hw, rfl, rfl⟩
  · obtain ⟨_, h2, h3, h4⟩ := row_cells hw
    have hcl : (Lib.compact xs).length ≤ xs.length := by
      unfold Lib.compact Lib.compactUpTo
      rw [List.length_map]
      exact Nat.le_trans (List.length_filter_le _ _) (by simp)
    refine (Tryd.slices_Compact_int b 0 cap xs w (row_holds hw) (by simp only [maxLen] at h4; omega) h3).mono fun e w' ⟨h5, n, h6⟩ => ⟨_, I, _, h5, Imm.le.refl I, ?_, rfl, rfl⟩
    have := hw.putRow (ys := Lib.compact xs ++ List.replicate (xs.length - (Lib.compact xs).length) 0) (by simp; omega) n #[]
    rw [Go.Sort.grow_empty, ← h6] at this
    have h7 : (Lib.compact xs ++ List.replicate (xs.length - (Lib.compact xs).length) 0).length = xs.length := by simp; omega
    have h8 := St.cutrow (j := (Lib.compact xs).length) (v := .slice (some ⟨b, 0, none⟩) xs.length cap) this (by rw [h7]; exact hcl)
    rw [List.take_left'] at h8
    · have h9 : cutv eInt.sz (.slice (some ⟨b, 0, none⟩) xs.length cap) 0 (Lib.compact xs).length = .slice (some ⟨b, 0, none⟩) (Lib.compact xs).length cap := by
        by_cases h0 : cap = 0 <;> simp [cutv, h0, add_pl]
      rw [h9] at h8; exact h8
    · rfl
end
section
variable {I : Imm} {l : List Itm} {s p : ByteArray}
def cutS (s p : ByteArray) : ByteArray × ByteArray × Bool := (⟨(Lib.cut s.data.toList p.data.toList).1.toArray⟩, ⟨(Lib.cut s.data.toList p.data.toList).2.1.toArray⟩, (Lib.cut s.data.toList p.data.toList).2.2)
def trimS (s p : ByteArray) : ByteArray := ⟨(Lib.trimSuffix s.data.toList p.data.toList).toArray⟩
def sufS (s p : ByteArray) : Bool := Lib.hasSuffix s.data.toList p.data.toList
def preS (s p : ByteArray) : Bool := Lib.hasPrefix s.data.toList p.data.toList
def hasB (s : ByteArray) (c : UInt8) : Bool := decide (0 ≤ Lib.indexByte s.data.toList c)
def splitS (s p : ByteArray) : List ByteArray := Lib.splitB p 0 (Lib.countB s p) s
theorem c_cut (hg : GlobI I) (hs : s.size < 4294967281) : Ct Tryd.prog 53 [.string s, .string p] I l (fun r J m => r = .tuple #[.string (cutS s p).1, .string (cutS s p).2.1, .bool (cutS s p).2.2] ∧ I = J ∧ l = m) := by
  obtain ⟨m, hm⟩ := hg
  exact Ct.draws (fun w hw => Tryd.strings_Cut s p m w hs (hm w l hw)) ⟨rfl, rfl, rfl⟩
theorem c_cutsuffix (hs : s.size ≤ 9223372036854775807) : Ct Tryd.prog 55 [.string s, .string p] I l (fun r J m => r = .tuple #[.string (trimS s p), .bool (sufS s p)] ∧ I = J ∧ l = m) :=
  Ct.stay (fun w _ => Tryd.strings_CutSuffix s p w hs) ⟨rfl, rfl, rfl⟩
theorem c_containsb {c : UInt8} : Ct Tryd.prog 56 [.string s, .string ⟨#[c]⟩] I l (fun r J m => r = .bool (hasB s c) ∧ I = J ∧ l = m) :=
  Ct.stay (fun w _ => Tryd.strings_Contains_one s c w) ⟨rfl, rfl, rfl⟩
theorem c_hasprefix : Ct Tryd.prog 59 [.string s, .string p] I l (fun r J m => r = .bool (preS s p) ∧ I = J ∧ l = m) :=
  Ct.stay (fun w _ => Tryd.strings_HasPrefix s p w) ⟨rfl, rfl, rfl⟩
theorem c_split (hg : GlobI I) (hs : s.size < 4294967281) (h1 : 1 ≤ p.size) : Ct Tryd.prog 57 [.string s, .string p] I l (fun r J m => I = J ∧ m = row eStr 9 r (splitS s p) :: l) := by
  obtain ⟨m, hm⟩ := hg
  intro w hw
  refine (Tryd.strings_Split s p m w hs (hm w l hw) h1).mono fun e w' ⟨he, hw'⟩ => ⟨_, I, _, he, Imm.le.refl I, ?_, rfl, rfl⟩
  subst hw'
  have hlen : (splitS s p).length = Lib.countB s p + 1 := Lib.splitB_all p h1 0 _ s rfl
  have henc : encs eStr (splitS s p) = (splitS s p).map Value.string := by
    generalize splitS s p = xs
    induction xs with
    | nil => rfl
    | cons x xs ih => show Value.string x :: encs eStr xs = _; rw [ih]; rfl
  have hnew := hw.new (.cells ((splitS s p).map Value.string).toArray 9 (0, 0))
  have hmax : Lib.countB s p + 1 ≤ maxLen := by
    have h2 := Lib.countB_mul_le p h1 s.size s (Nat.le_refl _)
    have h3 : Lib.countB s p ≤ Lib.countB s p * p.size := Nat.le_mul_of_pos_right _ h1
    simp only [maxLen]; omega
  refine ⟨hnew.os, hnew.tape, hnew.output, hnew.imm, hnew.nodup, hnew.apart, hnew.bound, fun it hi => ?_⟩
  rcases List.mem_cons.1 hi with rfl | hi
  · show RowOk _ _ 9 eStr.sz (splitS s p).length _
    refine ⟨by rw [encs_length], .inr ⟨w.heap.size, Lib.countB s p + 1, _, by rw [hlen], hnew.at_blk, by omega, hmax, ?_, ?_⟩⟩
    · simp only [List.size_toArray, List.length_map, hlen]; show _ = _ * 1; omega
    · rw [henc]
      refine List.take_of_length_le ?_
      simp; show _ ≤ _ * 1; omega
  · exact hnew.ok it (List.mem_cons_of_mem _ hi)
end
end Go.Proofs.YtfnmcpgajjkemaaDoor
