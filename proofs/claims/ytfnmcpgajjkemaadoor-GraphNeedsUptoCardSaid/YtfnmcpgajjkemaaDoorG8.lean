/- graph.read. Printed by wip/gen/g8.py. -/
import Derived.Test.YtfnmcpgajjkemaaDoorG7
namespace Go.Proofs.YtfnmcpgajjkemaaDoor
open Go Go.RowKit Go.Proofs.YtfnmcpgajjkemaaDoor.SW
set_option maxRecDepth 100000
set_option maxHeartbeats 400000
abbrev chB (c : UInt8) : ByteArray := ⟨#[c]⟩
theorem size_mk (l : List UInt8) : (⟨l.toArray⟩ : ByteArray).size = l.length := by show l.toArray.size = _; simp
theorem cutS_le1 (s p : ByteArray) : (cutS s p).1.size ≤ s.size := by
  have : s.size = s.data.toList.length := by rw [Array.length_toList]; rfl
  simp only [cutS, size_mk, Lib.cut]
  split
  · simp only [List.length_take]; omega
  · simp only; omega
theorem cutS_le2 (s p : ByteArray) : (cutS s p).2.1.size ≤ s.size := by
  have : s.size = s.data.toList.length := by rw [Array.length_toList]; rfl
  simp only [cutS, size_mk, Lib.cut]
  split
  · simp only [List.length_drop]; omega
  · simp only [List.length_nil]; omega
theorem trimS_le (s p : ByteArray) : (trimS s p).size ≤ s.size := by
  have : s.size = s.data.toList.length := by rw [Array.length_toList]; rfl
  simp only [trimS, size_mk, Lib.trimSuffix]
  split
  · simp only [List.length_take]; omega
  · omega
theorem splitB_le (p : ByteArray) : ∀ (k : Nat) (s : ByteArray), ∀ x, x ∈ Lib.splitB p 0 k s → x.size ≤ s.size
  | 0, s, x, h => by simp only [Lib.splitB_zero, List.mem_singleton] at h; subst h; exact Nat.le_refl _
  | k + 1, s, x, h => by
    unfold Lib.splitB at h
    split at h
    · rw [List.mem_singleton] at h; subst h; exact Nat.le_refl _
    · rcases List.mem_cons.1 h with rfl | h
      · rw [ByteArray.size_extract]; omega
      · have := splitB_le p k _ x h
        rw [ByteArray.size_extract] at this
        omega
theorem splitS_le {s p x : ByteArray} (h : x ∈ splitS s p) : x.size ≤ s.size := splitB_le p _ s x h
theorem splitS_len (s p : ByteArray) (h1 : 1 ≤ p.size) : (splitS s p).length ≤ s.size + 1 := by
  have h2 := Lib.countB_mul_le p h1 s.size s (Nat.le_refl _)
  have h3 : Lib.countB s p ≤ Lib.countB s p * p.size := Nat.le_mul_of_pos_right _ h1
  have := Lib.splitB_all p h1 0 _ s rfl
  unfold splitS
  omega
def pairOk (x : ByteArray) : Bool := (cutS x (chB 61)).2.2 && varNameP (cutS x (chB 61)).1
def pairOf (x : ByteArray) : ByteArray × ByteArray := ((cutS x (chB 61)).1, (cutS x (chB 61)).2.1)
/-- What a need's text says: a job's name and pairs. -/
def readP (s : ByteArray) : Option (ByteArray × List (ByteArray × ByteArray)) :=
  if nameP (cutS s (chB 91)).1 = false then none
  else if (cutS s (chB 91)).2.2 = false then some ((cutS s (chB 91)).1, [])
  else if sufS (cutS s (chB 91)).2.1 (chB 93) = false then none
  else if hasB (trimS (cutS s (chB 91)).2.1 (chB 93)) 93 = true then none
  else if ∀ i, i < (splitS (trimS (cutS s (chB 91)).2.1 (chB 93)) (chB 44)).length → pairOk ((splitS (trimS (cutS s (chB 91)).2.1 (chB 93)) (chB 44)).getD i ⟨#[]⟩) = true then
    some ((cutS s (chB 91)).1, (splitS (trimS (cutS s (chB 91)).2.1 (chB 93)) (chB 44)).map pairOf)
  else none
def ReadR (s : ByteArray) (r : Value) (J : Imm) : Prop := match readP s with
  | none => r = .tuple #[.agg #[.string ⟨#[]⟩, .slice none 0 0], .bool false]
  | some (job, ps) => ∃ pv : SV, r = .tuple #[.agg #[.string job, pv.1], .bool true] ∧ RowI eStr2 J pv.1 ps
theorem take_map_succ {α β : Type} {f : α → β} {xs : List α} {k : Nat} (d : α) (hk : k < xs.length) : (xs.take k).map f ++ [f (xs.getD k d)] = (xs.take (k + 1)).map f := by
  rw [List.take_add_one, List.getElem?_eq_getElem hk, List.map_append, List.getD_eq_getElem?_getD, List.getElem?_eq_getElem hk]
  rfl
theorem f47_ok {I : Imm} {l : List Itm} {s : ByteArray} (hg : GlobI I) (hs : s.size < 4294967281) : Ct Tryd.prog 47 [.string s] I l (fun r J m => ReadR s r J ∧ l = m) := by
  refine Ct_enter Tryd.func47 rfl rfl rfl ?_
  refine K_seq ?_
  refine K_region ?_
  refine W_a (a_alloc tab rfl rfl ?_) rfl
  intro b2
  refine W_y (y_assign rfl) rfl rfl rfl ?_
  refine K_nil ?_
  refine K_then ?_
  refine K_seq ?_
  refine K_region ?_
  refine W_y (y_move rfl) rfl rfl rfl ?_
  refine W_a (a_call (enters_of Tryd.func53 (by kernel_rfl) rfl) rfl (c_cut (p := chB 91) hg hs) rfl ?_) rfl
  rintro _ _ _ - ⟨rfl, rfl, rfl⟩
  refine W_y (y_move rfl) rfl rfl rfl ?_
  refine W_y (y_extract rfl rfl) rfl rfl rfl ?_
  refine W_y (y_extract rfl rfl) rfl rfl rfl ?_
  refine W_y (y_extract rfl rfl) rfl rfl rfl ?_
  refine W_y (y_assign rfl) rfl rfl rfl ?_
  refine W_y (y_assign rfl) rfl rfl rfl ?_
  refine W_y (y_assign rfl) rfl rfl rfl ?_
  refine K_nil ?_
  refine K_then ?_
  refine K_seq ?_
  refine K_seq ?_
  refine K_region ?_
  refine W_y (y_move rfl) rfl rfl rfl ?_
  refine W_a (a_call (enters_of Tryd.func54 (by kernel_rfl) rfl) rfl (f54_ok (by have := cutS_le1 s (chB 91); have := cutS_le2 s (chB 91); have := trimS_le (cutS s (chB 91)).2.1 (chB 93); omega)) rfl ?_) rfl
  rintro _ _ _ - ⟨rfl, rfl, rfl⟩
  refine W_y (y_not rfl) rfl rfl rfl ?_
  refine K_nil ?_
  refine K_then ?_
  refine K_cond rfl (fun h1 => ?_) (fun h1 => ?_)
  ·
    have hres : readP s = none := by unfold readP; rw [if_pos (by simpa using h1)]
    refine K_seq ?_
    refine K_region ?_
    refine W_y (y_build tab rfl rfl rfl rfl rfl) rfl rfl rfl ?_
    refine W_a (a_stw (us := [.string ⟨#[]⟩, .slice none 0 0]) tab rfl rfl rfl rfl (by intro u hu; simp at hu; rcases hu with rfl | rfl <;> rfl) rfl ?_) rfl
    refine W_y (y_assign rfl) rfl rfl rfl ?_
    refine K_nil ?_
    refine K_then ?_
    refine K_ret ?_
    refine K_then_ret ?_
    refine K_out2 rfl (.cell rfl (ld_agg tab rfl rfl rfl (rd_all (by first | exact .here | exact .there .here)))) (.tmp rfl) ?_
    first
      | exact fun w hw => ⟨_, _, _, rfl, hJ1.trans hJ2, hw.drop.drop, by unfold ReadR; rw [hres]; exact ⟨⟨u, hou⟩, rfl, by rw [hke, List.take_length] at hpr; exact hpr⟩, rfl⟩
      | exact fun w hw => ⟨_, _, _, rfl, hJ1, hw.drop.drop.drop, by unfold ReadR; rw [hres]; done, rfl⟩
      | exact fun w hw => ⟨_, _, _, rfl, Imm.le.refl _, hw.drop.drop, by unfold ReadR; rw [hres]; exact ⟨svnil, rfl, RowI.nil _ _⟩, rfl⟩
      | exact fun w hw => ⟨_, _, _, rfl, Imm.le.refl _, hw.drop.drop, by unfold ReadR; rw [hres]; done, rfl⟩
      | exact fun w hw => ⟨_, _, _, rfl, Imm.le.refl _, hw.drop, by unfold ReadR; rw [hres]; done, rfl⟩
  ·
    have q1 : ¬ nameP (cutS s (chB 91)).1 = false := by simpa using h1
    refine K_skip ?_
    refine K_then ?_
    refine K_seq ?_
    refine K_region ?_
    refine W_y (y_move rfl) rfl rfl rfl ?_
    refine W_y (y_build tab rfl rfl rfl rfl rfl) rfl rfl rfl ?_
    refine W_a (a_alloc tab rfl rfl ?_) rfl
    intro b7
    refine W_a (a_stw (us := [.string (cutS s (chB 91)).1, .slice none 0 0]) tab rfl rfl rfl rfl (by intro u hu; simp at hu; rcases hu with rfl | rfl <;> rfl) rfl ?_) rfl
    refine K_nil ?_
    refine K_then ?_
    refine K_seq ?_
    refine K_seq ?_
    refine K_region ?_
    refine W_y (y_move rfl) rfl rfl rfl ?_
    refine W_y (y_not rfl) rfl rfl rfl ?_
    refine K_nil ?_
    refine K_then ?_
    refine K_cond rfl (fun h2 => ?_) (fun h2 => ?_)
    ·
      have hres : readP s = some ((cutS s (chB 91)).1, []) := by unfold readP; rw [if_neg q1, if_pos (by simpa using h2)]
      refine K_seq ?_
      refine K_region ?_
      refine W_y (y_load rfl (ld_agg tab rfl rfl rfl (rd_all .here))) rfl rfl rfl ?_
      refine K_f1 ?_
      refine W_a (a_stw (us := [.string (cutS s (chB 91)).1, .slice none 0 0]) tab rfl rfl rfl rfl (by intro u hu; simp at hu; rcases hu with rfl | rfl <;> rfl) rfl ?_) rfl
      refine W_y (y_assign rfl) rfl rfl rfl ?_
      refine K_nil ?_
      refine K_then ?_
      refine K_ret ?_
      refine K_then_ret ?_
      refine K_out2 rfl (.cell rfl (ld_agg tab rfl rfl rfl (rd_all (by first | exact .here | exact .there .here)))) (.tmp rfl) ?_
      first
        | exact fun w hw => ⟨_, _, _, rfl, hJ1.trans hJ2, hw.drop.drop, by unfold ReadR; rw [hres]; exact ⟨⟨u, hou⟩, rfl, by rw [hke, List.take_length] at hpr; exact hpr⟩, rfl⟩
        | exact fun w hw => ⟨_, _, _, rfl, hJ1, hw.drop.drop.drop, by unfold ReadR; rw [hres]; done, rfl⟩
        | exact fun w hw => ⟨_, _, _, rfl, Imm.le.refl _, hw.drop.drop, by unfold ReadR; rw [hres]; exact ⟨svnil, rfl, RowI.nil _ _⟩, rfl⟩
        | exact fun w hw => ⟨_, _, _, rfl, Imm.le.refl _, hw.drop.drop, by unfold ReadR; rw [hres]; done, rfl⟩
        | exact fun w hw => ⟨_, _, _, rfl, Imm.le.refl _, hw.drop, by unfold ReadR; rw [hres]; done, rfl⟩
    ·
      have q2 : ¬ (cutS s (chB 91)).2.2 = false := by simpa using h2
      refine K_skip ?_
      refine K_then ?_
      refine K_seq ?_
      refine K_region ?_
      refine W_y (y_move rfl) rfl rfl rfl ?_
      refine W_a (a_call (enters_of Tryd.func55 (by kernel_rfl) rfl) rfl (c_cutsuffix (p := chB 93) (by have := cutS_le1 s (chB 91); have := cutS_le2 s (chB 91); have := trimS_le (cutS s (chB 91)).2.1 (chB 93); omega)) rfl ?_) rfl
      rintro _ _ _ - ⟨rfl, rfl, rfl⟩
      refine W_y (y_move rfl) rfl rfl rfl ?_
      refine W_y (y_extract rfl rfl) rfl rfl rfl ?_
      refine W_y (y_extract rfl rfl) rfl rfl rfl ?_
      refine W_y (y_assign rfl) rfl rfl rfl ?_
      refine W_y (y_assign rfl) rfl rfl rfl ?_
      refine K_nil ?_
      refine K_then ?_
      refine K_seq ?_
      refine K_seq ?_
      refine K_region ?_
      refine W_y (y_move rfl) rfl rfl rfl ?_
      refine W_y (y_not rfl) rfl rfl rfl ?_
      refine W_y (y_move rfl) rfl rfl rfl ?_
      refine K_split 37 rfl (fun h3 => ?_) (fun h3 => ?_)
      ·
        have hres : readP s = none := by unfold readP; rw [if_neg q1, if_neg q2, if_pos (by simpa using h3)]
        refine W_skip rfl rfl rfl ?_
        refine W_skip rfl rfl rfl ?_
        refine W_y (y_pick rfl rfl) rfl rfl rfl ?_
        refine K_nil ?_
        refine K_then ?_
        refine K_yes rfl ?_
        refine K_seq ?_
        refine K_region ?_
        refine W_y (y_build tab rfl rfl rfl rfl rfl) rfl rfl rfl ?_
        refine K_f1 ?_
        refine W_a (a_stw (us := [.string ⟨#[]⟩, .slice none 0 0]) tab rfl rfl rfl rfl (by intro u hu; simp at hu; rcases hu with rfl | rfl <;> rfl) rfl ?_) rfl
        refine W_y (y_assign rfl) rfl rfl rfl ?_
        refine K_nil ?_
        refine K_then ?_
        refine K_ret ?_
        refine K_then_ret ?_
        refine K_out2 rfl (.cell rfl (ld_agg tab rfl rfl rfl (rd_all (by first | exact .here | exact .there .here)))) (.tmp rfl) ?_
        first
          | exact fun w hw => ⟨_, _, _, rfl, hJ1.trans hJ2, hw.drop.drop, by unfold ReadR; rw [hres]; exact ⟨⟨u, hou⟩, rfl, by rw [hke, List.take_length] at hpr; exact hpr⟩, rfl⟩
          | exact fun w hw => ⟨_, _, _, rfl, hJ1, hw.drop.drop.drop, by unfold ReadR; rw [hres]; done, rfl⟩
          | exact fun w hw => ⟨_, _, _, rfl, Imm.le.refl _, hw.drop.drop, by unfold ReadR; rw [hres]; exact ⟨svnil, rfl, RowI.nil _ _⟩, rfl⟩
          | exact fun w hw => ⟨_, _, _, rfl, Imm.le.refl _, hw.drop.drop, by unfold ReadR; rw [hres]; done, rfl⟩
          | exact fun w hw => ⟨_, _, _, rfl, Imm.le.refl _, hw.drop, by unfold ReadR; rw [hres]; done, rfl⟩
      ·
        have q3 : ¬ sufS (cutS s (chB 91)).2.1 (chB 93) = false := by simpa using h3
        refine W_y (y_move rfl) rfl rfl rfl ?_
        refine W_a (a_call (enters_of Tryd.func56 (by kernel_rfl) rfl) rfl (c_containsb (c := 93)) rfl ?_) rfl
        rintro _ _ _ - ⟨rfl, rfl, rfl⟩
        refine W_y (y_pick rfl rfl) rfl rfl rfl ?_
        refine K_nil ?_
        refine K_then ?_
        refine K_cond rfl (fun h4 => ?_) (fun h4 => ?_)
        ·
          have hres : readP s = none := by unfold readP; rw [if_neg q1, if_neg q2, if_neg q3, if_pos h4]
          refine K_seq ?_
          refine K_region ?_
          refine W_y (y_build tab rfl rfl rfl rfl rfl) rfl rfl rfl ?_
          refine K_f1 ?_
          refine W_a (a_stw (us := [.string ⟨#[]⟩, .slice none 0 0]) tab rfl rfl rfl rfl (by intro u hu; simp at hu; rcases hu with rfl | rfl <;> rfl) rfl ?_) rfl
          refine W_y (y_assign rfl) rfl rfl rfl ?_
          refine K_nil ?_
          refine K_then ?_
          refine K_ret ?_
          refine K_then_ret ?_
          refine K_out2 rfl (.cell rfl (ld_agg tab rfl rfl rfl (rd_all (by first | exact .here | exact .there .here)))) (.tmp rfl) ?_
          first
            | exact fun w hw => ⟨_, _, _, rfl, hJ1.trans hJ2, hw.drop.drop, by unfold ReadR; rw [hres]; exact ⟨⟨u, hou⟩, rfl, by rw [hke, List.take_length] at hpr; exact hpr⟩, rfl⟩
            | exact fun w hw => ⟨_, _, _, rfl, hJ1, hw.drop.drop.drop, by unfold ReadR; rw [hres]; done, rfl⟩
            | exact fun w hw => ⟨_, _, _, rfl, Imm.le.refl _, hw.drop.drop, by unfold ReadR; rw [hres]; exact ⟨svnil, rfl, RowI.nil _ _⟩, rfl⟩
            | exact fun w hw => ⟨_, _, _, rfl, Imm.le.refl _, hw.drop.drop, by unfold ReadR; rw [hres]; done, rfl⟩
            | exact fun w hw => ⟨_, _, _, rfl, Imm.le.refl _, hw.drop, by unfold ReadR; rw [hres]; done, rfl⟩
        ·
          have q4 : ¬ hasB (trimS (cutS s (chB 91)).2.1 (chB 93)) 93 = true := by simpa using h4
          refine K_skip ?_
          refine K_then ?_
          refine K_seq ?_
          refine K_seq ?_
          refine K_region ?_
          refine W_y (y_move rfl) rfl rfl rfl ?_
          refine W_a (a_call (enters_of Tryd.func57 (by kernel_rfl) rfl) rfl (c_split (p := chB 44) hg (by have := cutS_le1 s (chB 91); have := cutS_le2 s (chB 91); have := trimS_le (cutS s (chB 91)).2.1 (chB 93); omega) (by decide)) rfl ?_) rfl
          rintro pv _ _ - ⟨rfl, rfl⟩
          refine K_give (fun J1 hJ1 hpv => ?_)
          have hcv := hpv.sc
          have hg1 := hg.mono hJ1
          have hlp := splitS_len (trimS (cutS s (chB 91)).2.1 (chB 93)) (chB 44) (by decide)
          have hts : (trimS (cutS s (chB 91)).2.1 (chB 93)).size ≤ s.size := Nat.le_trans (trimS_le _ _) (cutS_le2 _ _)
          refine W_y (by first | exact y_lenc tab (by assumption) rfl rfl | exact y_lens tab rfl rfl | exact y_lenstr tab rfl rfl) rfl rfl rfl ?_
          refine W_y (y_move rfl) rfl rfl rfl ?_
          refine K_nil ?_
          refine K_then ?_
          refine K_block ?_
          refine K_nilrow eStr2 51 ?_
          refine K_f1 ?_
          refine K_lp (σ := Nat × Value) (fun q => J1) (fun q => [(2, .pointer (some ⟨b2, 0, none⟩)), (7, .pointer (some ⟨b7, 0, none⟩)), (43, pv), (44, .int .i64 (splitS (trimS (cutS s (chB 91)).2.1 (chB 93)) (chB 44)).length), (45, .int .i64 q.1)]) (fun q => blk b7 (.cells #[.string (cutS s (chB 91)).1, q.2] 91 (0, 0)) :: row eStr2 51 q.2 (((splitS (trimS (cutS s (chB 91)).2.1 (chB 93)) (chB 44)).take q.1).map pairOf) :: blk b2 (.cells #[.string ⟨#[]⟩, .slice none 0 0] 91 (0, 0)) :: l) (fun q => q.1 ≤ (splitS (trimS (cutS s (chB 91)).2.1 (chB 93)) (chB 44)).length ∧ ∀ i, i < q.1 → pairOk ((splitS (trimS (cutS s (chB 91)).2.1 (chB 93)) (chB 44)).getD i ⟨#[]⟩) = true) (fun q => (splitS (trimS (cutS s (chB 91)).2.1 (chB 93)) (chB 44)).length - q.1) (0, .slice none 0 0) rfl (by repeat first | exact .nil _ | refine .cons rfl ?_) rfl ⟨Nat.zero_le _, fun i h => absurd h (Nat.not_lt_zero i)⟩ ?_
          rintro ⟨k, u⟩ ⟨hk, hin⟩
          simp only at hk hin ⊢
          refine K_seq ?_
          refine K_region ?_
          refine W_y (y_lt rfl rfl) rfl rfl rfl ?_
          refine K_nil ?_
          refine K_then ?_
          refine K_seq ?_
          first | refine K_if rfl (fun h5 => ?_) (fun h5 => ?_) | refine K_ifn rfl (fun h5 => ?_) (fun h5 => ?_) | refine K_cond rfl (fun h5 => ?_) (fun h5 => ?_)
          ·
            have hkl : k < (splitS (trimS (cutS s (chB 91)).2.1 (chB 93)) (chB 44)).length := by omega
            have hps : ((splitS (trimS (cutS s (chB 91)).2.1 (chB 93)) (chB 44)).getD k ⟨#[]⟩).size < 4294967281 := by have := splitS_le (getD_mem (xs := splitS (trimS (cutS s (chB 91)).2.1 (chB 93)) (chB 44)) ⟨#[]⟩ hkl); omega
            refine K_skip ?_
            refine K_then ?_
            refine K_seq ?_
            refine K_block ?_
            refine K_seq ?_
            refine K_region ?_
            refine W_y (y_ixi tab hpv rfl rfl rfl rfl (by omega)) rfl rfl rfl ?_
            refine W_y (y_load rfl (ld_rowi (i := k) tab hpv rfl rfl (get_of ⟨#[]⟩ (by omega)) rfl)) rfl rfl rfl ?_
            refine W_y (y_assign rfl) rfl rfl rfl ?_
            refine K_nil ?_
            refine K_then ?_
            refine K_seq ?_
            refine K_region ?_
            refine W_y (y_move rfl) rfl rfl rfl ?_
            refine W_a (a_call (enters_of Tryd.func53 (by kernel_rfl) rfl) rfl (c_cut (p := chB 61) hg1 hps) rfl ?_) rfl
            rintro _ _ _ - ⟨rfl, rfl, rfl⟩
            refine W_y (y_move rfl) rfl rfl rfl ?_
            refine W_y (y_extract rfl rfl) rfl rfl rfl ?_
            refine W_y (y_extract rfl rfl) rfl rfl rfl ?_
            refine W_y (y_extract rfl rfl) rfl rfl rfl ?_
            refine W_y (y_assign rfl) rfl rfl rfl ?_
            refine W_y (y_assign rfl) rfl rfl rfl ?_
            refine W_y (y_assign rfl) rfl rfl rfl ?_
            refine K_nil ?_
            refine K_then ?_
            refine K_seq ?_
            refine K_seq ?_
            refine K_region ?_
            refine W_y (y_move rfl) rfl rfl rfl ?_
            refine W_y (y_not rfl) rfl rfl rfl ?_
            refine W_y (y_move rfl) rfl rfl rfl ?_
            refine K_split 57 rfl (fun h6 => ?_) (fun h6 => ?_)
            ·
              have hres : readP s = none := by unfold readP; rw [if_neg q1, if_neg q2, if_neg q3, if_neg q4, if_neg (fun e => by have := e k hkl; have h' := h6; simp [pairOk] at this h'; simp [this] at h')]
              refine W_skip rfl rfl rfl ?_
              refine W_skip rfl rfl rfl ?_
              refine W_skip rfl rfl rfl ?_
              refine W_y (y_pick rfl rfl) rfl rfl rfl ?_
              refine K_nil ?_
              refine K_then ?_
              refine K_yes rfl ?_
              refine K_seq ?_
              refine K_region ?_
              refine W_y (y_build tab rfl rfl rfl rfl rfl) rfl rfl rfl ?_
              refine K_f2 ?_
              refine W_a (a_stw (us := [.string ⟨#[]⟩, .slice none 0 0]) tab rfl rfl rfl rfl (by intro u hu; simp at hu; rcases hu with rfl | rfl <;> rfl) rfl ?_) rfl
              refine W_y (y_assign rfl) rfl rfl rfl ?_
              refine K_nil ?_
              refine K_then ?_
              refine K_ret ?_
              refine K_then_ret ?_
              refine K_in_ret ?_
              refine K_then_ret ?_
              refine K_then_ret ?_
              refine K_in_ret ?_
              refine K_then_ret ?_
              refine K_out2 rfl (.cell rfl (ld_agg tab rfl rfl rfl (rd_all (by first | exact .here | exact .there .here)))) (.tmp rfl) ?_
              first
                | exact fun w hw => ⟨_, _, _, rfl, hJ1.trans hJ2, hw.drop.drop, by unfold ReadR; rw [hres]; exact ⟨⟨u, hou⟩, rfl, by rw [hke, List.take_length] at hpr; exact hpr⟩, rfl⟩
                | exact fun w hw => ⟨_, _, _, rfl, hJ1, hw.drop.drop.drop, by unfold ReadR; rw [hres]; done, rfl⟩
                | exact fun w hw => ⟨_, _, _, rfl, Imm.le.refl _, hw.drop.drop, by unfold ReadR; rw [hres]; exact ⟨svnil, rfl, RowI.nil _ _⟩, rfl⟩
                | exact fun w hw => ⟨_, _, _, rfl, Imm.le.refl _, hw.drop.drop, by unfold ReadR; rw [hres]; done, rfl⟩
                | exact fun w hw => ⟨_, _, _, rfl, Imm.le.refl _, hw.drop, by unfold ReadR; rw [hres]; done, rfl⟩
            ·
              have q5 : (cutS ((splitS (trimS (cutS s (chB 91)).2.1 (chB 93)) (chB 44)).getD k ⟨#[]⟩) (chB 61)).2.2 = true := by simpa using h6
              refine W_y (y_move rfl) rfl rfl rfl ?_
              refine W_a (a_call (enters_of Tryd.func58 (by kernel_rfl) rfl) rfl (f58_ok (by have := cutS_le1 ((splitS (trimS (cutS s (chB 91)).2.1 (chB 93)) (chB 44)).getD k ⟨#[]⟩) (chB 61); omega)) rfl ?_) rfl
              rintro _ _ _ - ⟨rfl, rfl, rfl⟩
              refine W_y (y_not rfl) rfl rfl rfl ?_
              refine W_y (y_pick rfl rfl) rfl rfl rfl ?_
              refine K_nil ?_
              refine K_then ?_
              refine K_cond rfl (fun h7 => ?_) (fun h7 => ?_)
              ·
                have hres : readP s = none := by unfold readP; rw [if_neg q1, if_neg q2, if_neg q3, if_neg q4, if_neg (fun e => by have := e k hkl; have h' := h7; simp [pairOk] at this h'; simp [this] at h')]
                refine K_seq ?_
                refine K_region ?_
                refine W_y (y_build tab rfl rfl rfl rfl rfl) rfl rfl rfl ?_
                refine K_f2 ?_
                refine W_a (a_stw (us := [.string ⟨#[]⟩, .slice none 0 0]) tab rfl rfl rfl rfl (by intro u hu; simp at hu; rcases hu with rfl | rfl <;> rfl) rfl ?_) rfl
                refine W_y (y_assign rfl) rfl rfl rfl ?_
                refine K_nil ?_
                refine K_then ?_
                refine K_ret ?_
                refine K_then_ret ?_
                refine K_in_ret ?_
                refine K_then_ret ?_
                refine K_then_ret ?_
                refine K_in_ret ?_
                refine K_then_ret ?_
                refine K_out2 rfl (.cell rfl (ld_agg tab rfl rfl rfl (rd_all (by first | exact .here | exact .there .here)))) (.tmp rfl) ?_
                first
                  | exact fun w hw => ⟨_, _, _, rfl, hJ1.trans hJ2, hw.drop.drop, by unfold ReadR; rw [hres]; exact ⟨⟨u, hou⟩, rfl, by rw [hke, List.take_length] at hpr; exact hpr⟩, rfl⟩
                  | exact fun w hw => ⟨_, _, _, rfl, hJ1, hw.drop.drop.drop, by unfold ReadR; rw [hres]; done, rfl⟩
                  | exact fun w hw => ⟨_, _, _, rfl, Imm.le.refl _, hw.drop.drop, by unfold ReadR; rw [hres]; exact ⟨svnil, rfl, RowI.nil _ _⟩, rfl⟩
                  | exact fun w hw => ⟨_, _, _, rfl, Imm.le.refl _, hw.drop.drop, by unfold ReadR; rw [hres]; done, rfl⟩
                  | exact fun w hw => ⟨_, _, _, rfl, Imm.le.refl _, hw.drop, by unfold ReadR; rw [hres]; done, rfl⟩
              ·
                have q6 : varNameP (cutS ((splitS (trimS (cutS s (chB 91)).2.1 (chB 93)) (chB 44)).getD k ⟨#[]⟩) (chB 61)).1 = true := by simpa using h7
                have hok : pairOk ((splitS (trimS (cutS s (chB 91)).2.1 (chB 93)) (chB 44)).getD k ⟨#[]⟩) = true := by unfold pairOk; rw [q5, q6]; rfl
                refine K_skip ?_
                refine K_then ?_
                refine K_region ?_
                refine W_y (by first | exact y_fa tab rfl rfl rfl rfl rfl | exact y_fae tab (by assumption) rfl rfl rfl rfl rfl) rfl rfl rfl ?_
                refine W_y (y_load rfl (v := u) (ld_cell tab rfl (rd_one .here rfl))) rfl rfl rfl ?_
                refine W_y (y_move rfl) rfl rfl rfl ?_
                refine W_y (y_move rfl) rfl rfl rfl ?_
                refine W_y (y_build tab rfl rfl rfl rfl rfl) rfl rfl rfl ?_
                refine W_a (a_bs (e := eStr2) (xs := [pairOf ((splitS (trimS (cutS s (chB 91)).2.1 (chB 93)) (chB 44)).getD k ⟨#[]⟩)]) (os := [.tmp 67]) tab rfl rfl rfl rfl rfl rfl rfl rfl rfl ?_) rfl
                intro b68
                refine K_f2 ?_
                refine W_a (a_app (e := eStr2) (ys := [pairOf ((splitS (trimS (cutS s (chB 91)).2.1 (chB 93)) (chB 44)).getD k ⟨#[]⟩)]) tab rfl rfl rfl rfl rfl (rd_rowall .here) (by simp only [List.length_singleton, List.length_map, List.length_take]; omega) rfl ?_) rfl
                intro v69
                refine K_ocv .here (fun ho9 => ?_)
                refine K_f1 (K_drop ?_)
                rw [show [pairOf ((splitS (trimS (cutS s (chB 91)).2.1 (chB 93)) (chB 44)).getD k ⟨#[]⟩)] = [pairOf ((splitS (trimS (cutS s (chB 91)).2.1 (chB 93)) (chB 44)).getD k ⟨#[]⟩)] from rfl, take_map_succ _ hkl]
                refine W_y (by first | exact y_fa tab rfl rfl rfl rfl rfl | exact y_fae tab (by assumption) rfl rfl rfl rfl rfl) rfl rfl rfl ?_
                refine K_f1 ?_
                refine W_a (a_st tab rfl rfl rfl rfl (by first | rfl | assumption) rfl ?_) rfl
                refine K_nil ?_
                refine K_in ?_
                refine K_then ?_
                refine K_region ?_
                refine W_y (y_add rfl rfl (by omega)) rfl rfl rfl ?_
                refine W_y (y_move rfl) rfl rfl rfl ?_
                refine K_nil ?_
                refine K_thenA ?_
                exact K_back (k + 1, v69) rfl (by repeat first | exact .nil _ | refine .cons rfl ?_) rfl ⟨by simp only; omega, all_succ hin hok⟩ (by simp only; omega)
          ·
            have hke : k = (splitS (trimS (cutS s (chB 91)).2.1 (chB 93)) (chB 44)).length := by omega
            have hres : readP s = some ((cutS s (chB 91)).1, (splitS (trimS (cutS s (chB 91)).2.1 (chB 93)) (chB 44)).map pairOf) := by unfold readP; rw [if_neg q1, if_neg q2, if_neg q3, if_neg q4, if_pos (fun i hi => hin i (by omega))]
            refine K_exit ?_
            refine K_then_exit ?_
            refine K_then_exit ?_
            refine K_in_exit ?_
            refine K_then ?_
            refine K_seq ?_
            refine K_region ?_
            refine W_y (y_load rfl (v := .agg #[.string (cutS s (chB 91)).1, u]) (ld_agg tab rfl rfl rfl (rd_all .here))) rfl rfl rfl ?_
            refine K_ocv (.there .here) (fun hou => ?_)
            refine K_f2 ?_
            refine W_a (a_stw (us := [.string (cutS s (chB 91)).1, u]) tab rfl rfl rfl rfl (by intro u' hu; simp at hu; rcases hu with rfl | rfl <;> first | rfl | exact hou) rfl ?_) rfl
            refine K_f2 (K_give (fun J2 hJ2 hpr => ?_))
            refine W_y (y_assign rfl) rfl rfl rfl ?_
            refine K_nil ?_
            refine K_then ?_
            refine K_ret ?_
            refine K_out2 rfl (.cell rfl (ld_agg tab rfl rfl rfl (rd_all (by first | exact .here | exact .there .here)))) (.tmp rfl) ?_
            first
              | exact fun w hw => ⟨_, _, _, rfl, hJ1.trans hJ2, hw.drop.drop, by unfold ReadR; rw [hres]; exact ⟨⟨u, hou⟩, rfl, by rw [hke, List.take_length] at hpr; exact hpr⟩, rfl⟩
              | exact fun w hw => ⟨_, _, _, rfl, hJ1, hw.drop.drop.drop, by unfold ReadR; rw [hres]; done, rfl⟩
              | exact fun w hw => ⟨_, _, _, rfl, Imm.le.refl _, hw.drop.drop, by unfold ReadR; rw [hres]; exact ⟨svnil, rfl, RowI.nil _ _⟩, rfl⟩
              | exact fun w hw => ⟨_, _, _, rfl, Imm.le.refl _, hw.drop.drop, by unfold ReadR; rw [hres]; done, rfl⟩
              | exact fun w hw => ⟨_, _, _, rfl, Imm.le.refl _, hw.drop, by unfold ReadR; rw [hres]; done, rfl⟩
end Go.Proofs.YtfnmcpgajjkemaaDoor
