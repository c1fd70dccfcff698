/- The symbolic walk, part 13: a row that is owned, read by a call as if it stayed. -/
import Derived.Test.YtfnmcpgajjkemaaDoorStr
namespace Go.Proofs.YtfnmcpgajjkemaaDoor.SW
open Go Go.RowKit

def Imm.del (I : Imm) (b : Nat) : Imm := { I with at_ := fun k => if k = b then none else I.at_ k }
section
variable {P : Program} {I : Imm} {l m : List Itm} {w : World} {b : Nat} {o : Obj}
theorem St.thaw {J : Imm} (h : St J w m) (hb : J.at_ b = some o) : St (J.del b) w (blk b o :: m) := by
  have hnot : b ∉ fps m := fun hm => by have := h.apart b hm; rw [hb] at this; cases this
  have hheap := h.imm b o hb
  refine ⟨h.os, h.tape, h.output, fun k p hk => ?_, ?_, fun k hk => ?_, fun k hk => ?_, fun it hi => ?_⟩
  · simp only [Imm.del] at hk
    split at hk
    · cases hk
    · exact h.imm k p hk
  · rw [fps_cons]
    exact List.nodup_cons.2 ⟨hnot, h.nodup⟩
  · rw [fps_cons] at hk
    simp only [Imm.del]
    split
    · rfl
    · rename_i hne
      rcases List.mem_append.1 hk with h1 | h1
      · exact absurd (by simpa [blk] using h1) hne
      · exact h.apart k h1
  · rw [fps_cons] at hk
    rcases List.mem_append.1 hk with h1 | h1
    · have : k = b := by simpa [blk] using h1
      subst this
      exact (Array.getElem?_eq_some_iff.1 hheap).1
    · exact h.bound k h1
  · rcases List.mem_cons.1 hi with rfl | hi
    · exact hheap
    · exact h.ok it hi
theorem Imm.le_del {J : Imm} (h : (I.add b o).le J) (hb : I.at_ b = none) : I.le (J.del b) := by
  refine ⟨fun k p hk => ?_, h.os, h.tape, h.output⟩
  simp only [Imm.del]
  have hne : k ≠ b := fun e => by rw [e, hb] at hk; cases hk
  rw [if_neg hne]
  refine h.at_ k p ?_
  simp only [Imm.add]
  rw [if_neg hne]; exact hk
variable {α : Type} {e : Enc α} {E : TypeId} {v : Value} {xs : List α}
/-- A call that reads an owned row (or what lies in it) as if it stayed: the row is there as before. -/
theorem Ct.lend {f : FuncId} {args : List Value} {R : Value → Imm → List Itm → Prop} (h : ∀ I', I.le I' → RowI e I' v xs → Ct P f args I' l R) :
    Ct P f args I (row e E v xs :: l) (fun r _ m => ∃ J' m', R r J' m' ∧ m = row e E v xs :: m') := fun w hw => by
  have hr : RowOk _ v E e.sz xs.length _ := hw.ok _ (List.mem_cons_self ..)
  rcases hr.2 with ⟨rfl, h0⟩ | ⟨g, cap, cur, rfl, hg, h1, h2, h3, h4⟩
  · have : xs = [] := List.eq_nil_of_length_eq_zero h0
    subst this
    exact (h I (Imm.le.refl I) (RowI.nil e I) w hw.drop).mono fun _ _ ⟨r, J, m, a, b, c, d⟩ => ⟨r, J, _, a, b, c.nilrow e E, J, m, d, rfl⟩
  · have hb : St I w (blk g (.cells cur E (0, 0)) :: l) := by
      refine ⟨hw.os, hw.tape, hw.output, hw.imm, hw.nodup, hw.apart, hw.bound, fun it hi => ?_⟩
      rcases List.mem_cons.1 hi with rfl | hi
      · exact hg
      · exact hw.ok it (List.mem_cons_of_mem _ hi)
    have hn : I.at_ g = none := hb.apart g (by simp [fps_cons, blk])
    have hrow : RowI e (I.add g (.cells cur E (0, 0))) (.slice (some ⟨g, 0, none⟩) xs.length cap) xs := ⟨some ⟨g, 0, none⟩, cap, rfl, h1, ⟨by omega, fun e => by cases e⟩, fun _ => ⟨g, 0, cur, E, (0, 0), rfl, Imm.add_at I g _, fun j u hj => by
      rw [← h4, List.getElem?_take] at hj
      split at hj
      · simpa using hj
      · cases hj⟩⟩
    refine (h _ hb.freeze.2 hrow w hb.freeze.1).mono fun _ w' ⟨r, J, m, a, b, c, d⟩ => ?_
    have hJ : J.at_ g = some (.cells cur E (0, 0)) := b.at_ _ _ (Imm.add_at I g _)
    have ht := c.thaw hJ
    refine ⟨r, J.del g, row e E (.slice (some ⟨g, 0, none⟩) xs.length cap) xs :: m, a, Imm.le_del b hn, ⟨ht.os, ht.tape, ht.output, ht.imm, ht.nodup, ht.apart, ht.bound, fun it hi => ?_⟩, J, m, d, rfl⟩
    rcases List.mem_cons.1 hi with rfl | hi
    · exact ⟨by rw [encs_length], .inr ⟨g, cap, cur, rfl, ht.at_blk, h1, h2, h3, h4⟩⟩
    · exact ht.ok it (List.mem_cons_of_mem _ hi)
end
theorem cutv_at {sz b k c i j : Nat} (h : i < c) : cutv sz (.slice (some ⟨b, 0, none⟩) k c) i j = .slice (some ⟨b, i * sz, none⟩) (j - i) (c - i) := by
  have : ¬ c = i := by omega
  simp [cutv, this, add_pl]
theorem cutv0 {sz b k c j : Nat} : cutv sz (.slice (some ⟨b, 0, none⟩) k c) 0 j = .slice (some ⟨b, 0, none⟩) j c := by
  by_cases h : c = 0 <;> simp [cutv, h, add_pl]
/-- A part of ints that can be read. -/
theorem Rdb.sub {I : Imm} {l : List Itm} {b k c i j c' : Nat} {zs : List Int} (h : Rdb I l (.slice (some ⟨b, 0, none⟩) k c) zs) (hij : i ≤ j ∧ j ≤ zs.length) (hc : j - i ≤ c') : Rdb I l (.slice (some ⟨b, i, none⟩) (j - i) c') ((zs.take j).drop i) := by
  have hlen : ((zs.take j).drop i).length = j - i := by simp; omega
  refine ⟨⟨_, c', by rw [hlen], by omega⟩, fun hn => ⟨b, i, c', by rw [hlen]⟩, fun w hw => ?_, by have := h.max; omega⟩
  rcases h.cl w hw with ⟨rfl, _⟩ | ⟨h0, hm, b', off, c2, e, hcells⟩
  · refine .inl ⟨by simp, some ⟨b, i, none⟩, c', ?_⟩
    have : j - i = 0 := by have := hij.2; simp at this; omega
    rw [this]
  · cases e
    by_cases hx : (zs.take j).drop i = []
    · refine .inl ⟨hx, some ⟨b, i, none⟩, c', ?_⟩
      rw [hx] at hlen
      have : j - i = 0 := by simpa using hlen.symm
      rw [this]
    · refine .inr ⟨List.length_pos_iff.2 hx, by have := h.max; omega, b, i, c', by rw [hlen], fun q hq => ?_⟩
      rw [hlen] at hq
      have := hcells (i + q) (by omega)
      rw [Nat.zero_add] at this
      rw [this]
      simp [List.getD_eq_getElem?_getD, List.getElem?_drop, show i + q < j by omega]
end Go.Proofs.YtfnmcpgajjkemaaDoor.SW
