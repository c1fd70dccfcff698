/- The symbolic walk, part 11: the shelf's contracts of Go's library in the walk's words. -/
import Derived.Test.YtfnmcpgajjkemaaDoorBld
import Derived.Sort.Grow
import Derived.Deep.Draws
namespace Go.Proofs.YtfnmcpgajjkemaaDoor.SW
open Go Go.RowKit

theorem encs_int (xs : List Int) : encs eInt xs = xs.map (Value.int .i64) := by
  induction xs with
  | nil => rfl
  | cons x xs ih => show Value.int .i64 x :: encs eInt xs = _; rw [ih]; rfl
section
variable {P : Program} {I : Imm} {l : List Itm} {w : World} {E : TypeId} {v : Value} {xs ys : List Int} {b cap : Nat}
theorem row_cells (hw : St I w (row eInt E (.slice (some ⟨b, 0, none⟩) xs.length cap) xs :: l)) : (∀ j, j < xs.length → w.cell? ⟨b, 0 + j, none⟩ = some (.int .i64 (xs.getD j 0)) ∧ w.frozen? ⟨b, 0 + j, none⟩ = false) ∧ b < w.heap.size ∧ xs.length ≤ cap ∧ cap ≤ maxLen := by
  have hr : RowOk _ _ E eInt.sz xs.length _ := hw.ok _ (List.mem_cons_self ..)
  rcases hr.2 with ⟨h0, _⟩ | ⟨g, cap', cur, h0, hg, h1, h2, h3, h4⟩
  · cases h0
  · cases h0
    refine ⟨fun j hj => ⟨?_, ?_⟩, (Array.getElem?_eq_some_iff.1 hg).1, h1, h2⟩
    · rw [Nat.zero_add, cell_of_row w b j cur E _ hg]
      have h5 := encs_get eInt (xs := xs) (i := j) (j := 0) (get_of 0 hj) rfl
      rw [← h4, List.getElem?_take] at h5
      split at h5
      · have : j * eInt.sz + 0 = j := by show j * 1 + 0 = j; omega
        rw [this] at h5
        simpa using h5
      · cases h5
    · have hg' : w.heap[b]? = some (.cells cur E (0, 0)) := hg
      simp [World.frozen?, hg']
theorem row_split (hw : St I w (row eInt E v xs :: l)) : (v = .slice none 0 0 ∧ xs = []) ∨ ∃ b cap, v = .slice (some ⟨b, 0, none⟩) xs.length cap := by
  have hr : RowOk _ v E eInt.sz xs.length _ := hw.ok _ (List.mem_cons_self ..)
  rcases hr.2 with ⟨h0, h1⟩ | ⟨g, cap', cur, h0, _⟩
  · exact .inl ⟨h0, List.eq_nil_of_length_eq_zero h1⟩
  · exact .inr ⟨g, cap', h0⟩
theorem row_holds (hw : St I w (row eInt E (.slice (some ⟨b, 0, none⟩) xs.length cap) xs :: l)) : Go.Sort.Holds (Value.int .i64) w b 0 xs.toArray := fun j hj => by
  have hj' : j < xs.length := by simpa using hj
  have := (row_cells hw).1 j hj'
  refine ⟨by rw [this.1]; simp [List.getD, hj'], this.2⟩
/-- The cells of a row are written anew, all else stands (but for the count of draws, and new blocks). -/
theorem St.putRow (hw : St I w (row eInt E (.slice (some ⟨b, 0, none⟩) xs.length cap) xs :: l)) (hl : ys.length = xs.length) (n : Nat) (os : Array Obj) :
    St I (Go.Sort.grow (Go.Sort.putRow (Value.int .i64) (Go.Sort.ahead w n) b 0 ys.toArray) os) (row eInt E (.slice (some ⟨b, 0, none⟩) xs.length cap) ys :: l) := by
  have hr : RowOk _ _ E eInt.sz xs.length _ := hw.ok _ (List.mem_cons_self ..)
  rcases hr.2 with ⟨h0, _⟩ | ⟨g, cap', cur, h0, hg, h1, h2, h3, h4⟩
  · cases h0
  · cases h0
    have hgs : b < w.heap.size := (Array.getElem?_eq_some_iff.1 hg).1
    have hg' : w.heap[b]? = some (.cells cur E (0, 0)) := hg
    have hold : ∀ k, k < w.heap.size → (Go.Sort.grow (Go.Sort.putRow (Value.int .i64) (Go.Sort.ahead w n) b 0 ys.toArray) os).heap[k]? = if b = k then some (.cells (Go.Sort.putCells (Value.int .i64) 0 ys.toArray cur) E (0, 0)) else w.heap[k]? := fun k hk => by
      have h5 : ((Go.Sort.putRow (Value.int .i64) (Go.Sort.ahead w n) b 0 ys.toArray).heap).size = w.heap.size := by simp [Go.Sort.putRow, Go.Sort.mapBlock, Go.Sort.ahead]
      rw [Go.Sort.heap_grow_old _ _ (by rw [h5]; exact hk)]
      simp only [Go.Sort.putRow, Go.Sort.mapBlock, Go.Sort.ahead, Array.getElem?_modify]
      split
      · rename_i e; subst e; rw [hg']; rfl
      · rfl
    refine hw.change rfl rfl rfl (by simp [Go.Sort.putRow, Go.Sort.mapBlock, Go.Sort.ahead]) (fun k hk hne => ?_) (by simp [row, Value.ownBlock]) (fun k hk => .inl hk) ?_
    · rw [hold k hk, if_neg]
      rintro rfl
      exact hne (by simp [row, Value.ownBlock])
    · show RowOk _ _ E eInt.sz ys.length _
      refine ⟨by rw [encs_length], .inr ⟨b, cap, Go.Sort.putCells (Value.int .i64) 0 ys.toArray cur, by rw [hl], ?_, by rw [hl]; exact h1, h2, ?_, ?_⟩⟩
      · show (Go.Sort.grow _ os).heap[b]? = _
        rw [hold b hgs, if_pos rfl]
      · rw [← h3]; simp [Go.Sort.putCells]
      · rw [encs_int]
        refine List.ext_getElem? fun k => ?_
        rw [List.getElem?_take]
        have hsz : cur.size = cap := by rw [h3]; show cap * 1 = cap; omega
        by_cases hk : k < ys.length
        · rw [if_pos (by show k < ys.length * 1; omega), Array.getElem?_toList]
          simp only [Go.Sort.putCells, Array.getElem?_mapIdx]
          rw [Array.getElem?_eq_getElem (show k < cur.size by omega)]
          simp [hk]
        · rw [if_neg (by show ¬ k < ys.length * 1; omega), List.getElem?_eq_none (by simp; omega)]
/-- What a slice value's cells hold. -/
def CellsAt (w : World) (v : Value) (xs : List Int) : Prop :=
  (xs = [] ∧ ∃ a c, v = .slice a 0 c) ∨ (0 < xs.length ∧ xs.length ≤ maxLen ∧ ∃ b off c, v = .slice (some ⟨b, off, none⟩) xs.length c ∧ ∀ j, j < xs.length → w.cell? ⟨b, off + j, none⟩ = some (.int .i64 (xs.getD j 0)))
def Cl (I : Imm) (l : List Itm) (v : Value) (xs : List Int) : Prop := ∀ w, St I w l → CellsAt w v xs
theorem Cl.ofRowI (h : RowI eInt I v xs) : Cl I l v xs := fun w hw => by
  obtain ⟨a, c, rfl, h2, h3, h4⟩ := h
  by_cases hx : xs = []
  · subst hx; exact .inl ⟨rfl, a, c, rfl⟩
  · obtain ⟨b, off, cur, E, f, rfl, e2, e3⟩ := h4 hx
    refine .inr ⟨List.length_pos_iff.2 hx, h3.1, b, off, c, rfl, fun j hj => ?_⟩
    rw [cell_of_row w b (off + j) cur E f (hw.imm _ _ e2)]
    refine e3 j _ ?_
    have h5 := encs_get eInt (xs := xs) (i := j) (j := 0) (get_of 0 hj) rfl
    rwa [show j * eInt.sz + 0 = j from by show j * 1 + 0 = j; omega] at h5
theorem Cl.ofRow (hat : At (row eInt E v xs) l) : Cl I l v xs := fun w hw => by
  obtain ⟨l', hp⟩ : ∃ l', l.Perm (row eInt E v xs :: l') := by
    clear hw
    induction hat with
    | here => exact ⟨_, .refl _⟩
    | there _ ih => obtain ⟨l', hp⟩ := ih; exact ⟨_, (hp.cons _).trans (.swap _ _ _)⟩
  have hw' := hw.perm hp
  rcases row_split hw' with ⟨rfl, rfl⟩ | ⟨b, cap, rfl⟩
  · exact .inl ⟨rfl, none, 0, rfl⟩
  · obtain ⟨h1, _, h3, h4⟩ := row_cells hw'
    by_cases hx : xs = []
    · subst hx; exact .inl ⟨rfl, _, _, rfl⟩
    · exact .inr ⟨List.length_pos_iff.2 hx, Nat.le_trans h3 h4, b, 0, cap, rfl, fun j hj => (h1 j hj).1⟩
theorem St.drewN {l : List Itm} (hw : St I w l) (n : Nat) : St I (w.drewN n) l := hw.drawn _
/-- A contract of the shelf's that leaves the world. -/
theorem Ct.stay {f : FuncId} {args : List Value} {R : Value → Imm → List Itm → Prop} {r : Value} (h : ∀ w, St I w l → Calls P f args.toArray w fun e w' => e = .returned r ∧ w' = w) (hr : R r I l) : Ct P f args I l R := fun w hw =>
  (h w hw).mono fun e w' ⟨he, hw'⟩ => ⟨r, I, l, he, Imm.le.refl I, by rw [hw']; exact hw, hr⟩
theorem Ct.draws {f : FuncId} {args : List Value} {R : Value → Imm → List Itm → Prop} {r : Value} (h : ∀ w, St I w l → Calls P f args.toArray w fun e w' => e = .returned r ∧ ∃ n, w' = w.drewN n) (hr : R r I l) : Ct P f args I l R := fun w hw =>
  (h w hw).mono fun e w' ⟨he, n, hw'⟩ => ⟨r, I, l, he, Imm.le.refl I, by rw [hw']; exact hw.drewN n, hr⟩
end
/-- Ints that can be read, whoever owns them. -/
structure Rdb (I : Imm) (l : List Itm) (v : Value) (xs : List Int) : Prop where
  sc : Sc v xs.length
  sl : 0 < xs.length → Sl v xs.length
  cl : Cl I l v xs
  max : xs.length ≤ maxLen
section
variable {P : Program} {n : Nat} {I : Imm} {l : List Itm} {E t : TypeId} {v : Value} {xs : List Int} {fr : List (Nat × Value)} {K : Act → World → Prop}
theorem Rdb.ofRowI (h : RowI eInt I v xs) : Rdb I l v xs := ⟨h.sc, h.sl, Cl.ofRowI h, h.max⟩
theorem K_rdb (hat : At (row eInt E v xs) l) (h : Rdb I l v xs → KK n I fr l K) : KK n I fr l K := fun a w ha hw => by
  have hcl : Cl I l v xs := Cl.ofRow hat
  have hr : RowOk _ v E eInt.sz xs.length _ := hw.ok _ hat.mem
  refine h ⟨?_, fun hn => ?_, hcl, ?_⟩ a w ha hw
  · rcases hr.2 with ⟨rfl, h0⟩ | ⟨b, cap, cur, rfl, _, h1, _⟩
    · exact ⟨none, 0, by rw [h0], by omega⟩
    · exact ⟨_, _, rfl, h1⟩
  · obtain ⟨b, cap, e1⟩ := row_form hw hat hn
    exact ⟨b, 0, _, e1⟩
  · rcases hr.2 with ⟨rfl, h0⟩ | ⟨b, cap, cur, rfl, _, h1, h2, _⟩
    · omega
    · omega
theorem ld_rdb {i : Nat} (T : Tab P) (h : Rdb I l v xs) (ht : (T.sh t).plain = true) (hi : i < xs.length) : Ld P I l t (eptr v 1 i 0) (.int .i64 (xs.getD i 0)) := fun w hw => by
  rcases h.cl w hw with ⟨rfl, _⟩ | ⟨_, _, b, off, c, rfl, hc⟩
  · simp at hi
  · have h1 := hc i hi
    have h2 : (Instr.loadAt t (.pointer (some ⟨b, off + i, none⟩))).run P w = .ok (.int .i64 (xs.getD i 0)) w := by
      simp [Instr.loadAt, Instr.sureAddr, loadVar, T.isAgg_plain ht, load, Sem.run, h1]
    have e : eptr (.slice (some ⟨b, off, none⟩) xs.length c) 1 i 0 = .pointer (some ⟨b, off + i, none⟩) := by
      simp [eptr]
    rw [e]; exact h2
end
end Go.Proofs.YtfnmcpgajjkemaaDoor.SW
