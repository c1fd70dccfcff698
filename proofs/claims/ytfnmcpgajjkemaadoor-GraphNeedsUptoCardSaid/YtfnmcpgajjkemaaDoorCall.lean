/- The symbolic walk, part 6: stores into rows, new rows, append; contracts, calls, a function's begin and end. -/
import Derived.Test.YtfnmcpgajjkemaaDoorAct
namespace Go.Proofs.YtfnmcpgajjkemaaDoor.SW
open Go Go.RowKit

theorem encs_set {α : Type} (e : Enc α) : ∀ {xs : List α} {i j : Nat} {a a' : α} {u : Value}, xs[i]? = some a → j < e.sz → e.cells a' = (e.cells a).set j u → encs e (xs.set i a') = (encs e xs).set (i * e.sz + j) u
  | [], i, j, a, a', u, hx, _, _ => by cases hx
  | y :: xs, 0, j, a, a', u, hx, hj, hc => by
    cases hx
    show e.cells a' ++ encs e xs = (e.cells y ++ encs e xs).set _ u
    rw [Nat.zero_mul, Nat.zero_add, hc, List.set_append, if_pos (by rw [e.len]; exact hj)]
  | y :: xs, i + 1, j, a, a', u, hx, hj, hc => by
    show e.cells y ++ encs e (xs.set i a') = (e.cells y ++ encs e xs).set _ u
    have h1 : (i + 1) * e.sz + j = (e.cells y).length + (i * e.sz + j) := by rw [e.len, Nat.succ_mul]; omega
    rw [h1, List.set_append, if_neg (by omega), Nat.add_sub_cancel_left, encs_set e (by simpa using hx) hj hc]
theorem encs_seta {α : Type} (e : Enc α) : ∀ {xs : List α} {i : Nat} {a' : α}, i < xs.length → encs e (xs.set i a') = (encs e xs).take (i * e.sz) ++ e.cells a' ++ (encs e xs).drop (i * e.sz + e.sz)
  | [], i, a', hx => by cases hx
  | y :: xs, 0, a', hx => by
    show e.cells a' ++ encs e xs = (e.cells y ++ encs e xs).take _ ++ _ ++ (e.cells y ++ encs e xs).drop _
    rw [Nat.zero_mul, List.take_zero, List.nil_append, Nat.zero_add]
    congr 1
    have := e.len y
    rw [← this, List.drop_left]
  | y :: xs, i + 1, a', hx => by
    show e.cells y ++ encs e (xs.set i a') = (e.cells y ++ encs e xs).take _ ++ _ ++ (e.cells y ++ encs e xs).drop _
    have h1 : (i + 1) * e.sz = (e.cells y).length + i * e.sz := by rw [e.len, Nat.succ_mul]; omega
    have h2 : (i + 1) * e.sz + e.sz = (e.cells y).length + (i * e.sz + e.sz) := by rw [h1]; omega
    rw [h2, h1, List.take_length_add_append, List.drop_length_add_append, encs_seta e (by simpa using hx)]
    simp [List.append_assoc]

section
variable {P : Program} {Q : Exit → Act → World → Prop} {n : Nat} {I : Imm} {fr : List (Nat × Value)} {l l0 m : List Itm} {K : Act → World → Prop} {d : Nat} {ty t : TypeId} {p : String} {af : Array Edge} {g : Option (Nat × Bool)} {x y z : Operand} {v u : Value}
variable {α : Type} {e : Enc α} {E : TypeId} {xs ys : List α}

theorem St.row_set {w : World} {i j b cap : Nat} {a a' : α} (hw : St I w (row e E (.slice (some ⟨b, 0, none⟩) xs.length cap) xs :: l)) (hx : xs[i]? = some a) (hj : j < e.sz) (hc : e.cells a' = (e.cells a).set j u) :
    St I (w.setCell ⟨b, i * e.sz + j, none⟩ u) (row e E (.slice (some ⟨b, 0, none⟩) xs.length cap) (xs.set i a') :: l) := by
  have hr : RowOk _ _ E e.sz xs.length _ := hw.ok _ (List.mem_cons_self ..)
  have hi : i < xs.length := (List.getElem?_eq_some_iff.1 hx).1
  rcases hr.2 with ⟨h0, _⟩ | ⟨g, cap', cur, h0, hg, h1, h2, h3, h4⟩
  · cases h0
  · cases h0
    refine hw.change rfl rfl rfl (by simp [World.setCell]) (fun k _ hne => Below.heap_setCell _ _ _ _ (by simpa [row, Value.ownBlock] using hne)) (by simp [row, Value.ownBlock]) (fun k hk => .inl hk) ?_
    refine ⟨by rw [encs_length], .inr ⟨b, cap, cur.setIfInBounds (i * e.sz + j) u, by simp, ?_, by simpa using h1, h2, by simpa using h3, ?_⟩⟩
    · show (w.setCell ⟨b, i * e.sz + j, none⟩ u).heap[b]? = _
      have hg' : w.heap[b]? = some (.cells cur E (0, 0)) := hg
      simp only [World.setCell, Array.getElem?_modify, if_true, hg', Option.map_some]
      rfl
    · rw [encs_set e hx hj hc, ← h4, List.length_set, Array.toList_setIfInBounds, List.take_set]
/-- A store of one cell of an element. -/
theorem a_ste (T : Tab P) {sz i j : Nat} {a a' : α} {zz : List Value} {bb : Nat} (hs : Nat.beq sz e.sz = true) (hz : T.info t = some (zz, bb)) (h1 : Nat.beq zz.length 1 = true) (hx : ev fr x = some (eptr v sz i j)) (hy : ev fr y = some u) (hu : u.oneCell' = true) (hi : xs[i]? = some a) (hj : Nat.blt j e.sz = true) (hc : e.cells a' = (e.cells a).set j u)
    (h : KK n I fr (row e E v (xs.set i a') :: l) K) : Oa P Q n I fr (row e E v xs :: l) ⟨none, .store t x y, ty, p, af, g⟩ K := fun a0 w ha hw => by
  have hs' := Nat.eq_of_beq_eq_true hs
  subst hs'
  have hj' : j < e.sz := by simpa [Nat.blt_eq] using hj
  have hil : i < xs.length := (List.getElem?_eq_some_iff.1 hi).1
  have hr : RowOk _ _ E e.sz xs.length _ := hw.ok _ (List.mem_cons_self ..)
  rcases hr.2 with ⟨_, h0⟩ | ⟨b, cap, cur, rfl, hg, k1, k2, k3, k4⟩
  · omega
  · have hg' : w.heap[b]? = some (.cells cur E (0, 0)) := hg
    have hlt : i * e.sz + j < cur.size := by
      have : (i + 1) * e.sz ≤ cap * e.sz := Nat.mul_le_mul_right _ (by omega)
      rw [Nat.succ_mul] at this
      omega
    refine upon_skip (w' := w.setCell ⟨b, i * e.sz + j, none⟩ u) ?_ (h _ _ ha (hw.row_set hi hj' hc))
    have := run_store1 (P := P) (off := i * e.sz + j) T hz h1 hu hg' hlt
    have hx' : ev fr x = some (.pointer (some ⟨b, i * e.sz + j, none⟩)) := by simpa [eptr] using hx
    simp [execOp, ha.eval hx', ha.eval hy, this]
/-- A store of a whole element. -/
theorem a_stea (T : Tab P) {sz i : Nat} {a' : α} {zz us : List Value} {bb : Nat} (hs : Nat.beq sz e.sz = true) (hz : T.info t = some (zz, bb)) (h1 : Nat.beq zz.length e.sz = true) (hx : ev fr x = some (eptr v sz i 0)) (hy : ev fr y = some (.agg us.toArray)) (hi : i < xs.length) (hc : e.cells a' = us)
    (h : KK n I fr (row e E v (xs.set i a') :: l) K) : Oa P Q n I fr (row e E v xs :: l) ⟨none, .store t x y, ty, p, af, g⟩ K := fun a0 w ha hw => by
  have hs' := Nat.eq_of_beq_eq_true hs
  subst hs'
  subst hc
  have hr : RowOk _ _ E e.sz xs.length _ := hw.ok _ (List.mem_cons_self ..)
  rcases hr.2 with ⟨_, h0⟩ | ⟨b, cap, cur, rfl, hg, k1, k2, k3, k4⟩
  · omega
  · have hg' : w.heap[b]? = some (.cells cur E (0, 0)) := hg
    have hfit : i * e.sz + e.sz ≤ cap * e.sz := by
      have : (i + 1) * e.sz ≤ cap * e.sz := Nat.mul_le_mul_right _ (by omega)
      rw [Nat.succ_mul] at this
      omega
    have hfit2 : i * e.sz + e.sz ≤ xs.length * e.sz := by
      have : (i + 1) * e.sz ≤ xs.length * e.sz := Nat.mul_le_mul_right _ (by omega)
      rw [Nat.succ_mul] at this
      omega
    have hx' : ev fr x = some (.pointer (some ⟨b, i * e.sz, none⟩)) := by simpa [eptr] using hx
    have hrun := run_storen (P := P) (us := e.cells a') (off := i * e.sz) T hz (by rw [e.len]; exact h1) (e.one a') hg' (by rw [e.len]; omega)
    refine upon_skip (w' := w.setRow b (cur.toList.take (i * e.sz) ++ e.cells a' ++ cur.toList.drop (i * e.sz + (e.cells a').length)).toArray) ?_ (h _ _ ha ?_)
    · simp [execOp, ha.eval hx', ha.eval hy, hrun]
    · refine hw.change rfl rfl rfl (by simp [World.setRow]) (fun k _ hne => setRow_other _ _ _ _ (by simpa [row, Value.ownBlock] using hne)) (by simp [row, Value.ownBlock]) (fun k hk => .inl hk) ?_
      refine ⟨by rw [encs_length], .inr ⟨b, cap, _, by simp, setRow_heap w b cur _ E (0, 0) hg', by simpa using k1, k2, ?_, ?_⟩⟩
      · simp only [List.size_toArray, List.length_append, List.length_take, List.length_drop, Array.length_toList, e.len]
        omega
      · rw [encs_seta e hi, ← k4, List.length_set, e.len]
        have hl1 : (cur.toList.take (i * e.sz)).length = i * e.sz := by simp; omega
        have hl2 : (cur.toList.take (i * e.sz) ++ e.cells a').length = i * e.sz + e.sz := by rw [List.length_append, hl1, e.len]
        have hsplit : xs.length * e.sz = (cur.toList.take (i * e.sz) ++ e.cells a').length + (xs.length * e.sz - (i * e.sz + e.sz)) := by rw [hl2]; omega
        show List.take _ (cur.toList.take (i * e.sz) ++ e.cells a' ++ cur.toList.drop (i * e.sz + e.sz)) = _
        rw [hsplit, List.take_length_add_append, ← hsplit, List.take_take, Nat.min_eq_left (by omega), List.drop_take]

/-! ### New rows -/
theorem a_bs0 (T : Tab P) (ht : T.sh t = .slice E) {zz : List Value} {bb : Nat} (hz : T.info E = some (zz, bb)) (hn : Nat.blt d n = true)
    (h : ∀ b, KK n I ((d, .slice (some ⟨b, 0, none⟩) 0 0) :: fr) (row e E (.slice (some ⟨b, 0, none⟩) 0 0) [] :: l) K) : Oa P Q n I fr l ⟨some d, .buildSlice t 0 #[], ty, p, af, g⟩ K := fun a w ha hw => by
  refine upon_ok (v := .slice (some ⟨w.heap.size, 0, none⟩) 0 0) (w' := w.alloc (.cells #[] E (0, 0))) ?_ ?_
  · simp [execOp, Instr.buildSlice, run_underlying (T.und_slice ht), T.sizeOf_ok hz, Instr.fill, newRow, newObj, Sem.run]
    rw [show Array.map (fun _ => (default : Value)) (Array.range 0) = #[] from Array.eq_empty_of_size_eq_zero (by simp)]
  · refine h _ _ _ (ha.put hn _) (hw.fresh rfl rfl rfl (by simp) (fun b hb => Below.heap_alloc _ _ _ hb) (by simp [row, Value.ownBlock]) (fun b hb => ?_) ?_)
    · simp [row, Value.ownBlock] at hb; subst hb; simp
    · exact ⟨by simp [encs], .inr ⟨_, 0, #[], rfl, heap_alloc_new w _, Nat.le_refl _, by simp [maxLen], by simp, by simp [encs]⟩⟩
theorem foldl_put (off : Nat) : ∀ (vs : List Value) (k : Nat) (C : Array Value), off + k + vs.length ≤ C.size →
    (vs.zipIdx k).foldl (fun cs (x : Value × Nat) => cs.setIfInBounds (off + x.2) x.1) C = (C.toList.take (off + k) ++ vs ++ C.toList.drop (off + k + vs.length)).toArray
  | [], k, C, _ => by simp
  | v :: vs, k, C, h => by
    simp only [List.zipIdx_cons, List.foldl_cons]
    rw [foldl_put off vs (k + 1) _ (by simp at h ⊢; omega)]
    have hk : off + k < C.toList.length := by simp at h ⊢; omega
    simp only [List.length_cons] at h
    rw [Array.toList_setIfInBounds, show off + (k + 1) = (off + k) + 1 from by omega, List.take_set, List.take_succ_eq_append_getElem hk, List.set_append, if_neg (by simp; omega), List.drop_set_of_lt (by omega), List.length_cons, show off + k + 1 + vs.length = off + k + (vs.length + 1) from by omega]
    simp only [List.length_take, Array.length_toList, List.append_assoc, List.cons_append]
    have : off + k - min (off + k) C.size = 0 := by simp at hk; omega
    rw [this]
    simp
theorem fill_row (sz : Nat) : ∀ (us : List Value) (k : Nat) (C : Array Value), (∀ u, u ∈ us → u.cells.size = sz) → k * sz + us.length * sz ≤ C.size →
    Instr.fill (fun i => some (i * sz, sz)) C ((us.zipIdx k).map fun x => (x.2, x.1)) = some (C.toList.take (k * sz) ++ us.flatMap (·.cells.toList) ++ C.toList.drop (k * sz + us.length * sz)).toArray
  | [], k, C, _, _ => by simp [Instr.fill]
  | u :: us, k, C, hu, hl => by
    have h0 := hu u (List.mem_cons_self ..)
    have hl' : k * sz + (us.length * sz + sz) ≤ C.size := by rw [List.length_cons, Nat.succ_mul] at hl; exact hl
    have hp := foldl_put (k * sz) u.cells.toList 0 C (by rw [Array.length_toList]; omega)
    simp only [List.zipIdx_cons, List.map_cons, Instr.fill]
    rw [if_neg (by simp [h0]; omega)]
    have hp' : Array.foldl (fun cs (x : Value × Nat) => cs.setIfInBounds (k * sz + x.2) x.1) C u.cells.zipIdx = (C.toList.take (k * sz) ++ u.cells.toList ++ C.toList.drop (k * sz + sz)).toArray := by
      rw [← Array.foldl_toList, Array.toList_zipIdx, hp, Nat.add_zero, Array.length_toList, h0]
    refine Eq.trans (congrArg (fun X => Instr.fill (fun i => some (i * sz, sz)) X _) hp') ?_
    have hlen1 : (C.toList.take (k * sz) ++ u.cells.toList).length = (k + 1) * sz := by simp [h0, Nat.succ_mul]; omega
    rw [fill_row sz us (k + 1) _ (fun v hv => hu v (List.mem_cons_of_mem _ hv)) (by
      simp only [List.size_toArray, List.length_append, List.length_take, List.length_drop, Array.length_toList, h0, Nat.succ_mul]
      omega)]
    congr 1
    congr 1
    show List.take _ (_ ++ _) ++ _ ++ List.drop _ (_ ++ _) = _
    rw [List.take_append_of_le_length (by omega), List.take_of_length_le (by omega), List.drop_append, hlen1, List.drop_eq_nil_of_le (by omega), List.nil_append, List.drop_drop]
    simp only [List.flatMap_cons, List.append_assoc, List.length_cons, Nat.succ_mul]
    congr 4
    omega
/-- A literal of a slice: its elements in their order. -/
theorem a_bs (T : Tab P) {k : Nat} {parts : Array (Nat × Operand)} {os : List Operand} {us : List Value} (ht : T.sh t = .slice E) {zz : List Value} {bb : Nat} (hz : T.info E = some (zz, bb)) (hzl : Nat.beq zz.length e.sz = true) (hp : parts.toList = (os.zipIdx).map fun x => (x.2, x.1)) (hk : Nat.beq os.length k = true) (hs : Nat.ble (k * e.sz) 16777216 = true)
    (hx : evs fr os = some us) (hu : us.map (·.cells.toList) = xs.map e.cells) (hn : Nat.blt d n = true)
    (h : ∀ b, KK n I ((d, .slice (some ⟨b, 0, none⟩) xs.length xs.length) :: fr) (row e E (.slice (some ⟨b, 0, none⟩) xs.length xs.length) xs :: l) K) : Oa P Q n I fr l ⟨some d, .buildSlice t k parts, ty, p, af, g⟩ K := fun a w ha hw => by
  have hzl' := Nat.eq_of_beq_eq_true hzl
  have hk' := Nat.eq_of_beq_eq_true hk
  have hs' : k * e.sz ≤ 16777216 := by simpa [Nat.ble_eq] using hs
  obtain ⟨i, zv, hi, hzv, hcs, hsz, _⟩ := T.info_ok E zz bb hz
  have hev := ha.evals hx
  have hlen : us.length = xs.length := by have := congrArg List.length hu; simpa using this
  have hlo : os.length = us.length := by rw [← hev]; simp
  have hkx : k = xs.length := by omega
  have hsize : ∀ u, u ∈ us → u.cells.size = e.sz := fun u hu' => by
    have h1 : u.cells.toList ∈ us.map (·.cells.toList) := List.mem_map.2 ⟨u, hu', rfl⟩
    rw [hu] at h1
    obtain ⟨x0, _, hx0⟩ := List.mem_map.1 h1
    rw [← Array.length_toList, ← hx0, e.len]
  have hflat : us.flatMap (·.cells.toList) = encs e xs := by
    rw [encs, List.flatMap_def, List.flatMap_def, hu]
  have hparts : (parts.map fun (x : Nat × Operand) => (x.1, a.eval x.2)).toList = (us.zipIdx).map fun x => (x.2, x.1) := by
    rw [Array.toList_map, hp, List.map_map, ← hev, List.zipIdx_map, List.map_map]
    rfl
  refine upon_ok (v := .slice (some ⟨w.heap.size, 0, none⟩) k k) (w' := w.alloc (.cells (encs e xs).toArray E (0, 0))) ?_ ?_
  · have hC : ∀ C : Array Value, C.size = k * e.sz → Instr.fill (fun i => some (i * e.sz, e.sz)) C ((us.zipIdx).map fun x => (x.2, x.1)) = some (encs e xs).toArray := fun C hC => by
      have := fill_row e.sz us 0 C hsize (by rw [hlen, hC, hkx]; omega)
      rw [this, hflat, Nat.zero_mul, Nat.zero_add, List.take_zero, List.nil_append, List.drop_eq_nil_of_le (Nat.le_of_eq (by rw [Array.length_toList, hC, hkx, hlen])), List.append_nil]
    have hle : ¬ (k * e.sz > 2 ^ 24) := by omega
    have hsz' : (sizeOf E).run P w = .ok e.sz w := by rw [T.sizeOf_ok hz, hzl']
    have hzero : (zeroValue E).run P w = .ok zv w := by simp [zeroValue, typeInfo, hi, hzv]
    have hrun : (Instr.buildSlice t k (parts.map fun (x : Nat × Operand) => (x.1, a.eval x.2))).run P w = .ok (.slice (some ⟨w.heap.size, 0, none⟩) k k) (w.alloc (.cells (encs e xs).toArray E (0, 0))) := by
      unfold Instr.buildSlice
      simp only [Sem.run_bind, run_underlying (T.und_slice ht), Result.andThen_ok, hsz']
      rw [if_neg hle]
      by_cases hk0 : k * e.sz = 0
      · rw [if_pos hk0]
        simp only [Sem.run_bind, Sem.run_pure, Result.andThen_ok, hparts]
        rw [hC _ (by simp)]
        simp [newRow, newObj, Sem.run]
      · rw [if_neg hk0]
        simp only [Sem.run_bind, Sem.run_pure, Result.andThen_ok, hzero, hparts]
        rw [hC _ (by simp)]
        simp [newRow, newObj, Sem.run]
    simp only [execOp, Sem.run_bind, hrun, Result.andThen_ok, Sem.run_pure]
  · rw [hkx]
    refine h _ _ _ (ha.put hn _) (hw.fresh rfl rfl rfl (by simp) (fun b hb => Below.heap_alloc _ _ _ hb) (by simp [row, Value.ownBlock]) (fun b hb => ?_) ?_)
    · simp [row, Value.ownBlock] at hb; subst hb; simp
    · have hmax : xs.length ≤ 16777216 := by
        have : xs.length * 1 ≤ xs.length * e.sz := Nat.mul_le_mul_left _ e.pos
        rw [← hkx] at this ⊢; omega
      exact ⟨by rw [encs_length], .inr ⟨_, _, _, rfl, heap_alloc_new w _, Nat.le_refl _, by simp only [maxLen]; omega, by simp [encs_length], by simp [← encs_length e]⟩⟩
end
end Go.Proofs.YtfnmcpgajjkemaaDoor.SW
