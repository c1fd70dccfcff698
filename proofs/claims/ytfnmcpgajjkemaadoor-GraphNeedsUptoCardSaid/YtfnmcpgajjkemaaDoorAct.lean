/- The symbolic walk, part 5: rows of typed elements; operations that act; calls. -/
import Derived.Test.YtfnmcpgajjkemaaDoorYie
import Derived.Maps.AppendAt
import Derived.Laws.CopyRow
import Derived.Laws.AppendOwnNone
namespace Go.Proofs.YtfnmcpgajjkemaaDoor.SW
open Go Go.RowKit

/-- How a value of a Lean type stands in cells. -/
structure Enc (α : Type) where
  sz : Nat
  cells : α → List Value
  len : ∀ x, (cells x).length = sz
  pos : 0 < sz
  one : ∀ x v, v ∈ cells x → v.oneCell' = true
def encs {α : Type} (e : Enc α) (xs : List α) : List Value := xs.flatMap e.cells
section enc
variable {α : Type} (e : Enc α)
theorem encs_length (xs : List α) : (encs e xs).length = xs.length * e.sz := by
  induction xs with
  | nil => simp [encs]
  | cons x xs ih =>
    show (e.cells x ++ encs e xs).length = _
    rw [List.length_append, ih, e.len, List.length_cons, Nat.succ_mul, Nat.add_comm]
theorem encs_append (xs ys : List α) : encs e (xs ++ ys) = encs e xs ++ encs e ys := by simp [encs]
theorem encs_one (xs : List α) : ∀ v, v ∈ encs e xs → v.oneCell' = true := fun v hv => by
  obtain ⟨x, _, hx⟩ := List.mem_flatMap.1 hv
  exact e.one x v hx
theorem encs_get {xs : List α} {i j : Nat} {x : α} {v : Value} (hx : xs[i]? = some x) (hv : (e.cells x)[j]? = some v) : (encs e xs)[i * e.sz + j]? = some v := by
  induction xs generalizing i with
  | nil => cases hx
  | cons y xs ih =>
    show (e.cells y ++ encs e xs)[_]? = _
    cases i with
    | zero =>
      cases hx
      have hj : j < (e.cells x).length := (List.getElem?_eq_some_iff.1 hv).1
      rw [Nat.zero_mul, Nat.zero_add, List.getElem?_append_left hj]; exact hv
    | succ i =>
      have h1 : (i + 1) * e.sz + j = (e.cells y).length + (i * e.sz + j) := by rw [e.len, Nat.succ_mul]; omega
      rw [h1, List.getElem?_append_right (by omega), Nat.add_sub_cancel_left]
      exact ih (by simpa using hx)
end enc

/-- A slice value that owns its elements' cells: nil, or at the head of a block. -/
def RowOk (h : Nat → Option Obj) (v : Value) (E : TypeId) (sz n : Nat) (cs : List Value) : Prop :=
  cs.length = n * sz ∧ ((v = .slice none 0 0 ∧ n = 0) ∨
    ∃ g cap cur, v = .slice (some ⟨g, 0, none⟩) n cap ∧ h g = some (.cells cur E (0, 0)) ∧ n ≤ cap ∧ cap ≤ maxLen ∧ cur.size = cap * sz ∧ cur.toList.take (n * sz) = cs)
theorem RowOk.own {w : World} {v : Value} {E : TypeId} {sz n : Nat} {cs : List Value} (h : RowOk (fun b => w.heap[b]?) v E sz n cs) : w.ownsRow 0 E sz v n cs :=
  ⟨h.1, h.2.imp id fun ⟨g, cap, cur, a, b, c⟩ => ⟨g, cap, cur, a, Nat.zero_le _, b, c⟩⟩
theorem RowOk.of_own {w : World} {b : Nat} {v : Value} {E : TypeId} {sz n : Nat} {cs : List Value} (h : w.ownsRow b E sz v n cs) : RowOk (fun b => w.heap[b]?) v E sz n cs :=
  ⟨h.1, h.2.imp id fun ⟨g, cap, cur, a, _, b, c⟩ => ⟨g, cap, cur, a, b, c⟩⟩
def row {α : Type} (e : Enc α) (E : TypeId) (v : Value) (xs : List α) : Itm where
  fp := v.ownBlock.toList
  ok := fun h => RowOk h v E e.sz xs.length (encs e xs)
  loc := fun h h' heq hok => ⟨hok.1, hok.2.imp id fun ⟨g, cap, cur, a, b, c⟩ => ⟨g, cap, cur, a, by rw [heq g (by rw [a]; simp [Value.ownBlock])]; exact b, c⟩⟩
/-- A slice value of the immutable part, read as a list. -/
def RowI {α : Type} (e : Enc α) (I : Imm) (v : Value) (xs : List α) : Prop :=
  ∃ a c, v = .slice a xs.length c ∧ xs.length ≤ c ∧ (xs.length ≤ maxLen ∧ (a = none → c = 0)) ∧ (xs ≠ [] → ∃ b off cur E f, a = some ⟨b, off, none⟩ ∧ I.at_ b = some (.cells cur E f) ∧ ∀ j u, (encs e xs)[j]? = some u → cur[off + j]? = some u)
section rowi
variable {α : Type} {e : Enc α} {I J : Imm} {v : Value} {xs : List α}
theorem RowI.mono (h : RowI e I v xs) (k : I.le J) : RowI e J v xs := by
  obtain ⟨a, c, h1, h2, h3, h4⟩ := h
  refine ⟨a, c, h1, h2, h3, fun hn => ?_⟩
  obtain ⟨b, off, cur, E, f, e1, e2, e3⟩ := h4 hn
  exact ⟨b, off, cur, E, f, e1, k.at_ _ _ e2, e3⟩
theorem RowI.nil (e : Enc α) (I : Imm) : RowI e I (.slice none 0 0) [] := ⟨none, 0, rfl, Nat.le_refl _, ⟨Nat.zero_le _, fun _ => rfl⟩, fun h => absurd rfl h⟩
theorem RowI.form (h : RowI e I v xs) : ∃ a c, v = .slice a xs.length c := by obtain ⟨a, c, h1, _⟩ := h; exact ⟨a, c, h1⟩
theorem RowI.max (h : RowI e I v xs) : xs.length ≤ maxLen := by obtain ⟨a, c, _, _, h3, _⟩ := h; exact h3.1
theorem RowI.sl (h : RowI e I v xs) (hn : 0 < xs.length) : Sl v xs.length := by
  obtain ⟨a, c, h1, h2, h3, h4⟩ := h
  obtain ⟨b, off, cur, E, f, e1, _⟩ := h4 (by intro e; subst e; simp at hn)
  exact ⟨b, off, c, by rw [h1, e1]⟩
end rowi

section acts
variable {P : Program} {Q : Exit → Act → World → Prop} {n : Nat} {I : Imm} {fr : List (Nat × Value)} {l l0 m : List Itm} {K : Act → World → Prop} {d : Nat} {ty t : TypeId} {p : String} {af : Array Edge} {g : Option (Nat × Bool)} {x y z : Operand} {v u : Value}
variable {α : Type} {e : Enc α} {E : TypeId} {xs ys : List α}

/-! ### Elements of rows -/
theorem y_ixv (T : Tab P) {dd : Option Tmp} {b o k c : Nat} {zz : List Value} {bb : Nat} {ki : IntKind} {ii : Int} (ht : T.sh t = .slice E) (hz : T.info E = some (zz, bb)) (hx : ev fr x = some (.slice (some ⟨b, o, none⟩) k c)) (hi : ev fr y = some (.int ki ii)) (h0 : 0 ≤ ii) (h1 : ii < k) :
    Yv P n I fr l ⟨dd, .indexAddr t x y, ty, p, af, g⟩ (eptr (.slice (some ⟨b, o, none⟩) k c) zz.length ii.toNat 0) := fun a w ha _ => by
  simp [execOp, ha.eval hx, ha.eval hi, Instr.indexAt, asIntOf, run_underlying (T.und_slice ht), h0, h1, T.sizeOf_ok hz, add_pl, eptr]
theorem y_ixs (T : Tab P) {dd : Option Tmp} {k : Nat} {zz : List Value} {bb : Nat} {ki : IntKind} {ii : Int} (hs : Sl v k) (ht : T.sh t = .slice E) (hz : T.info E = some (zz, bb)) (hx : ev fr x = some v) (hi : ev fr y = some (.int ki ii)) (h : 0 ≤ ii ∧ ii < k) :
    Yv P n I fr l ⟨dd, .indexAddr t x y, ty, p, af, g⟩ (eptr v zz.length ii.toNat 0) := by
  obtain ⟨b, o, c, rfl⟩ := hs
  exact y_ixv T ht hz hx hi h.1 h.2
theorem y_ixi (T : Tab P) {I0 : Imm} {dd : Option Tmp} {zz : List Value} {bb : Nat} {ki : IntKind} {ii : Int} (hr : RowI e I0 v xs) (ht : T.sh t = .slice E) (hz : T.info E = some (zz, bb)) (hx : ev fr x = some v) (hi : ev fr y = some (.int ki ii)) (h : 0 ≤ ii ∧ ii < xs.length) :
    Yv P n I fr l ⟨dd, .indexAddr t x y, ty, p, af, g⟩ (eptr v zz.length ii.toNat 0) := y_ixs T (hr.sl (by omega)) ht hz hx hi h
theorem y_ixr (T : Tab P) {dd : Option Tmp} {zz : List Value} {bb : Nat} {ki : IntKind} {ii : Int} {E' : TypeId} (ha : At (row e E' v xs) l) (ht : T.sh t = .slice E) (hz : T.info E = some (zz, bb)) (hx : ev fr x = some v) (hi : ev fr y = some (.int ki ii)) (h : 0 ≤ ii ∧ ii < xs.length) :
    Yv P n I fr l ⟨dd, .indexAddr t x y, ty, p, af, g⟩ (eptr v zz.length ii.toNat 0) := fun a w hf hw => by
  have hr : RowOk _ v E' e.sz xs.length _ := hw.ok _ ha.mem
  rcases hr.2 with ⟨_, h0⟩ | ⟨b, cap, cur, rfl, _⟩
  · omega
  · exact y_ixv (I := I) (l := l) T ht hz hx hi h.1 h.2 a w hf hw
theorem ld_rowi {sz i j : Nat} {a : α} (T : Tab P) (hr : RowI e I v xs) (hs : Nat.beq sz e.sz = true) (ht : (T.sh t).plain = true) (hx : xs[i]? = some a) (hv : (e.cells a)[j]? = some u) : Ld P I l t (eptr v sz i j) u := by
  have hs' := Nat.eq_of_beq_eq_true hs
  subst hs'
  obtain ⟨a0, c, rfl, _, _, h4⟩ := hr
  obtain ⟨b, off, cur, E, f, rfl, e2, e3⟩ := h4 (by intro e; subst e; cases hx)
  refine ld_cell T ht (fun w hw => rd_heap (c := cur) (E := E) (f := f) (hw.imm _ _ e2) (fun k q hk => ?_))
  cases k with
  | zero => cases hk; have := e3 _ _ (encs_get e hx hv); rw [← this]; simp
  | succ k => simp at hk
theorem ld_rowia {sz i bb : Nat} {zz : List Value} {a : α} (T : Tab P) (hr : RowI e I v xs) (hs : Nat.beq sz e.sz = true) (ht : (T.sh t).agg = true) (hz : T.info t = some (zz, bb)) (hl : Nat.beq e.sz zz.length = true) (hx : xs[i]? = some a) : Ld P I l t (eptr v sz i 0) (.agg (e.cells a).toArray) := by
  have hs' := Nat.eq_of_beq_eq_true hs
  subst hs'
  obtain ⟨a0, c, rfl, _, _, h4⟩ := hr
  obtain ⟨b, off, cur, E, f, rfl, e2, e3⟩ := h4 (by intro e; subst e; cases hx)
  refine ld_agg T ht hz (by rw [e.len]; exact hl) (fun w hw => rd_heap (c := cur) (E := E) (f := f) (hw.imm _ _ e2) (fun k q hk => ?_))
  have := e3 _ _ (encs_get e hx hk)
  rw [← this]; simp [Nat.add_assoc]
theorem rd_row {i j : Nat} {a : α} {us : List Value} {cap b : Nat} (ha : At (row e E (.slice (some ⟨b, 0, none⟩) xs.length cap) xs) l) (hx : xs[i]? = some a) (hv : ∀ k q, us[k]? = some q → (e.cells a)[j + k]? = some q) : Rd I l b (i * e.sz + j) us := fun w hw => by
  have hr : RowOk _ _ E e.sz xs.length _ := hw.ok _ ha.mem
  rcases hr.2 with ⟨h0, _⟩ | ⟨g, cap', cur, h0, hg, h1, h2, h3, h4⟩
  · cases h0
  · cases h0
    refine rd_heap hg (fun k q hk => ?_)
    have := encs_get e hx (hv k q hk)
    rw [← h4, List.getElem?_take] at this
    split at this
    · rw [Nat.add_assoc]; simpa using this
    · cases this
theorem row_form {w : World} (hw : St I w l) (ha : At (row e E v xs) l) (hn : 0 < xs.length) : ∃ b cap, v = .slice (some ⟨b, 0, none⟩) xs.length cap := by
  have hr : RowOk _ v E e.sz xs.length _ := hw.ok _ ha.mem
  rcases hr.2 with ⟨_, h0⟩ | ⟨b, cap, cur, rfl, _⟩
  · omega
  · exact ⟨b, cap, rfl⟩
theorem ld_row {sz i j : Nat} {a : α} (T : Tab P) (ha : At (row e E v xs) l) (hs : Nat.beq sz e.sz = true) (ht : (T.sh t).plain = true) (hx : xs[i]? = some a) (hv : (e.cells a)[j]? = some u) : Ld P I l t (eptr v sz i j) u := fun w hw => by
  have hs' := Nat.eq_of_beq_eq_true hs
  subst hs'
  obtain ⟨b, cap, rfl⟩ := row_form hw ha (by have := (List.getElem?_eq_some_iff.1 hx).1; omega)
  have hrd := rd_row (I := I) (j := j) (us := [u]) ha hx (fun k q hk => by
    cases k with
    | zero => cases hk; exact hv
    | succ k => simp at hk)
  have := ld_cell (P := P) (t := t) T ht hrd w hw
  simpa [eptr] using this
theorem ld_rowa {sz i bb : Nat} {zz : List Value} {a : α} (T : Tab P) (ha : At (row e E v xs) l) (hs : Nat.beq sz e.sz = true) (ht : (T.sh t).agg = true) (hz : T.info t = some (zz, bb)) (hl : Nat.beq e.sz zz.length = true) (hx : xs[i]? = some a) : Ld P I l t (eptr v sz i 0) (.agg (e.cells a).toArray) := fun w hw => by
  have hs' := Nat.eq_of_beq_eq_true hs
  subst hs'
  obtain ⟨b, cap, rfl⟩ := row_form hw ha (by have := (List.getElem?_eq_some_iff.1 hx).1; omega)
  have hrd := rd_row (I := I) (j := 0) (us := e.cells a) ha hx (fun k q hk => by rw [Nat.zero_add]; exact hk)
  have := ld_agg (P := P) (t := t) T ht hz (by rw [e.len]; exact hl) hrd w hw
  simpa [eptr] using this

/-! ### New blocks and stores -/
theorem upon_ok {o : Oper} {a : Act} {w w' : World} (h : (execOp a.eval o).run P w = .ok (.value v) w') (hk : K (a.put o.dst v) w') : o.wp P a w K Q := by
  unfold Oper.wp; rw [h]; exact hk
theorem upon_skip {o : Oper} {a : Act} {w w' : World} (h : (execOp a.eval o).run P w = .ok .skip w') (hk : K (a.put o.dst undef) w') : o.wp P a w K Q := by
  unfold Oper.wp; rw [h]; exact hk
theorem a_box (hx : ev fr x = some v) (hn : Nat.blt d n = true) (h : ∀ b, KK n I ((d, .pointer (some ⟨b, 0, none⟩)) :: fr) (blk b (.cells v.cells t (0, 0)) :: l) K) : Oa P Q n I fr l ⟨some d, .box t x, ty, p, af, g⟩ K := fun a w ha hw => by
  refine upon_ok (v := .pointer (some ⟨w.heap.size, 0, none⟩)) (w' := w.alloc (.cells v.cells t (0, 0))) ?_ ?_
  · simp [execOp, ha.eval hx, Instr.box, newVar, newRow, newObj, Sem.run]
  · exact h _ _ _ (ha.put hn _) (hw.new _)
theorem a_alloc (T : Tab P) {zz : List Value} {bb : Nat} (hz : T.info t = some (zz, bb)) (hn : Nat.blt d n = true) (h : ∀ b, KK n I ((d, .pointer (some ⟨b, 0, none⟩)) :: fr) (blk b (.cells zz.toArray t (0, 0)) :: l) K) : Oa P Q n I fr l ⟨some d, .alloc t, ty, p, af, g⟩ K := fun a w ha hw => by
  obtain ⟨i, zv, hi, hzv, hcs, _, _⟩ := T.info_ok t zz bb hz
  have hcs' : zv.cells = zz.toArray := by rw [← hcs]
  refine upon_ok (v := .pointer (some ⟨w.heap.size, 0, none⟩)) (w' := w.alloc (.cells zz.toArray t (0, 0))) ?_ ?_
  · simp [execOp, Instr.alloc, zeroValue, typeInfo, hi, hzv, newVar, newRow, newObj, Sem.run, hcs']
  · exact h _ _ _ (ha.put hn _) (hw.new _)
theorem run_store1 {w : World} {b off : Nat} {c : Array Value} {E' : TypeId} (T : Tab P) {zz : List Value} {bb : Nat} (hz : T.info t = some (zz, bb)) (h1 : Nat.beq zz.length 1 = true) (hv : v.oneCell' = true) (hb : w.heap[b]? = some (.cells c E' (0, 0))) (ho : off < c.size) :
    (Instr.storeAt t (.pointer (some ⟨b, off, none⟩)) v).run P w = .ok () (w.setCell ⟨b, off, none⟩ v) := by
  have hl := Nat.eq_of_beq_eq_true h1
  have hcs : v.cells = #[v] := by cases v <;> first | rfl | (cases hv)
  have hc : w.cell? ⟨b, off, none⟩ = some c[off] := by rw [cell_of_row w b off c E' _ hb]; exact Array.getElem?_eq_getElem ho
  have hf : w.frozen? ⟨b, off, none⟩ = false := by simp [World.frozen?, hb]
  simp [Instr.storeAt, Instr.sureAddr, storeVar, hcs, T.sizeOf_ok hz, hl, storeCells, run_store P w _ v .plain hv, hc, hf, add_pl]
/-- A store of one cell into a known block. -/
theorem a_st (T : Tab P) {b off : Nat} {c : Array Value} {E' : TypeId} {zz : List Value} {bb : Nat} (hz : T.info t = some (zz, bb)) (h1 : Nat.beq zz.length 1 = true) (hx : ev fr x = some (.pointer (some ⟨b, off, none⟩))) (hy : ev fr y = some v) (hv : v.oneCell' = true) (ho : Nat.blt off c.size = true)
    (h : KK n I fr (blk b (.cells (c.setIfInBounds off v) E' (0, 0)) :: l) K) : Oa P Q n I fr (blk b (.cells c E' (0, 0)) :: l) ⟨none, .store t x y, ty, p, af, g⟩ K := fun a w ha hw => by
  have ho' : off < c.size := by simpa [Nat.blt_eq] using ho
  refine upon_skip (w' := w.setCell ⟨b, off, none⟩ v) ?_ ?_
  · simp [execOp, ha.eval hx, ha.eval hy, run_store1 T hz h1 hv hw.at_blk ho']
  · exact h _ _ ha (hw.set off v)
theorem St.setCells {w : World} {b off : Nat} {c : Array Value} {E' : TypeId} {us : List Value} (hw : St I w (blk b (.cells c E' (0, 0)) :: l)) :
    St I (w.setRow b (c.toList.take off ++ us ++ c.toList.drop (off + us.length)).toArray) (blk b (.cells (c.toList.take off ++ us ++ c.toList.drop (off + us.length)).toArray E' (0, 0)) :: l) := by
  refine hw.change rfl rfl rfl (by simp [World.setRow]) (fun k _ hne => setRow_other _ _ _ _ (by simpa [blk] using hne)) (by simp [blk]) (fun k hk => .inl hk) ?_
  exact setRow_heap w b c _ E' (0, 0) hw.at_blk
theorem run_storen {w : World} {b off : Nat} {c : Array Value} {E' : TypeId} {us : List Value} (T : Tab P) {zz : List Value} {bb : Nat} (hz : T.info t = some (zz, bb)) (h1 : Nat.beq zz.length us.length = true) (hv : ∀ u, u ∈ us → u.oneCell' = true) (hb : w.heap[b]? = some (.cells c E' (0, 0))) (ho : off + us.length ≤ c.size) :
    (Instr.storeAt t (.pointer (some ⟨b, off, none⟩)) (.agg us.toArray)).run P w = .ok () (w.setRow b (c.toList.take off ++ us ++ c.toList.drop (off + us.length)).toArray) := by
  have hl := Nat.eq_of_beq_eq_true h1
  have := run_storeCells_at (P := P) b off E' us 0 c w hb (by omega) hv
  simp [Instr.storeAt, Instr.sureAddr, storeVar, Value.cells, T.sizeOf_ok hz, hl] at this ⊢
  exact this
/-- A store of a struct into a known block. -/
theorem a_sta (T : Tab P) {b off : Nat} {c : Array Value} {E' : TypeId} {zz us : List Value} {bb : Nat} (hz : T.info t = some (zz, bb)) (h1 : Nat.beq zz.length us.length = true) (hx : ev fr x = some (.pointer (some ⟨b, off, none⟩))) (hy : ev fr y = some (.agg us.toArray)) (hv : ∀ u, u ∈ us → u.oneCell' = true) (ho : Nat.ble (off + us.length) c.size = true)
    (h : KK n I fr (blk b (.cells (c.toList.take off ++ us ++ c.toList.drop (off + us.length)).toArray E' (0, 0)) :: l) K) : Oa P Q n I fr (blk b (.cells c E' (0, 0)) :: l) ⟨none, .store t x y, ty, p, af, g⟩ K := fun a w ha hw => by
  have ho' : off + us.length ≤ c.size := by simpa [Nat.ble_eq] using ho
  refine upon_skip (w' := w.setRow b (c.toList.take off ++ us ++ c.toList.drop (off + us.length)).toArray) ?_ ?_
  · simp [execOp, ha.eval hx, ha.eval hy, run_storen T hz h1 hv hw.at_blk ho']
  · exact h _ _ ha hw.setCells
end acts
end Go.Proofs.YtfnmcpgajjkemaaDoor.SW
