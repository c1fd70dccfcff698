/- The symbolic walk, part 4: what each kind of operation yields. -/
import Derived.Test.YtfnmcpgajjkemaaDoorVal
namespace Go.Proofs.YtfnmcpgajjkemaaDoor.SW
open Go Go.RowKit

section yields
variable {P : Program} {n : Nat} {I : Imm} {fr : List (Nat × Value)} {l : List Itm} {d : Option Tmp} {ty t : TypeId} {p : String} {af : Array Edge} {g : Option (Nat × Bool)} {x y z : Operand} {v u : Value}

theorem y_move (h : ev fr x = some v) : Yv P n I fr l ⟨d, .move x, ty, p, af, g⟩ v := fun a w ha _ => by simp [execOp, ha.eval h]
theorem y_assign (h : ev fr x = some v) : Yv P n I fr l ⟨d, .assign x, ty, p, af, g⟩ v := fun a w ha _ => by simp [execOp, ha.eval h]
theorem y_pick {b : Bool} (hc : ev fr x = some (.bool b)) (h : (bif b then ev fr y else ev fr z) = some v) : Yv P n I fr l ⟨d, .pick x y z, ty, p, af, g⟩ v := fun a w ha _ => by
  cases b <;> simp [execOp, ha.eval hc, asBool] at h ⊢ <;> rw [ha.eval h]
section ints
variable {k : IntKind} {i j r : Int} {t' : TypeId}
theorem y_int {op : BinOp} {v : Value} (hx : ev fr x = some (.int k i)) (hy : ev fr y = some (.int k j)) (hr : ∀ w, (binOp op t (.int k i) (.int k j)).run P w = .ok v w) : Yv P n I fr l ⟨d, .binOp op t x y t', ty, p, af, g⟩ v := fun a w ha _ => by
  have : (eqGuard op t x y (.int k i) (.int k j)).run P w = .ok () w := by unfold eqGuard; split <;> simp
  simp [execOp, ha.eval hx, ha.eval hy, this, hr]
theorem wrap_i64_id (h0 : -9223372036854775808 ≤ r) (h1 : r ≤ 9223372036854775807) : IntKind.i64.wrap r = r := by
  have := IntWalk.i64_in r ⟨h0, h1⟩
  exact this
theorem y_add (hx : ev fr x = some (.int .i64 i)) (hy : ev fr y = some (.int .i64 j)) (h : -9223372036854775808 ≤ i + j ∧ i + j ≤ 9223372036854775807) : Yv P n I fr l ⟨d, .binOp .add t x y t', ty, p, af, g⟩ (.int .i64 (i + j)) :=
  y_int hx hy fun w => by simp [binOp, Op.intArith, wrap_i64_id h.1 h.2]
theorem y_sub (hx : ev fr x = some (.int .i64 i)) (hy : ev fr y = some (.int .i64 j)) (h : -9223372036854775808 ≤ i - j ∧ i - j ≤ 9223372036854775807) : Yv P n I fr l ⟨d, .binOp .sub t x y t', ty, p, af, g⟩ (.int .i64 (i - j)) :=
  y_int hx hy fun w => by simp [binOp, Op.intArith, wrap_i64_id h.1 h.2]
theorem y_mul (hx : ev fr x = some (.int .i64 i)) (hy : ev fr y = some (.int .i64 j)) (h : -9223372036854775808 ≤ i * j ∧ i * j ≤ 9223372036854775807) : Yv P n I fr l ⟨d, .binOp .mul t x y t', ty, p, af, g⟩ (.int .i64 (i * j)) :=
  y_int hx hy fun w => by simp [binOp, Op.intArith, wrap_i64_id h.1 h.2]
theorem y_addw (hx : ev fr x = some (.int k i)) (hy : ev fr y = some (.int k j)) : Yv P n I fr l ⟨d, .binOp .add t x y t', ty, p, af, g⟩ (.int k (k.wrap (i + j))) :=
  y_int hx hy fun w => by simp [binOp, Op.intArith]
theorem y_subw (hx : ev fr x = some (.int k i)) (hy : ev fr y = some (.int k j)) : Yv P n I fr l ⟨d, .binOp .sub t x y t', ty, p, af, g⟩ (.int k (k.wrap (i - j))) :=
  y_int hx hy fun w => by simp [binOp, Op.intArith]
theorem y_mulw (hx : ev fr x = some (.int k i)) (hy : ev fr y = some (.int k j)) : Yv P n I fr l ⟨d, .binOp .mul t x y t', ty, p, af, g⟩ (.int k (k.wrap (i * j))) :=
  y_int hx hy fun w => by simp [binOp, Op.intArith]
theorem y_quo (hx : ev fr x = some (.int .i64 i)) (hy : ev fr y = some (.int .i64 j)) (h : 0 ≤ i ∧ 0 < j ∧ i ≤ 9223372036854775807) : Yv P n I fr l ⟨d, .binOp .quo t x y t', ty, p, af, g⟩ (.int .i64 (i / j)) :=
  y_int hx hy fun w => by
    have h1 : i.tdiv j = i / j := Int.tdiv_eq_ediv_of_nonneg h.1
    have h2 : 0 ≤ i / j := Int.ediv_nonneg h.1 (by omega)
    have h3 : i / j ≤ i := Int.ediv_le_self j h.1
    have h4 : ¬ j = 0 := by omega
    simp [binOp, Op.intDiv, h4, h1, wrap_i64_id (r := i / j) (by omega) (by omega)]
theorem y_quot (hx : ev fr x = some (.int .i64 i)) (hy : ev fr y = some (.int .i64 j)) (h : 0 < j) (hr : i.tdiv j = r ∧ -9223372036854775808 ≤ r ∧ r ≤ 9223372036854775807) : Yv P n I fr l ⟨d, .binOp .quo t x y t', ty, p, af, g⟩ (.int .i64 r) :=
  y_int hx hy fun w => by
    have h4 : ¬ j = 0 := by omega
    simp [binOp, Op.intDiv, h4, hr.1, wrap_i64_id (r := r) hr.2.1 hr.2.2]
theorem y_rem (hx : ev fr x = some (.int .i64 i)) (hy : ev fr y = some (.int .i64 j)) (h : 0 ≤ i ∧ 0 < j) : Yv P n I fr l ⟨d, .binOp .rem t x y t', ty, p, af, g⟩ (.int .i64 (i % j)) :=
  y_int hx hy fun w => by
    have h1 : i.tmod j = i % j := Int.tmod_eq_emod_of_nonneg h.1
    have h4 : ¬ j = 0 := by omega
    simp [binOp, Op.intDiv, h4, h1]
theorem y_lt (hx : ev fr x = some (.int k i)) (hy : ev fr y = some (.int k j)) : Yv P n I fr l ⟨d, .binOp .lss t x y t', ty, p, af, g⟩ (.bool (decide (i < j))) := y_int hx hy fun w => by simp [binOp, Op.intCmp]
theorem y_le (hx : ev fr x = some (.int k i)) (hy : ev fr y = some (.int k j)) : Yv P n I fr l ⟨d, .binOp .leq t x y t', ty, p, af, g⟩ (.bool (decide (i ≤ j))) := y_int hx hy fun w => by simp [binOp, Op.intCmp]
theorem y_gt (hx : ev fr x = some (.int k i)) (hy : ev fr y = some (.int k j)) : Yv P n I fr l ⟨d, .binOp .gtr t x y t', ty, p, af, g⟩ (.bool (decide (j < i))) := y_int hx hy fun w => by simp [binOp, Op.intCmp]
theorem y_ge (hx : ev fr x = some (.int k i)) (hy : ev fr y = some (.int k j)) : Yv P n I fr l ⟨d, .binOp .geq t x y t', ty, p, af, g⟩ (.bool (decide (j ≤ i))) := y_int hx hy fun w => by simp [binOp, Op.intCmp]
theorem y_eq (hx : ev fr x = some (.int k i)) (hy : ev fr y = some (.int k j)) : Yv P n I fr l ⟨d, .binOp .eql t x y t', ty, p, af, g⟩ (.bool (decide (i = j))) := y_int hx hy fun w => by simp [binOp, Op.intCmp]; rfl
theorem y_ne (hx : ev fr x = some (.int k i)) (hy : ev fr y = some (.int k j)) : Yv P n I fr l ⟨d, .binOp .neq t x y t', ty, p, af, g⟩ (.bool (!decide (i = j))) := y_int hx hy fun w => by simp [binOp, Op.intCmp]; rfl
end ints
section strs
variable {a b : ByteArray} {t' : TypeId}
theorem ba_eq (a b : ByteArray) : (a.toList == b.toList) = decide (a = b) := by
  by_cases h : a = b
  · subst h; simp
  · have : a.toList ≠ b.toList := fun e => h (by
      rw [ByteArray.toList_eq, ByteArray.toList_eq] at e
      exact ByteArray.ext (Array.toList_inj.mp e))
    simp [h, this]
theorem y_str {op : BinOp} {v : Value} (hx : ev fr x = some (.string a)) (hy : ev fr y = some (.string b)) (hr : ∀ w, (binOp op t (.string a) (.string b)).run P w = .ok v w) : Yv P n I fr l ⟨d, .binOp op t x y t', ty, p, af, g⟩ v := fun c w ha _ => by
  have : (eqGuard op t x y (.string a) (.string b)).run P w = .ok () w := by unfold eqGuard; split <;> simp
  simp [execOp, ha.eval hx, ha.eval hy, this, hr]
theorem y_seq (hx : ev fr x = some (.string a)) (hy : ev fr y = some (.string b)) : Yv P n I fr l ⟨d, .binOp .eql t x y t', ty, p, af, g⟩ (.bool (decide (a = b))) := y_str hx hy fun w => by simp [binOp, Op.stringOp, ba_eq]
theorem y_sne (hx : ev fr x = some (.string a)) (hy : ev fr y = some (.string b)) : Yv P n I fr l ⟨d, .binOp .neq t x y t', ty, p, af, g⟩ (.bool (!decide (a = b))) := y_str hx hy fun w => by simp [binOp, Op.stringOp, ba_eq]
theorem y_cat (hx : ev fr x = some (.string a)) (hy : ev fr y = some (.string b)) (h : a.size + b.size ≤ 9223372036854775807) : Yv P n I fr l ⟨d, .binOp .add t x y t', ty, p, af, g⟩ (.string (a ++ b)) := y_str hx hy fun w => by
  simp only [binOp]; exact run_string_add_sum w a b h
end strs
theorem y_not {b : Bool} {t : TypeId} (hx : ev fr x = some (.bool b)) : Yv P n I fr l ⟨d, .unOp .not t x, ty, p, af, g⟩ (.bool (!b)) := fun a w ha _ => by simp [execOp, ha.eval hx, Op.unary]
theorem y_extract {vs : Array Value} {i : Nat} (hx : ev fr x = some (.tuple vs)) (h : vs[i]? = some v) : Yv P n I fr l ⟨d, .extract x i, ty, p, af, g⟩ v := fun a w ha _ => by simp [execOp, ha.eval hx, Instr.extract, h]
theorem y_nil {b : Addr} (hx : ev fr x = some (.pointer (some b))) : Yv P n I fr l ⟨d, .nilCheck x, ty, p, af, g⟩ (.pointer (some b)) := fun a w ha _ => by simp [execOp, ha.eval hx]
theorem y_lens (T : Tab P) {e : TypeId} {a0 : Option Addr} {k c : Nat} (ht : T.sh t = .slice e) (hx : ev fr x = some (.slice a0 k c)) : Yv P n I fr l ⟨d, .call ⟨.builtin .len, #[x], #[t]⟩, ty, p, af, g⟩ (.int .i64 k) := fun a w ha _ => by
  simp [execOp, resolve, invoke, builtin, ha.eval hx, Builtin.len_, run_underlying (T.und_slice ht), goInt]
theorem y_lenstr (T : Tab P) {s : ByteArray} (ht : T.sh t = .str) (hx : ev fr x = some (.string s)) : Yv P n I fr l ⟨d, .call ⟨.builtin .len, #[x], #[t]⟩, ty, p, af, g⟩ (.int .i64 s.size) := fun a w ha _ => by
  simp [execOp, resolve, invoke, builtin, ha.eval hx, Builtin.len_, run_underlying (T.und_str ht), goInt]
theorem y_mkif (T : Tab P) (ht : (match T.sh t with | .iface => false | .other => false | _ => true) = true) (hx : ev fr x = some v) : Yv P n I fr l ⟨d, .makeInterface t x, ty, p, af, g⟩ (.iface t v) := fun a w ha _ => by
  have hk := T.sh_ok t
  have : (Instr.makeInterface t v).run P w = .ok (.iface t v) w := by
    unfold Instr.makeInterface
    rw [Sem.run_bind]
    generalize T.sh t = s at ht hk
    cases s <;> simp only [ShOk] at hk <;> first
      | (cases ht; done)
      | (rw [run_underlying hk]; rfl)
      | (cases hu : P.underlying t with
         | none => rw [hu] at hk; cases hk
         | some d => rw [hu] at hk; cases d <;> first | (cases hk; done) | (rw [run_underlying hu]; rfl))
  simp [execOp, ha.eval hx, this]
theorem y_tas (T : Tab P) {tx : TypeId} (ht : (match T.sh t with | .iface => false | .other => false | _ => true) = true) (hx : ev fr x = some (.iface t v)) : Yv P n I fr l ⟨d, .typeAssert x tx t false, ty, p, af, g⟩ v := fun a w ha _ => by
  have hk := T.sh_ok t
  have : (Instr.typeAssert (.iface t v) tx t false).run P w = .ok v w := by
    unfold Instr.typeAssert
    rw [Sem.run_bind]
    generalize T.sh t = s at ht hk
    cases s <;> simp only [ShOk] at hk <;> first
      | (cases ht; done)
      | (rw [run_underlying hk]; simp; done)
      | (cases hu : P.underlying t with
         | none => rw [hu] at hk; cases hk
         | some d => rw [hu] at hk; cases d <;> first | (cases hk; done) | (rw [run_underlying hu]; simp; done))
  simp [execOp, ha.eval hx, this]
theorem y_mkfn {f : Fn} {first cap : Array Operand} {vs us : List Value} (h1 : evs fr first.toList = some vs) (h2 : evs fr cap.toList = some us) : Yv P n I fr l ⟨d, .makeFunc f first cap, ty, p, af, g⟩ (.func f vs.toArray us.toArray) := fun a w ha _ => by
  have e1 : first.map a.eval = vs.toArray := by rw [← ha.evals h1, ← List.map_toArray]
  have e2 : cap.map a.eval = us.toArray := by rw [← ha.evals h2, ← List.map_toArray]
  simp [execOp, Instr.makeFunc, e1, e2]

/-! ### Addresses and loads -/
/-- The address of a part of an element of a row. -/
def eptr (v : Value) (sz i j : Nat) : Value :=
  match v with
  | .slice (some a) _ _ => .pointer (some ⟨a.block, a.off + (i * sz + j), none⟩)
  | _ => .pointer none
/-- A slice value that has an address without a spot. -/
def Sl (v : Value) (k : Nat) : Prop := ∃ b o c, v = .slice (some ⟨b, o, none⟩) k c
theorem y_fa (T : Tab P) {b o f off : Nat} {ft : TypeId} {fs : List (Nat × TypeId)} {zz : List Value} {bb : Nat} (hs : T.sh t = .st fs) (hf : fs[f]? = some (off, ft)) (hz : T.info ft = some (zz, bb)) (hz0 : zz.isEmpty = false) (hx : ev fr x = some (.pointer (some ⟨b, o, none⟩))) :
    Yv P n I fr l ⟨d, .fieldAddr t x f, ty, p, af, g⟩ (.pointer (some ⟨b, o + off, none⟩)) := fun a w ha _ => by
  obtain ⟨fields, hu, hfs⟩ := T.struct_of hs
  have h1 : ∃ fd, fields[f]? = some fd ∧ fd.offset = off ∧ fd.type = ft := by
    rw [← hfs, List.getElem?_map, Array.getElem?_toList] at hf
    cases hq : fields[f]? with
    | none => rw [hq] at hf; cases hf
    | some fd => rw [hq] at hf; exact ⟨fd, rfl, by cases hf; exact ⟨rfl, rfl⟩⟩
  obtain ⟨fd, hfd, ho, hty⟩ := h1
  have h2 : (sizeOf fd.type).run P w = .ok zz.length w := by rw [hty]; exact T.sizeOf_ok hz
  have h3 : ¬ zz.length = 0 := by cases zz with | nil => cases hz0 | cons _ _ => simp
  simp [execOp, ha.eval hx, Instr.fieldAt, run_underlying hu, hfd, Instr.sureAddr, fieldPlace, h2, h3, add_pl, ho]
theorem y_fae (T : Tab P) {sz i j f off k : Nat} {ft : TypeId} {fs : List (Nat × TypeId)} {zz : List Value} {bb : Nat} (hv : Sl v k) (hs : T.sh t = .st fs) (hf : fs[f]? = some (off, ft)) (hz : T.info ft = some (zz, bb)) (hz0 : zz.isEmpty = false) (hx : ev fr x = some (eptr v sz i j)) :
    Yv P n I fr l ⟨d, .fieldAddr t x f, ty, p, af, g⟩ (eptr v sz i (j + off)) := by
  obtain ⟨b, o, c, rfl⟩ := hv
  have := y_fa (P := P) (n := n) (I := I) (l := l) (d := d) (ty := ty) (p := p) (af := af) (g := g) T hs hf hz hz0 (show ev fr x = some (.pointer (some ⟨b, o + (i * sz + j), none⟩)) from hx)
  simpa [eptr, Nat.add_assoc] using this
/-- Reading a variable of type t at p gives v. -/
def Ld (P : Program) (I : Imm) (l : List Itm) (t : TypeId) (p v : Value) : Prop := ∀ w, St I w l → (Instr.loadAt t p).run P w = .ok v w
theorem y_load (hx : ev fr x = some u) (h : Ld P I l t u v) : Yv P n I fr l ⟨d, .load t x, ty, p, af, g⟩ v := fun a w ha hw => by
  simp [execOp, ha.eval hx, h w hw]
/-- The cells from an address on. -/
def Rd (I : Imm) (l : List Itm) (b off : Nat) (vs : List Value) : Prop := ∀ w, St I w l → ∀ j v, vs[j]? = some v → w.cell? ⟨b, off + j, none⟩ = some v
theorem ld_cell (T : Tab P) {b off : Nat} (ht : (T.sh t).plain = true) (h : Rd I l b off [v]) : Ld P I l t (.pointer (some ⟨b, off, none⟩)) v := fun w hw => by
  have hc : w.cell? ⟨b, off, none⟩ = some v := h w hw 0 v rfl
  simp [Instr.loadAt, Instr.sureAddr, loadVar, T.isAgg_plain ht, load, Sem.run, hc]
theorem ld_agg (T : Tab P) {b off bb : Nat} {zz vs : List Value} (ht : (T.sh t).agg = true) (hz : T.info t = some (zz, bb)) (hl : Nat.beq vs.length zz.length = true) (h : Rd I l b off vs) : Ld P I l t (.pointer (some ⟨b, off, none⟩)) (.agg vs.toArray) := fun w hw => by
  have hl' := Nat.eq_of_beq_eq_true hl
  have hc := run_loadCells_list (P := P) w ⟨b, off, none⟩ vs (fun j v hj => by rw [add_pl]; exact h w hw j v hj)
  simp [Instr.loadAt, Instr.sureAddr, loadVar, T.isAgg_agg ht, T.sizeOf_ok hz, ← hl', hc]
inductive At (x : Itm) : List Itm → Prop where
  | here {l : List Itm} : At x (x :: l)
  | there {y : Itm} {l : List Itm} (h : At x l) : At x (y :: l)
theorem At.mem {x : Itm} {l : List Itm} (h : At x l) : x ∈ l := by
  induction h with
  | here => exact List.mem_cons_self ..
  | there _ ih => exact List.mem_cons_of_mem _ ih
theorem rd_heap {w : World} {b off : Nat} {c : Array Value} {E : TypeId} {f : Nat × Nat} {vs : List Value} (hb : w.heap[b]? = some (.cells c E f)) (h : ∀ j v, vs[j]? = some v → c[off + j]? = some v) : ∀ j v, vs[j]? = some v → w.cell? ⟨b, off + j, none⟩ = some v := fun j v hj => by
  rw [cell_of_row w b (off + j) c E f hb]; exact h j v hj
theorem rd_one {b off : Nat} {c : Array Value} {E : TypeId} {f : Nat × Nat} (hi : At (blk b (.cells c E f)) l) (h : c[off]? = some v) : Rd I l b off [v] := fun w hw => by
  refine rd_heap (c := c) (E := E) (f := f) (hw.ok _ hi.mem) (fun j u hj => ?_)
  cases j with
  | zero => cases hj; exact h
  | succ j => simp at hj
theorem rd_all {b : Nat} {c : Array Value} {E : TypeId} {f : Nat × Nat} (hi : At (blk b (.cells c E f)) l) : Rd I l b 0 c.toList := fun w hw => by
  refine rd_heap (c := c) (E := E) (f := f) (hw.ok _ hi.mem) (fun j u hj => ?_)
  rw [Nat.zero_add]; simpa using hj
theorem rd_part {b off : Nat} {c : Array Value} {E : TypeId} {f : Nat × Nat} {vs : List Value} (hi : At (blk b (.cells c E f)) l) (h : (c.toList.drop off).take vs.length = vs) : Rd I l b off vs := fun w hw => by
  refine rd_heap (c := c) (E := E) (f := f) (hw.ok _ hi.mem) (fun j u hj => ?_)
  rw [← h, List.getElem?_take] at hj
  split at hj
  · rw [List.getElem?_drop] at hj; simpa using hj
  · cases hj
end yields
end Go.Proofs.YtfnmcpgajjkemaaDoor.SW
