/- The symbolic walk, part 8: how Lean types stand in cells; slices cut; what a list has at a place. -/
import Derived.Test.YtfnmcpgajjkemaaDoorFun
namespace Go.Proofs.YtfnmcpgajjkemaaDoor.SW
open Go Go.RowKit

def eInt : Enc Int := ⟨1, fun x => [.int .i64 x], fun _ => rfl, Nat.one_pos, fun x v h => by simp at h; subst h; rfl⟩
def eBool : Enc Bool := ⟨1, fun x => [.bool x], fun _ => rfl, Nat.one_pos, fun x v h => by simp at h; subst h; rfl⟩
def ePair : Enc (Int × Int) := ⟨2, fun x => [.int .i64 x.1, .int .i64 x.2], fun _ => rfl, by decide, fun x v h => by simp at h; rcases h with rfl | rfl <;> rfl⟩
/-- One value in one cell, as it is. -/
def eVal : Enc { v : Value // v.oneCell' = true } := ⟨1, fun x => [x.1], fun _ => rfl, Nat.one_pos, fun x v h => by simp at h; subst h; exact x.2⟩

/-! ### Slices of slices -/
def cutv (sz : Nat) (v : Value) (i j : Nat) : Value := match v with
  | .slice a _ c => .slice (if c = i then a else a.map (·.add (i * sz))) (j - i) (c - i)
  | v => v
def bd (fr : List (Nat × Value)) : Option Operand → Int → Option Int
  | none, d => some d
  | some x, _ => match ev fr x with
    | some (.int _ i) => some i
    | _ => none
theorem cells_one {v : Value} (h : v.oneCell' = true) : v.cells = #[v] := by
  cases v <;> first | rfl | (cases h)
theorem cutv_one {sz i j : Nat} {v : Value} (h : v.oneCell' = true) : (cutv sz v i j).oneCell' = true := by
  cases v <;> first | exact h | rfl
section
variable {P : Program} {Q : Exit → Act → World → Prop} {n : Nat} {I : Imm} {fr : List (Nat × Value)} {l : List Itm} {K : Act → World → Prop} {d : Option Tmp} {ty t : TypeId} {p : String} {af : Array Edge} {g : Option (Nat × Bool)} {x : Operand} {v : Value}
variable {α : Type} {e : Enc α} {E : TypeId} {xs : List α} {lo hi : Option Operand} {i j : Int}
theorem bd_run {o : Option Operand} {dd r : Int} (h : bd fr o dd = some r) {a : Act} (ha : Fr a n fr) : (o = none ∧ r = dd) ∨ ∃ x k, o = some x ∧ a.eval x = .int k r := by
  cases o with
  | none => exact .inl ⟨rfl, (Option.some.inj h).symm⟩
  | some x =>
    simp only [bd] at h
    cases hx : ev fr x with
    | none => rw [hx] at h; cases h
    | some v => rw [hx] at h; cases v <;> first | (cases h; done) | (cases h; exact .inr ⟨x, _, rfl, ha.eval hx⟩)
theorem run_sb {w : World} {b : Bool} {len cap : Nat} {low high : Option Value} {i j : Int} (hl : (low = none ∧ i = 0) ∨ ∃ k, low = some (.int k i)) (hh : (high = none ∧ j = (len : Int)) ∨ ∃ k, high = some (.int k j)) (h : 0 ≤ i ∧ i ≤ j ∧ j ≤ cap) :
    (Instr.sliceBounds b len cap low high none).run P w = .ok (i.toNat, j.toNat, cap) w := by
  have h2 : 0 ≤ j := by omega
  have h4 : (j.toNat : Int) = j := by omega
  rcases hl with ⟨rfl, e⟩ | ⟨k1, rfl⟩ <;> rcases hh with ⟨rfl, e'⟩ | ⟨k2, rfl⟩
  · subst e e'; simp [Instr.sliceBounds]
  · subst e; simp [Instr.sliceBounds, Instr.sliceBound, asIntOf, h2, h.2.2]
  · subst e'; simp [Instr.sliceBounds, Instr.sliceBound, asIntOf, h.1, h.2.1]
  · simp [Instr.sliceBounds, Instr.sliceBound, asIntOf, h.1, h.2.1, h2, h.2.2, h4]
theorem bd_map {o : Option Operand} {dd r : Int} (h : bd fr o dd = some r) {a : Act} (ha : Fr a n fr) : (o.map a.eval = none ∧ r = dd) ∨ ∃ k, o.map a.eval = some (.int k r) := by
  rcases bd_run h ha with ⟨rfl, e⟩ | ⟨x, k, rfl, e⟩
  · exact .inl ⟨rfl, e⟩
  · exact .inr ⟨k, by rw [Option.map_some, e]⟩
theorem y_slv (T : Tab P) {a0 : Option Addr} {k c : Nat} {zz : List Value} {bb : Nat} (ht : T.sh t = .slice E) (hz : T.info E = some (zz, bb)) (hx : ev fr x = some (.slice a0 k c)) (hl : bd fr lo 0 = some i) (hh : bd fr hi k = some j) (h : 0 ≤ i ∧ i ≤ j ∧ j ≤ c) :
    Yv P n I fr l ⟨d, .slice t x lo hi none, ty, p, af, g⟩ (cutv zz.length (.slice a0 k c) i.toNat j.toNat) := fun a w ha _ => by
  have h1 := run_sb (P := P) (w := w) (b := true) (len := k) (cap := c) (bd_map hl ha) (bd_map hh ha) h
  simp [execOp, ha.eval hx, Instr.sliceAt, Instr.slice, run_underlying (T.und_slice ht), h1, T.sizeOf_ok hz, cutv]
theorem y_slstr (T : Tab P) {s : ByteArray} (ht : T.sh t = .str) (hx : ev fr x = some (.string s)) (hl : bd fr lo 0 = some i) (hh : bd fr hi s.size = some j) (h : 0 ≤ i ∧ i ≤ j ∧ j ≤ s.size) :
    Yv P n I fr l ⟨d, .slice t x lo hi none, ty, p, af, g⟩ (.string (s.extract i.toNat j.toNat)) := fun a w ha _ => by
  have h1 := run_sb (P := P) (w := w) (b := false) (len := s.size) (cap := s.size) (bd_map hl ha) (bd_map hh ha) h
  simp [execOp, ha.eval hx, Instr.sliceAt, Instr.slice, run_underlying (T.und_str ht), h1]
/-- A slice value of a length. -/
def Sc (v : Value) (k : Nat) : Prop := ∃ a c, v = .slice a k c ∧ k ≤ c
theorem RowI.sc (hr : RowI e I v xs) : Sc v xs.length := by obtain ⟨a0, c, rfl, hc, _⟩ := hr; exact ⟨a0, c, rfl, hc⟩
theorem y_lenc (T : Tab P) {k : Nat} (hs : Sc v k) (ht : T.sh t = .slice E) (hx : ev fr x = some v) : Yv P n I fr l ⟨d, .call ⟨.builtin .len, #[x], #[t]⟩, ty, p, af, g⟩ (.int .i64 k) := by
  obtain ⟨a0, c, rfl, _⟩ := hs
  exact y_lens T ht hx
theorem y_slc (T : Tab P) {k : Nat} {zz : List Value} {bb : Nat} (hs : Sc v k) (ht : T.sh t = .slice E) (hz : T.info E = some (zz, bb)) (hx : ev fr x = some v) (hl : bd fr lo 0 = some i) (hh : bd fr hi k = some j) (h : 0 ≤ i ∧ i ≤ j ∧ j ≤ k) :
    Yv P n I fr l ⟨d, .slice t x lo hi none, ty, p, af, g⟩ (cutv zz.length v i.toNat j.toNat) := by
  obtain ⟨a0, c, rfl, hc⟩ := hs
  exact y_slv T ht hz hx hl hh ⟨h.1, h.2.1, by omega⟩
theorem y_sli (T : Tab P) {I0 : Imm} {zz : List Value} {bb : Nat} (hr : RowI e I0 v xs) (ht : T.sh t = .slice E) (hz : T.info E = some (zz, bb)) (hx : ev fr x = some v) (hl : bd fr lo 0 = some i) (hh : bd fr hi xs.length = some j) (h : 0 ≤ i ∧ i ≤ j ∧ j ≤ xs.length) :
    Yv P n I fr l ⟨d, .slice t x lo hi none, ty, p, af, g⟩ (cutv zz.length v i.toNat j.toNat) := by
  obtain ⟨a0, c, rfl, hc, _⟩ := hr
  exact y_slv T ht hz hx hl hh ⟨h.1, h.2.1, by omega⟩
theorem y_slr (T : Tab P) {zz : List Value} {bb : Nat} {E' : TypeId} (hat : At (row e E' v xs) l) (ht : T.sh t = .slice E) (hz : T.info E = some (zz, bb)) (hx : ev fr x = some v) (hl : bd fr lo 0 = some i) (hh : bd fr hi xs.length = some j) (h : 0 ≤ i ∧ i ≤ j ∧ j ≤ xs.length) :
    Yv P n I fr l ⟨d, .slice t x lo hi none, ty, p, af, g⟩ (cutv zz.length v i.toNat j.toNat) := fun a w ha hw => by
  have hr : RowOk _ v E' e.sz xs.length _ := hw.ok _ hat.mem
  rcases hr.2 with ⟨rfl, h0⟩ | ⟨b, cap, cur, rfl, _, h1, _⟩
  · have hj : j = 0 := by omega
    have hi : i = 0 := by omega
    subst hj hi
    rw [h0] at hh
    exact y_slv (I := I) (l := l) T ht hz hx hl hh ⟨by omega, by omega, by omega⟩ a w ha hw
  · exact y_slv (I := I) (l := l) T ht hz hx hl hh ⟨h.1, h.2.1, by omega⟩ a w ha hw
theorem RowI.cut (hr : RowI e I v xs) {i j : Nat} (h : i ≤ j ∧ j ≤ xs.length) : RowI e I (cutv e.sz v i j) ((xs.take j).drop i) := by
  obtain ⟨a, c, rfl, hc, hm, h4⟩ := hr
  have hlen : ((xs.take j).drop i).length = j - i := by simp; omega
  refine ⟨_, c - i, by simp only [cutv, hlen]; rfl, by omega, ⟨by omega, fun hn => ?_⟩, fun hne => ?_⟩
  · cases a with
    | none => have := hm.2 rfl; omega
    | some a => by_cases hci : c = i <;> simp [hci] at hn
  · have hij : i < j := by
      have : ((xs.take j).drop i).length ≠ 0 := fun h0 => hne (List.eq_nil_of_length_eq_zero h0)
      omega
    obtain ⟨b, off, cur, E, f, rfl, e2, e3⟩ := h4 (by intro h0; subst h0; simp at h; omega)
    have hci : ¬ c = i := by omega
    refine ⟨b, off + i * e.sz, cur, E, f, by simp [hci, add_pl], e2, fun q u hq => ?_⟩
    have hsplit : encs e xs = encs e (xs.take i) ++ (encs e ((xs.take j).drop i) ++ encs e (xs.drop j)) := by
      rw [← encs_append, ← encs_append]
      congr 1
      have : xs.take i = (xs.take j).take i := by rw [List.take_take]; congr 1; omega
      rw [this, ← List.append_assoc, List.take_append_drop, List.take_append_drop]
    have h1 : (encs e (xs.take i)).length = i * e.sz := by rw [encs_length, List.length_take]; congr 1; omega
    have hq' : q < (encs e ((xs.take j).drop i)).length := (List.getElem?_eq_some_iff.1 hq).1
    have := e3 (i * e.sz + q) u (by
      rw [hsplit, List.getElem?_append_right (by omega), h1, Nat.add_sub_cancel_left, List.getElem?_append_left hq']; exact hq)
    rw [Nat.add_assoc]; exact this
/-- A row is cut at its end. -/
theorem St.cutrow {w : World} {j : Nat} (hw : St I w (row e E v xs :: l)) (h : j ≤ xs.length) : St I w (row e E (cutv e.sz v 0 j) (xs.take j) :: l) := by
  have hr : RowOk _ v E e.sz xs.length _ := hw.ok _ (List.mem_cons_self ..)
  have hfp : (row e E (cutv e.sz v 0 j) (xs.take j)).fp = (row e E v xs).fp := by
    rcases hr.2 with ⟨rfl, h0⟩ | ⟨b, cap, cur, rfl, _⟩
    · simp [row, cutv, Value.ownBlock]
    · by_cases hc : cap = 0 <;> simp [row, cutv, Value.ownBlock, hc, add_pl]
  refine ⟨hw.os, hw.tape, hw.output, hw.imm, ?_, ?_, ?_, fun it hi => ?_⟩
  · have := hw.nodup; rw [fps_cons] at this ⊢; rw [hfp]; exact this
  · have := hw.apart; rw [fps_cons] at this ⊢; rw [hfp]; exact this
  · have := hw.bound; rw [fps_cons] at this ⊢; rw [hfp]; exact this
  · rcases List.mem_cons.1 hi with rfl | hi
    · have hlen : (xs.take j).length = j := by simp; omega
      show RowOk _ _ E e.sz (xs.take j).length _
      refine ⟨by rw [encs_length], ?_⟩
      rcases hr.2 with ⟨rfl, h0⟩ | ⟨b, cap, cur, rfl, hb, h1, h2, h3, h4⟩
      · left; simp [cutv]; omega
      · right
        refine ⟨b, cap, cur, by by_cases hc : cap = 0 <;> simp [cutv, hc, add_pl, hlen], hb, by omega, h2, h3, ?_⟩
        have h5 : encs e xs = encs e (xs.take j) ++ encs e (xs.drop j) := by rw [← encs_append, List.take_append_drop]
        have h6 : (encs e (xs.take j)).length = j * e.sz := by rw [encs_length, hlen]
        rw [hlen]
        have h7 : cur.toList.take (j * e.sz) = (cur.toList.take (xs.length * e.sz)).take (j * e.sz) := by
          rw [List.take_take, Nat.min_eq_left (Nat.mul_le_mul_right _ h)]
        rw [h7, h4, h5, ← h6, List.take_left']
        rfl
    · exact hw.ok it (List.mem_cons_of_mem _ hi)
theorem K_cutrow {j : Nat} (h : j ≤ xs.length) (hk : KK n I fr (row e E (cutv e.sz v 0 j) (xs.take j) :: l) K) : KK n I fr (row e E v xs :: l) K := fun a w ha hw => hk a w ha (hw.cutrow h)
theorem y_ixN {P' : Program} {fr' : List (Nat × Value)} {y : Operand} {zz : List Value} {ii : Int} (i : Nat) (hx : Yv P' n I fr' l ⟨d, .indexAddr t x y, ty, p, af, g⟩ (eptr v zz.length ii.toNat 0)) (h : ii = (i : Int)) :
    Yv P' n I fr' l ⟨d, .indexAddr t x y, ty, p, af, g⟩ (eptr v zz.length i 0) := by subst h; exact hx
theorem y_slN {P' : Program} {fr' : List (Nat × Value)} {sz : Nat} {i' j' : Int} (i j : Nat) (hx : Yv P' n I fr' l ⟨d, .slice t x lo hi none, ty, p, af, g⟩ (cutv sz v i'.toNat j'.toNat)) (h : i' = (i : Int) ∧ j' = (j : Int)) :
    Yv P' n I fr' l ⟨d, .slice t x lo hi none, ty, p, af, g⟩ (cutv sz v i j) := by obtain ⟨rfl, rfl⟩ := h; exact hx
/-- The form of a row's value. -/
theorem K_form (hat : At (row e E v xs) l) (hn : 0 < xs.length) (h : ∀ b cap, v = .slice (some ⟨b, 0, none⟩) xs.length cap → KK n I fr l K) : KK n I fr l K := fun a w ha hw => by
  obtain ⟨b, cap, e1⟩ := row_form hw hat hn
  exact h b cap e1 a w ha hw
theorem K_sc (hat : At (row e E v xs) l) (h : Sc v xs.length → KK n I fr l K) : KK n I fr l K := fun a w ha hw => by
  have hr : RowOk _ v E e.sz xs.length _ := hw.ok _ hat.mem
  refine h ?_ a w ha hw
  rcases hr.2 with ⟨rfl, h0⟩ | ⟨b, cap, cur, rfl, _, h1, _⟩
  · exact ⟨none, 0, by rw [h0], by omega⟩
  · exact ⟨_, _, rfl, h1⟩
/-- What an owned slice's value is. -/
theorem K_ocv (hat : At (row e E v xs) l) (h : v.oneCell' = true → KK n I fr l K) : KK n I fr l K := fun a w ha hw => by
  have hr : RowOk _ v E e.sz xs.length _ := hw.ok _ hat.mem
  refine h ?_ a w ha hw
  rcases hr.2 with ⟨rfl, h0⟩ | ⟨b, cap, cur, rfl, _⟩ <;> rfl
theorem K_sl (hat : At (row e E v xs) l) (hn : 0 < xs.length) (h : Sl v xs.length → KK n I fr l K) : KK n I fr l K := fun a w ha hw => by
  obtain ⟨b, cap, e1⟩ := row_form hw hat hn
  exact h ⟨b, 0, _, e1⟩ a w ha hw
end
/-! ### Loops over states of the prover's own -/
section loops
variable {P : Program} {Q : Exit → Act → World → Prop} {n : Nat} {I : Imm} {fr : List (Nat × Value)} {l : List Itm}
/-- Behind a round: a state that is less. -/
def Lp {σ : Type} (n : Nat) (J : σ → Imm) (F : σ → List (Nat × Value)) (L : σ → List Itm) (Pr : σ → Prop) (μ : σ → Nat) (s : σ) (a : Act) (w : World) : Prop :=
  ∃ s', (Pr s' ∧ Fr a n (F s') ∧ St (J s') w (L s')) ∧ μ s' < μ s
theorem K_lp {σ : Type} {c : Code} (J : σ → Imm) (F : σ → List (Nat × Value)) (L : σ → List Itm) (Pr : σ → Prop) (μ : σ → Nat) (s0 : σ) (hJ : I = J s0) (hF : FrLe fr (F s0)) (hL : l = L s0) (hP : Pr s0)
    (round : ∀ s, Pr s → KK n (J s) (F s) (L s) (c.wp P (Exit.then (Lp n J F L Pr μ s) Q))) : KK n I fr l ((Code.loop c).wp P Q) := by
  subst hJ hL
  exact K_loop (σ := σ) (fun s a w => Pr s ∧ Fr a n (F s) ∧ St (J s) w (L s)) μ (fun a w ha hw => ⟨s0, hP, ha.weak hF, hw⟩) (fun s a w h => round s h.1 a w h.2.1 h.2.2)
theorem K_back {σ : Type} {J : σ → Imm} {F : σ → List (Nat × Value)} {L : σ → List Itm} {Pr : σ → Prop} {μ : σ → Nat} {s : σ} (s' : σ) (hJ : I = J s') (hF : FrLe fr (F s')) (hL : l = L s') (hP : Pr s') (hμ : μ s' < μ s) : KK n I fr l (Lp n J F L Pr μ s) := fun a w ha hw =>
  ⟨s', ⟨hP, ha.weak hF, by rw [← hJ, ← hL]; exact hw⟩, hμ⟩
/-- Between two statements: a state of the prover's own. -/
def Mid {σ : Type} (n : Nat) (J : σ → Imm) (F : σ → List (Nat × Value)) (L : σ → List Itm) (Pr : σ → Prop) (a : Act) (w : World) : Prop := ∃ s, Pr s ∧ Fr a n (F s) ∧ St (J s) w (L s)
theorem K_mid {σ : Type} {J : σ → Imm} {F : σ → List (Nat × Value)} {L : σ → List Itm} {Pr : σ → Prop} (s : σ) (hJ : I = J s) (hF : FrLe fr (F s)) (hL : l = L s) (hP : Pr s) : KK n I fr l (Mid n J F L Pr) := fun a w ha hw =>
  ⟨s, hP, ha.weak hF, by rw [← hJ, ← hL]; exact hw⟩
theorem K_cutS {σ : Type} {x y : Code} (J : σ → Imm) (F : σ → List (Nat × Value)) (L : σ → List Itm) (Pr : σ → Prop) (h : KK n I fr l (x.wp P (Exit.then (Mid n J F L Pr) Q))) (k : ∀ s, Pr s → KK n (J s) (F s) (L s) (y.wp P Q)) : KK n I fr l ((Code.seq x y).wp P Q) :=
  K_cut _ h fun a w ⟨s, hP, ha, hw⟩ => k s hP a w ha hw
end loops
theorem run_wrap {P : Program} {w : World} (ats : Array TypeId) (t : TypeId) (a : Addr) (s m : ByteArray) : (Builtin.ssaWrapNilChk_ ats t #[.pointer (some a), .string s, .string m]).run P w = .ok (.pointer (some a)) w := rfl
theorem method_val {P : Program} {k : Nat} {tt e : TypeId} {a : Addr} {nm : String} {f : FuncId} (hi : ((P.info? tt).bind fun i => i.methods.find? (·.name == nm)).map (fun m => (m.path.toList, m.func)) = some ([], some (f, false))) (ht : P.underlying tt = some (.pointer e)) (w : World) :
    (Go.method (k + 1) tt (.pointer (some a)) nm).run P w = ((loadVar e a).run P w).andThen fun v w' => .ok (f, v) w' := by
  cases h1 : P.info? tt with
  | none => rw [h1] at hi; cases hi
  | some i =>
    rw [h1] at hi
    simp only [Option.bind_some] at hi
    cases h2 : i.methods.find? (·.name == nm) with
    | none => rw [h2] at hi; cases hi
    | some m =>
      rw [h2] at hi
      simp only [Option.map_some, Option.some.injEq, Prod.mk.injEq] at hi
      have h3 : m.path = #[] := by have := hi.1; simpa using this
      simp [Go.method, typeInfo, h1, h2, follow, hi.2, receiverAt, run_underlying ht, Place.get, h3, run_wrap, strVal, asAddr]
theorem method_valD {P : Program} {k : Nat} {tt e : TypeId} {a : Addr} {nm : String} {f : FuncId} (hi : ((P.info? tt).bind fun i => i.methods.find? (·.name == nm)).map (fun m => (m.path.toList, m.func)) = some ([], some (f, false))) (ht : P.underlying tt = some (.pointer e)) (w : World) :
    (Go.method (k + Made.depth) tt (.pointer (some a)) nm).run P w = ((loadVar e a).run P w).andThen fun v w' => .ok (f, v) w' := by
  have : k + Made.depth = (k + (Made.depth - 1)) + 1 := by have : 0 < Made.depth := by decide
                                                           omega
  rw [this]
  exact method_val hi ht w
theorem inv_val {P : Program} {I : Imm} {l : List Itm} {k : Nat} {tt e : TypeId} {b : Nat} {nm : String} {f : FuncId} {v : Value} (hm : ∀ w, (Go.method k tt (.pointer (some ⟨b, 0, none⟩)) nm).run P w = ((loadVar e ⟨b, 0, none⟩).run P w).andThen fun v w' => .ok (f, v) w')
    (hl : Ld P I l e (.pointer (some ⟨b, 0, none⟩)) v) : ∀ w, St I w l → (Go.method k tt (.pointer (some ⟨b, 0, none⟩)) nm).run P w = .ok (f, v) w := fun w hw => by
  have h1 := hl w hw
  rw [hm w]
  have h2 : (loadVar e ⟨b, 0, none⟩).run P w = .ok v w := by simpa [Instr.loadAt, Instr.sureAddr] using h1
  rw [h2]; rfl
/-- What an operation yields, said in other words. -/
theorem Yv.to {P : Program} {n : Nat} {I : Imm} {fr : List (Nat × Value)} {l : List Itm} {o : Oper} {v : Value} (v' : Value) (h : Yv P n I fr l o v) (e : v = v') : Yv P n I fr l o v' := e ▸ h
theorem all_succ {p : Nat → Prop} {k : Nat} (h : ∀ q, q < k → p q) (hk : p k) : ∀ q, q < k + 1 → p q := fun q hq => by
  rcases Nat.lt_succ_iff_lt_or_eq.1 hq with h1 | rfl
  · exact h q h1
  · exact hk
theorem getD_mem {α : Type} {xs : List α} {i : Nat} (d : α) (h : i < xs.length) : xs.getD i d ∈ xs := by
  rw [List.getD_eq_getElem?_getD, List.getElem?_eq_getElem h]; exact List.getElem_mem h
theorem get_of {α : Type} {xs : List α} {i : Nat} (d : α) (h : i < xs.length) : xs[i]? = some (xs.getD i d) := by simp [List.getD, h]
theorem get_int {α : Type} {xs : List α} {i : Int} (d : α) (h : 0 ≤ i ∧ i < xs.length) : xs[i.toNat]? = some (xs.getD i.toNat d) := get_of d (by omega)
end Go.Proofs.YtfnmcpgajjkemaaDoor.SW
