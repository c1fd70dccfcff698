/- The symbolic walk, part 7: append, make, giving a row to the immutable part; contracts, calls, a function's begin and end. -/
import Derived.Test.YtfnmcpgajjkemaaDoorCall
namespace Go.Proofs.YtfnmcpgajjkemaaDoor.SW
open Go Go.RowKit
section
variable {P : Program} {Q : Exit → Act → World → Prop} {n : Nat} {I J : Imm} {fr : List (Nat × Value)} {l l0 m : List Itm} {K : Act → World → Prop} {d : Nat} {ty t : TypeId} {p : String} {af : Array Edge} {g : Option (Nat × Bool)} {x y z : Operand} {v u : Value}
variable {α : Type} {e : Enc α} {E : TypeId} {xs ys : List α}

theorem rd_rowall {b cap : Nat} (ha : At (row e E (.slice (some ⟨b, 0, none⟩) xs.length cap) xs) l) : Rd I l b 0 (encs e xs) := fun w hw => by
  have hr : RowOk _ _ E e.sz xs.length _ := hw.ok _ ha.mem
  rcases hr.2 with ⟨h0, _⟩ | ⟨g, cap', cur, h0, hg, h1, h2, h3, h4⟩
  · cases h0
  · cases h0
    refine rd_heap hg (fun k q hk => ?_)
    rw [← h4, List.getElem?_take] at hk
    split at hk
    · simpa using hk
    · cases hk
/-- append of some elements that stand in cells. -/
theorem a_app (T : Tab P) {b o c : Nat} {zz : List Value} {bb : Nat} (ht : T.sh t = .slice E) (hz : T.info E = some (zz, bb)) (hzl : Nat.beq zz.length e.sz = true) (hx : ev fr x = some v) (hy : ev fr y = some (.slice (some ⟨b, o, none⟩) ys.length c)) (hsrc : Rd I l b o (encs e ys))
    (hb : (xs.length + ys.length) * bb ≤ 140737488355328 ∧ xs.length + ys.length ≤ 140737488355328) (hn : Nat.blt d n = true)
    (h : ∀ v', KK n I ((d, v') :: fr) (row e E v' (xs ++ ys) :: l) K) : Oa P Q n I fr (row e E v xs :: l) ⟨some d, .call ⟨.builtin .append, #[x, y], #[t, t]⟩, ty, p, af, g⟩ K := fun a w ha hw => by
  have hzl' := Nat.eq_of_beq_eq_true hzl
  obtain ⟨i, zv, hi, hzv, hcs, hsz, hby⟩ := T.info_ok E zz bb hz
  have hr : RowOk _ v E e.sz xs.length _ := hw.ok _ (List.mem_cons_self ..)
  obtain ⟨v', w', hrun, hown, hgrow, _, hat⟩ := run_append_own_at (P := P) w 0 t ty E i zv e.sz bb (T.und_slice ht) hi hzv (by omega) hby (by rw [← Array.length_toList, hcs]; omega) e.pos v xs.length (encs e xs) hr.own
    ⟨b, o, none⟩ ys.length c (encs e ys) (encs_length e ys) (fun j u hj => by rw [add_pl]; exact hsrc w hw.drop j u hj) (encs_one e ys) (by simp only [maxLen]; omega) hb.1 (Nat.zero_le _)
  refine upon_ok (v := v') (w' := w') ?_ ?_
  · simp [execOp, resolve, invoke, builtin, ha.eval hx, ha.eval hy, hrun]
  · refine h v' _ _ (ha.put hn _) ?_
    have hok' : RowOk (fun b => w'.heap[b]?) v' E e.sz (xs ++ ys).length (encs e (xs ++ ys)) := by
      rw [List.length_append, encs_append]; exact RowOk.of_own hown
    refine hw.change hgrow.os hgrow.tape hgrow.output hgrow.size (fun k hk hne => hgrow.block k hk (fun e' => hne (by simp only [row]; rw [← e']; simp))) (by simp only [row]; cases v'.ownBlock <;> simp) (fun k hk => ?_) hok'
    simp only [row] at hk ⊢
    rcases hat with h1 | h1
    · rw [h1] at hk; exact .inl hk
    · rw [h1] at hk
      have hk' : k = w.heap.size := by simpa using hk
      subst hk'
      refine .inr ⟨Nat.le_refl _, ?_⟩
      rcases hok'.2 with ⟨e1, _⟩ | ⟨g', cap, cur, e1, hg', _⟩
      · rw [e1] at h1; cases h1
      · rw [e1] at h1
        cases h1
        exact (Array.getElem?_eq_some_iff.1 hg').1
/-- An append, by where the new slice lies: in the old one's block, or in a new one (the old row stays). -/
theorem a_app2 (T : Tab P) {b o c : Nat} {zz : List Value} {bb : Nat} (ht : T.sh t = .slice E) (hz : T.info E = some (zz, bb)) (hzl : Nat.beq zz.length e.sz = true) (hx : ev fr x = some v) (hy : ev fr y = some (.slice (some ⟨b, o, none⟩) ys.length c)) (hsrc : Rd I l b o (encs e ys))
    (hb : (xs.length + ys.length) * bb ≤ 140737488355328 ∧ xs.length + ys.length ≤ 140737488355328) (hn : Nat.blt d n = true)
    (h1 : ∀ v', v'.ownBlock = v.ownBlock → KK n I ((d, v') :: fr) (row e E v' (xs ++ ys) :: l) K) (h2 : ∀ v', KK n I ((d, v') :: fr) (row e E v' (xs ++ ys) :: row e E v xs :: l) K) :
    Oa P Q n I fr (row e E v xs :: l) ⟨some d, .call ⟨.builtin .append, #[x, y], #[t, t]⟩, ty, p, af, g⟩ K := fun a w ha hw => by
  have hzl' := Nat.eq_of_beq_eq_true hzl
  obtain ⟨i, zv, hi, hzv, hcs, hsz, hby⟩ := T.info_ok E zz bb hz
  have hr : RowOk _ v E e.sz xs.length _ := hw.ok _ (List.mem_cons_self ..)
  obtain ⟨v', w', hrun, hown, hgrow, _, hat⟩ := run_append_own_at (P := P) w 0 t ty E i zv e.sz bb (T.und_slice ht) hi hzv (by omega) hby (by rw [← Array.length_toList, hcs]; omega) e.pos v xs.length (encs e xs) hr.own
    ⟨b, o, none⟩ ys.length c (encs e ys) (encs_length e ys) (fun j u hj => by rw [add_pl]; exact hsrc w hw.drop j u hj) (encs_one e ys) (by simp only [maxLen]; omega) hb.1 (Nat.zero_le _)
  have hok' : RowOk (fun b => w'.heap[b]?) v' E e.sz (xs ++ ys).length (encs e (xs ++ ys)) := by
    rw [List.length_append, encs_append]; exact RowOk.of_own hown
  refine upon_ok (v := v') (w' := w') ?_ ?_
  · simp [execOp, resolve, invoke, builtin, ha.eval hx, ha.eval hy, hrun]
  · rcases hat with h3 | h3
    · refine h1 v' h3 _ _ (ha.put hn _) ?_
      refine hw.change hgrow.os hgrow.tape hgrow.output hgrow.size (fun k hk hne => hgrow.block k hk (fun e' => hne (by simp only [row]; rw [← e']; simp))) (by simp only [row]; cases v'.ownBlock <;> simp) (fun k hk => ?_) hok'
      simp only [row] at hk ⊢
      rw [h3] at hk; exact .inl hk
    · refine h2 v' _ _ (ha.put hn _) ?_
      refine hw.fresh hgrow.os hgrow.tape hgrow.output hgrow.size (fun k hk => ?_) (by simp only [row]; cases v'.ownBlock <;> simp) (fun k hk => ?_) hok'
      · by_cases hkb : v.ownBlock = some k
        · rcases hr.2 with ⟨rfl, _⟩ | ⟨g, cap, cur, rfl, hg, hnc, hcm, hcs, htake⟩
          · cases hkb
          · by_cases hroom : xs.length + ys.length ≤ cap
            · have hr2 := run_append_room (P := P) w t ty E i (T.und_slice ht) hi g xs.length cap cur hg ⟨b, o, none⟩ ys.length c (encs e ys) (by rw [encs_length]; congr 1; omega) (fun j u hj => by rw [add_pl]; exact hsrc w hw.drop j u hj) (encs_one e ys) hroom (by rw [encs_length, hcs, show i.size = e.sz by omega, ← Nat.add_mul]; exact Nat.mul_le_mul_right _ hroom)
              rw [hrun] at hr2
              cases hr2
              simp only [Value.ownBlock, Option.some.injEq] at h3
              have := (Array.getElem?_eq_some_iff.1 hg).1
              omega
            · have hr2 := run_append_grow (P := P) w t ty E i zv (T.und_slice ht) hi hzv ⟨g, 0, none⟩ xs.length cap (encs e xs) (by rw [encs_length]; congr 1; omega) (hr.own.cells (g := g) rfl) ⟨b, o, none⟩ ys.length c (encs e ys) (by rw [encs_length]; congr 1; omega) (fun j u hj => by rw [add_pl]; exact hsrc w hw.drop j u hj) (by omega) (by omega) (growslice_fits (by omega) (by rw [hby]; exact hb.1))
              rw [hrun] at hr2
              cases hr2
              exact Below.heap_alloc w.drew _ k hk
        · exact hgrow.block k hk (fun e' => hkb e'.symm)
      · simp only [row] at hk
        rw [h3] at hk
        have hk' : k = w.heap.size := by simpa using hk
        subst hk'
        refine ⟨Nat.le_refl _, ?_⟩
        rcases hok'.2 with ⟨e1, _⟩ | ⟨g', cap, cur, e1, hg', _⟩
        · rw [e1] at h3; cases h3
        · rw [e1] at h3
          cases h3
          exact (Array.getElem?_eq_some_iff.1 hg').1
theorem a_app_nil (T : Tab P) {zz : List Value} {bb : Nat} (ht : T.sh t = .slice E) (hz : T.info E = some (zz, bb)) (hx : ev fr x = some v) (hy : ev fr y = some (.slice none 0 0)) (hn : Nat.blt d n = true)
    (h : KK n I ((d, v) :: fr) (row e E v xs :: l) K) : Oa P Q n I fr (row e E v xs :: l) ⟨some d, .call ⟨.builtin .append, #[x, y], #[t, t]⟩, ty, p, af, g⟩ K := fun a w ha hw => by
  obtain ⟨i, zv, hi, hzv, hcs, hsz, hby⟩ := T.info_ok E zz bb hz
  have hr : RowOk _ v E e.sz xs.length _ := hw.ok _ (List.mem_cons_self ..)
  have hrun := run_append_owned_none (P := P) (w := w) 0 t ty E i e.sz (T.und_slice ht) hi v xs.length (encs e xs) hr.own
  exact upon_ok (v := v) (w' := w) (by simp [execOp, resolve, invoke, builtin, ha.eval hx, ha.eval hy, hrun]) (h _ _ (ha.put hn _) hw)
theorem rd_rowi (h : RowI e I v ys) (hn : 0 < ys.length) : ∃ b o c, v = .slice (some ⟨b, o, none⟩) ys.length c ∧ ∀ l J, I.le J → Rd J l b o (encs e ys) := by
  obtain ⟨a, c, rfl, _, _, h4⟩ := h
  obtain ⟨b, off, cur, E, f, rfl, e2, e3⟩ := h4 (by intro e; subst e; simp at hn)
  exact ⟨b, off, c, rfl, fun l J hJ w hw => rd_heap (hw.imm _ _ (hJ.at_ _ _ e2)) e3⟩
/-- append of what the immutable part says. -/
theorem a_appi (T : Tab P) {zz : List Value} {bb : Nat} (hr : RowI e I u ys) (ht : T.sh t = .slice E) (hz : T.info E = some (zz, bb)) (hzl : Nat.beq zz.length e.sz = true) (hx : ev fr x = some v) (hy : ev fr y = some u)
    (hb : (xs.length + ys.length) * bb ≤ 140737488355328 ∧ xs.length + ys.length ≤ 140737488355328) (hn : Nat.blt d n = true)
    (h : ∀ v', KK n I ((d, v') :: fr) (row e E v' (xs ++ ys) :: l) K) : Oa P Q n I fr (row e E v xs :: l) ⟨some d, .call ⟨.builtin .append, #[x, y], #[t, t]⟩, ty, p, af, g⟩ K := by
  cases ys with
  | cons y0 ys =>
    obtain ⟨b, o, c, rfl, hsrc⟩ := rd_rowi hr (by simp)
    exact a_app T ht hz hzl hx hy (hsrc l I (Imm.le.refl I)) hb hn h
  | nil =>
    obtain ⟨a, c, rfl, _, ⟨_, hc⟩, _⟩ := hr
    cases a with
    | none =>
      have := hc rfl
      subst this
      have hv := h v
      rw [List.append_nil] at hv
      exact a_app_nil T ht hz hx hy hn hv
    | some ad =>
      intro a w ha hw
      have hzl' := Nat.eq_of_beq_eq_true hzl
      obtain ⟨i, zv, hi, hzv, hcs, hsz, hby⟩ := T.info_ok E zz bb hz
      have hro : RowOk _ v E e.sz xs.length _ := hw.ok _ (List.mem_cons_self ..)
      obtain ⟨v', w', hrun, hown, hgrow, _, hat⟩ := run_append_own_at (P := P) w 0 t ty E i zv e.sz bb (T.und_slice ht) hi hzv (by omega) hby (by rw [← Array.length_toList, hcs]; omega) e.pos v xs.length (encs e xs) hro.own
        ad 0 c [] (by simp) (fun j u hj => by simp at hj) (by simp) (by simp only [maxLen]; have := hb.2; omega) (by simpa using hb.1) (Nat.zero_le _)
      refine upon_ok (v := v') (w' := w') ?_ ?_
      · simp [execOp, resolve, invoke, builtin, ha.eval hx, ha.eval hy, hrun]
      · refine h v' _ _ (ha.put hn _) ?_
        have hok' : RowOk (fun b => w'.heap[b]?) v' E e.sz (xs ++ []).length (encs e (xs ++ [])) := by
          rw [List.append_nil] at hown ⊢; exact RowOk.of_own hown
        refine hw.change hgrow.os hgrow.tape hgrow.output hgrow.size (fun k hk hne => hgrow.block k hk (fun e' => hne (by simp only [row]; rw [← e']; simp))) (by simp only [row]; cases v'.ownBlock <;> simp) (fun k hk => ?_) hok'
        simp only [row] at hk ⊢
        rcases hat with h1 | h1
        · rw [h1] at hk; exact .inl hk
        · rw [h1] at hk
          have hk' : k = w.heap.size := by simpa using hk
          subst hk'
          refine .inr ⟨Nat.le_refl _, ?_⟩
          rcases hok'.2 with ⟨e1, _⟩ | ⟨g', cap, cur, e1, hg', _⟩
          · rw [e1] at h1; cases h1
          · rw [e1] at h1
            cases h1
            exact (Array.getElem?_eq_some_iff.1 hg').1
/-- A nil slice is a row. -/
theorem St.nilrow {w : World} (e : Enc α) (E : TypeId) (hw : St I w l) : St I w (row e E (.slice none 0 0) [] :: l) :=
  hw.fresh rfl rfl rfl (Nat.le_refl _) (fun _ _ => rfl) (by simp [row, Value.ownBlock]) (fun b hb => by simp [row, Value.ownBlock] at hb) ⟨by simp [encs], .inl ⟨rfl, rfl⟩⟩
theorem K_nilrow (e : Enc α) (E : TypeId) (h : KK n I fr (row e E (.slice none 0 0) [] :: l) K) : KK n I fr l K := fun a w ha hw => h a w ha (hw.nilrow e E)
/-- A row is given to the immutable part. -/
theorem St.give {w : World} (hw : St I w (row e E v xs :: l)) : ∃ J, I.le J ∧ RowI e J v xs ∧ St J w l := by
  have hr : RowOk _ v E e.sz xs.length _ := hw.ok _ (List.mem_cons_self ..)
  rcases hr.2 with ⟨rfl, h0⟩ | ⟨g, cap, cur, rfl, hg, h1, h2, h3, h4⟩
  · have : xs = [] := List.eq_nil_of_length_eq_zero h0
    subst this
    exact ⟨I, Imm.le.refl I, RowI.nil e I, hw.drop⟩
  · have hb : St I w (blk g (.cells cur E (0, 0)) :: l) := by
      refine ⟨hw.os, hw.tape, hw.output, hw.imm, hw.nodup, hw.apart, hw.bound, fun it hi => ?_⟩
      rcases List.mem_cons.1 hi with rfl | hi
      · exact hg
      · exact hw.ok it (List.mem_cons_of_mem _ hi)
    refine ⟨_, hb.freeze.2, ⟨some ⟨g, 0, none⟩, cap, rfl, h1, ⟨by omega, fun e => by cases e⟩, fun _ => ⟨g, 0, cur, E, (0, 0), rfl, Imm.add_at I g _, fun j u hj => ?_⟩⟩, hb.freeze.1⟩
    rw [← h4, List.getElem?_take] at hj
    split at hj
    · simpa using hj
    · cases hj
theorem K_give (h : ∀ J, I.le J → RowI e J v xs → KK n J fr l K) : KK n I fr (row e E v xs :: l) K := fun a w ha hw => by
  obtain ⟨J, hJ, hr, hw'⟩ := hw.give
  exact h J hJ hr a w ha hw'
/-- make([]T, k). -/
theorem a_mk (T : Tab P) {kk : Nat} {z0 : α} {kx : Int} {ki : IntKind} {zz : List Value} {bb : Nat} (ht : T.sh t = .slice E) (hz : T.info E = some (zz, bb)) (hzz : zz = e.cells z0) (hx : ev fr x = some (.int ki kx)) (hkk : kx = (kk : Int)) (hb : bb * kk ≤ 281474976710656 ∧ kk ≤ 140737488355328) (hn : Nat.blt d n = true)
    (h : ∀ b, KK n I ((d, .slice (some ⟨b, 0, none⟩) kk kk) :: fr) (row e E (.slice (some ⟨b, 0, none⟩) kk kk) (List.replicate kk z0) :: l) K) : Oa P Q n I fr l ⟨some d, .makeSlice t x x, ty, p, af, g⟩ K := fun a w ha hw => by
  obtain ⟨i, zv, hi, hzv, hcs, hsz, hby⟩ := T.info_ok E zz bb hz
  have hsz' : i.size = e.sz := by rw [hsz, hzz, e.len]
  obtain ⟨w', hrun, hown, hgrow⟩ := run_make_full (P := P) w w.heap.size t E i zv e.sz (T.und_slice ht) hi hzv hsz' ki ki kk (by rw [hby]; exact hb.1) (by simp only [maxLen]; omega) (Nat.le_refl _)
  have hcells : (madeCells zv.cells (kk * e.sz)).toList = encs e (List.replicate kk z0) := by
    have hz' : zv.cells = (e.cells z0).toArray := by rw [← hzz, ← hcs]
    rw [hz']
    refine List.ext_getElem? (fun i => ?_)
    have hlen1 : (madeCells (e.cells z0).toArray (kk * e.sz)).toList.length = kk * e.sz := by rw [Array.length_toList, size_madeCells]
    have hlen2 : (encs e (List.replicate kk z0)).length = kk * e.sz := by rw [encs_length, List.length_replicate]
    by_cases hi : i < kk * e.sz
    · have hp := e.pos
      have hmod : i % e.sz < e.sz := Nat.mod_lt _ hp
      have hdiv : i / e.sz < kk := Nat.div_lt_of_lt_mul (by rw [Nat.mul_comm]; exact hi)
      have hm : (e.cells z0)[i % e.sz]? = some ((e.cells z0)[i % e.sz]'(by rw [e.len]; exact hmod)) := List.getElem?_eq_getElem _
      have h2 := encs_get e (xs := List.replicate kk z0) (i := i / e.sz) (j := i % e.sz) (x := z0) (by rw [List.getElem?_replicate, if_pos hdiv]) hm
      rw [Nat.div_add_mod'] at h2
      rw [h2, List.getElem?_eq_getElem (by rw [hlen1]; exact hi)]
      simp [madeCells, e.len, hmod]
    · rw [List.getElem?_eq_none (by rw [hlen1]; omega), List.getElem?_eq_none (by rw [hlen2]; omega)]
  refine upon_ok (v := .slice (some ⟨w.heap.size, 0, none⟩) kk kk) (w' := w') ?_ ?_
  · simp [execOp, ha.eval hx, hkk, hrun]
  · rw [hcells] at hown
    have hok' : RowOk (fun b => w'.heap[b]?) (.slice (some ⟨w.heap.size, 0, none⟩) kk kk) E e.sz (List.replicate kk z0).length (encs e (List.replicate kk z0)) := by
      rw [List.length_replicate]; exact RowOk.of_own hown
    refine h _ _ _ (ha.put hn _) (hw.fresh hgrow.os hgrow.tape hgrow.output hgrow.size (fun k hk => hgrow.block k hk (by simp)) (by simp [row, Value.ownBlock]) (fun k hk => ?_) hok')
    simp [row, Value.ownBlock] at hk
    subst hk
    refine ⟨Nat.le_refl _, ?_⟩
    rcases hok'.2 with ⟨e1, _⟩ | ⟨g', cap, cur, e1, hg', _⟩
    · cases e1
    · have e2 : w.heap.size = g' := by simp only [Value.slice.injEq, Option.some.injEq, Addr.mk.injEq] at e1; exact e1.1.1
      rw [← e2] at hg'
      exact (Array.getElem?_eq_some_iff.1 hg').1

/-! ### Contracts and calls -/
/-- What a call comes to: its ending, the immutable part and the items behind it. -/
def Ct (P : Program) (f : FuncId) (args : List Value) (I : Imm) (l : List Itm) (R : Value → Imm → List Itm → Prop) : Prop :=
  ∀ w, St I w l → Calls P f args.toArray w fun e w' => ∃ v J m, e = .returned v ∧ I.le J ∧ St J w' m ∧ R v J m
theorem Ct.mono {f : FuncId} {args : List Value} {R R' : Value → Imm → List Itm → Prop} (h : Ct P f args I l R) (k : ∀ v J m, I.le J → R v J m → R' v J m) : Ct P f args I l R' := fun w hw =>
  (h w hw).mono fun _ _ ⟨v, J, m, a, b, c, d⟩ => ⟨v, J, m, a, b, c, k v J m b d⟩
theorem Ct.perm {f : FuncId} {args : List Value} {R : Value → Imm → List Itm → Prop} (hp : l.Perm m) (h : Ct P f args I m R) : Ct P f args I l R := fun w hw => h w (hw.perm hp)
theorem upon_enter {o : Oper} {a : Act} {w : World} {f : FuncId} {vs : List Value} {R : Value → Imm → List Itm → Prop} (h : (execOp a.eval o).run P w = .ok (.enter f vs.toArray) w) (hw : St I w l) (hc : Ct P f vs I l R)
    (hk : ∀ v J m w', I.le J → R v J m → St J w' m → K (a.put o.dst v) w') : o.wp P a w K Q := by
  unfold Oper.wp
  rw [h]
  refine (hc w hw).mono ?_
  rintro e w' ⟨v, J, m, rfl, hJ, hw', hr⟩
  exact hk v J m w' hJ hr hw'
theorem a_call {f : FuncId} {args : Array Operand} {ats : Array TypeId} {vs : List Value} {R : Value → Imm → List Itm → Prop} (he : Enters P f) (hx : evs fr args.toList = some vs) (hc : Ct P f vs I l R) (hn : Nat.blt d n = true)
    (h : ∀ v J m, I.le J → R v J m → KK n J ((d, v) :: fr) m K) : Oa P Q n I fr l ⟨some d, .call ⟨.value (.func f), args, ats⟩, ty, p, af, g⟩ K := fun a w ha hw => by
  refine upon_enter (vs := vs) ?_ hw hc (fun v J m w' hJ hr hw' => h v J m hJ hr _ _ (ha.put hn _) hw')
  have e1 : args.map a.eval = vs.toArray := by rw [← ha.evals hx, ← List.map_toArray]
  have e2 : a.eval (.func f) = .func (.func f) #[] #[] := rfl
  simp [execOp, resolve, e1, e2, Deferred.ofValue, invoke, he _ _]
/-- A call of a function value. -/
theorem a_callv {f : FuncId} {args : Array Operand} {ats : Array TypeId} {vs : List Value} {first cap : List Value} {R : Value → Imm → List Itm → Prop} (he : Enters P f) (hx : evs fr args.toList = some vs) (hf : ev fr x = some (.func (.func f) first.toArray cap.toArray)) (hc : Ct P f (first ++ vs ++ cap) I l R) (hn : Nat.blt d n = true)
    (h : ∀ v J m, I.le J → R v J m → KK n J ((d, v) :: fr) m K) : Oa P Q n I fr l ⟨some d, .call ⟨.value x, args, ats⟩, ty, p, af, g⟩ K := fun a w ha hw => by
  refine upon_enter (vs := first ++ vs ++ cap) ?_ hw hc (fun v J m w' hJ hr hw' => h v J m hJ hr _ _ (ha.put hn _) hw')
  have e1 : args.map a.eval = vs.toArray := by rw [← ha.evals hx, ← List.map_toArray]
  simp [execOp, resolve, e1, ha.eval hf, Deferred.ofValue, invoke, he _ _]
/-- A call through an interface value. -/
theorem a_inv {f : FuncId} {args : Array Operand} {ats : Array TypeId} {vs : List Value} {tt : TypeId} {r : Value} {nm : String} {R : Value → Imm → List Itm → Prop} (he : Enters P f) (hx : evs fr args.toList = some vs) (hf : ev fr x = some (.iface tt u))
    (hm : ∀ w, St I w l → (Go.method (P.types.size + Made.depth) tt u nm).run P w = .ok (f, r) w) (hc : Ct P f (r :: vs) I l R) (hn : Nat.blt d n = true)
    (h : ∀ v J m, I.le J → R v J m → KK n J ((d, v) :: fr) m K) : Oa P Q n I fr l ⟨some d, .call ⟨.invoke x nm, args, ats⟩, ty, p, af, g⟩ K := fun a w ha hw => by
  refine upon_enter (vs := r :: vs) ?_ hw hc (fun v J m w' hJ hr hw' => h v J m hJ hr _ _ (ha.put hn _) hw')
  have e1 : args.map a.eval = vs.toArray := by rw [← ha.evals hx, ← List.map_toArray]
  have e2 : (#[Value.iface tt u] ++ vs.toArray).extract 1 (#[Value.iface tt u] ++ vs.toArray).size = vs.toArray := by simp
  have e3 : (#[Value.iface tt u] ++ vs.toArray)[0]? = some (Value.iface tt u) := by simp
  have e4 : (callMethod (.iface tt u) nm vs.toArray).run P w = .ok (.enter f (r :: vs).toArray) w := by
    simp only [callMethod, Sem.run_bind, program, Sem.run, Result.andThen_ok, hm w hw]
    have := he (#[r] ++ vs.toArray) w
    simpa using this
  simp only [execOp, resolve, Sem.run_bind, Sem.run_pure, Result.andThen_ok, e1, ha.eval hf, invoke, e3, e2, e4]
def argFr : Nat → List Value → List (Nat × Value)
  | _, [] => []
  | k, v :: vs => (k, v) :: argFr (k + 1) vs
theorem look_argFr : ∀ (vs : List Value) (k i : Nat) (v : Value), look (argFr k vs) i = some v → k ≤ i ∧ vs[i - k]? = some v
  | [], _, _, _, h => by cases h
  | u :: vs, k, i, v, h => by
    simp only [argFr, look] at h
    cases hb : Nat.beq k i with
    | true => rw [hb] at h; cases h; have := Nat.eq_of_beq_eq_true hb; subst this; simp
    | false =>
      rw [hb] at h
      have hne := ne_beq hb
      obtain ⟨h1, h2⟩ := look_argFr vs (k + 1) i v h
      refine ⟨by omega, ?_⟩
      rw [show i - k = (i - (k + 1)) + 1 from by omega, List.getElem?_cons_succ]
      exact h2
/-- A function's begin. -/
theorem Ct_enter {f : FuncId} {fn : Func} {c : Code} {args : List Value} {R : Value → Imm → List Itm → Prop} (hf : P.funcs[f]? = some fn) (hb : fn.body = some c) (hn : fn.ntmps = n) (hl : Nat.ble args.length n = true)
    (h : KK n I (argFr 0 args) l (c.wp P (bodyPost P fn fun e w' => ∃ v J m, e = .returned v ∧ I.le J ∧ St J w' m ∧ R v J m))) : Ct P f args I l R := fun w hw => by
  have hl' : args.length ≤ n := by simpa [Nat.ble_eq] using hl
  refine calls_of_wp hf hb (h _ _ ⟨?_, rfl, fun i v hi => ?_⟩ hw)
  · simp [hn]; omega
  · obtain ⟨_, h2⟩ := look_argFr args 0 i v hi
    rw [Nat.sub_zero] at h2
    have hi' : i < args.length := (List.getElem?_eq_some_iff.1 h2).1
    have : (args.toArray ++ Array.replicate (fn.ntmps - args.toArray.size) undef)[i]? = some v := by
      rw [Array.getElem?_append_left (by simpa using hi')]
      simpa using h2
    rw [Array.getD_eq_getD_getElem?, this]
    rfl
/-- A function's results. -/
inductive RV (P : Program) (I : Imm) (fr : List (Nat × Value)) (l : List Itm) : ResultVar → Value → Prop where
  | tmp {t : Tmp} {v : Value} (h : look fr t = some v) : RV P I fr l (.tmp t) v
  | cell {a : Tmp} {t : TypeId} {b : Addr} {v : Value} (h : look fr a = some (.pointer (some b))) (hl : Ld P I l t (.pointer (some b)) v) : RV P I fr l (.cell a t) v
def rvSem (tmps : Array Value) : ResultVar → Sem Value
  | .tmp t => pure (tmps.getD t undef)
  | .cell a t => do loadVar t (← asAddr (tmps.getD a undef))
theorem RV.run {a : Act} {w : World} (ha : Fr a n fr) (hw : St I w l) {r : ResultVar} {v : Value} (h : RV P I fr l r v) : (rvSem a.tmps r).run P w = .ok v w := by
  cases h with
  | tmp h =>
    have := ha.at_ _ _ h
    show (Sem.run P (pure (a.tmps.getD _ undef)) w) = _
    rw [this]; rfl
  | cell h hl =>
    have h1 := ha.at_ _ _ h
    have h2 := hl w hw
    show (Sem.run P (do loadVar _ (← asAddr (a.tmps.getD _ undef))) w) = _
    rw [h1]
    simpa [Instr.loadAt, Instr.sureAddr, asAddr] using h2
theorem results_eq (fn : Func) (tmps : Array Value) : results fn tmps = (do let vs ← fn.results.mapM (rvSem tmps); pure (if h : vs.size = 1 then vs[0] else .tuple vs)) := by
  unfold results
  congr 2
theorem K_out0 {fn : Func} {R : Ending → World → Prop} {e : Exit} (he : e = .ret ∨ e = .normal) (hr : fn.results = #[]) (h : ∀ w, St I w l → R (.returned (.tuple #[])) w) : KK n I fr l (bodyPost P fn R e) := fun a w ha hw => by
  have : (results fn a.tmps).run P w = .ok (.tuple #[]) w := by rw [results_eq, hr]; simp
  rcases he with rfl | rfl <;> exact ⟨ha.defers, _, this, h w hw⟩
theorem K_out1 {fn : Func} {R : Ending → World → Prop} {r : ResultVar} {v : Value} (hr : fn.results = #[r]) (hv : RV P I fr l r v) (h : ∀ w, St I w l → R (.returned v) w) : KK n I fr l (bodyPost P fn R .ret) := fun a w ha hw => by
  have : (results fn a.tmps).run P w = .ok v w := by rw [results_eq, hr]; simp [hv.run ha hw]
  exact ⟨ha.defers, _, this, h w hw⟩
theorem K_out2 {fn : Func} {R : Ending → World → Prop} {r r2 : ResultVar} {v v2 : Value} (hr : fn.results = #[r, r2]) (hv : RV P I fr l r v) (hv2 : RV P I fr l r2 v2) (h : ∀ w, St I w l → R (.returned (.tuple #[v, v2])) w) : KK n I fr l (bodyPost P fn R .ret) := fun a w ha hw => by
  have : (results fn a.tmps).run P w = .ok (.tuple #[v, v2]) w := by rw [results_eq, hr]; simp [hv.run ha hw, hv2.run ha hw]
  exact ⟨ha.defers, _, this, h w hw⟩
theorem K_out3 {fn : Func} {R : Ending → World → Prop} {r r2 r3 : ResultVar} {v v2 v3 : Value} (hr : fn.results = #[r, r2, r3]) (hv : RV P I fr l r v) (hv2 : RV P I fr l r2 v2) (hv3 : RV P I fr l r3 v3) (h : ∀ w, St I w l → R (.returned (.tuple #[v, v2, v3])) w) : KK n I fr l (bodyPost P fn R .ret) := fun a w ha hw => by
  have : (results fn a.tmps).run P w = .ok (.tuple #[v, v2, v3]) w := by rw [results_eq, hr]; simp [hv.run ha hw, hv2.run ha hw, hv3.run ha hw]
  exact ⟨ha.defers, _, this, h w hw⟩
theorem K_out4 {fn : Func} {R : Ending → World → Prop} {r r2 r3 r4 : ResultVar} {v v2 v3 v4 : Value} (hr : fn.results = #[r, r2, r3, r4]) (hv : RV P I fr l r v) (hv2 : RV P I fr l r2 v2) (hv3 : RV P I fr l r3 v3) (hv4 : RV P I fr l r4 v4) (h : ∀ w, St I w l → R (.returned (.tuple #[v, v2, v3, v4])) w) : KK n I fr l (bodyPost P fn R .ret) := fun a w ha hw => by
  have : (results fn a.tmps).run P w = .ok (.tuple #[v, v2, v3, v4]) w := by rw [results_eq, hr]; simp [hv.run ha hw, hv2.run ha hw, hv3.run ha hw, hv4.run ha hw]
  exact ⟨ha.defers, _, this, h w hw⟩
end
end Go.Proofs.YtfnmcpgajjkemaaDoor.SW
