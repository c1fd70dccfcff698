/- The symbolic walk, part 3: the rules of a region; operations that yield a value. -/
import Derived.Test.YtfnmcpgajjkemaaDoorOps
namespace Go.Proofs.YtfnmcpgajjkemaaDoor.SW
open Go Go.RowKit

section rules
variable {P : Program} {n : Nat} {I : Imm} {fr fr' : List (Nat × Value)} {l l0 m : List Itm} {K K' : Act → World → Prop} {Q : Exit → Act → World → Prop} {ops : Array Oper} {rest : List Oper} {o : Oper} {v : Value} {d : Nat}

theorem Yv.weak (h : Yv P n I fr l o v) (hs : List.Sublist l m) : Yv P n I fr m o v := fun a w ha hw => h a w ha (hw.sublist hs)
/-- One operation that yields, in the text's order. -/
theorem W_y (hy : Yv P n I fr l o v) (hg : wantd ops fr o = some true) (hd : o.dst = some d) (hn : Nat.blt d n = true) (h : KK n I ((d, v) :: fr) l (wpList P ops Q rest)) :
    KK n I fr l (wpList P ops Q (o :: rest)) := fun a w ha hw => by
  unfold wpList
  rw [if_pos (wantd_ok ha hg)]
  refine .inl ?_
  unfold Oper.wp
  rw [hy a w ha hw]
  show wpList P ops Q rest (a.put o.dst v) w
  rw [hd]
  exact h _ _ (ha.put hn v) hw
/-- One that is not wanted. -/
theorem W_skip (hg : wantd ops fr o = some false) (hd : o.dst = some d) (hn : Nat.blt d n = true) (h : KK n I ((d, undef) :: fr) l (wpList P ops Q rest)) :
    KK n I fr l (wpList P ops Q (o :: rest)) := fun a w ha hw => by
  unfold wpList
  rw [wantd_ok ha hg, hd]
  exact h _ _ (ha.put hn _) hw
/-- One that acts. -/
theorem W_a (h : Oa P Q n I fr l o (wpList P ops Q rest)) (hg : wantd ops fr o = some true) : KK n I fr l (wpList P ops Q (o :: rest)) := fun a w ha hw => by
  unfold wpList
  rw [if_pos (wantd_ok ha hg)]
  exact .inl (h a w ha hw)
/-- What is known of a bool is decided. -/
theorem Fr.know {a : Act} (ha : Fr a n fr) {b : Value} (h : look fr d = some v) (e : v = b) : Fr a n ((d, b) :: fr) := by
  subst e
  refine ⟨ha.size, ha.defers, fun i u hi => ?_⟩
  simp only [look] at hi
  cases hb : Nat.beq d i with
  | true => rw [hb] at hi; cases hi; have := Nat.eq_of_beq_eq_true hb; subst this; exact ha.at_ _ _ h
  | false => rw [hb] at hi; exact ha.at_ i u hi
theorem K_split {b : Bool} (d : Nat) (h : look fr d = some (.bool b)) (ht : b = true → KK n I ((d, .bool true) :: fr) l K) (hf : b = false → KK n I ((d, .bool false) :: fr) l K) : KK n I fr l K := fun a w ha hw => by
  cases hb : b with
  | true => exact ht hb a w (ha.know h (by rw [hb])) hw
  | false => exact hf hb a w (ha.know h (by rw [hb])) hw
theorem K_splitd {p : Prop} [Decidable p] (d : Nat) (h : look fr d = some (.bool (decide p))) (ht : p → KK n I ((d, .bool true) :: fr) l K) (hf : ¬ p → KK n I ((d, .bool false) :: fr) l K) : KK n I fr l K :=
  K_split d h (fun e => ht (of_decide_eq_true e)) (fun e => hf (of_decide_eq_false e))
theorem K_if {c : Operand} {x y : Code} {p : Prop} [Decidable p] (hc : ev fr c = some (.bool (decide p))) (ht : p → KK n I fr l (x.wp P Q)) (hf : ¬ p → KK n I fr l (y.wp P Q)) :
    KK n I fr l ((Code.cond c x y).wp P Q) := K_cond hc (fun e => ht (of_decide_eq_true e)) (fun e => hf (of_decide_eq_false e))
theorem K_ifn {c : Operand} {x y : Code} {p : Prop} [Decidable p] (hc : ev fr c = some (.bool (!decide p))) (ht : ¬ p → KK n I fr l (x.wp P Q)) (hf : p → KK n I fr l (y.wp P Q)) :
    KK n I fr l ((Code.cond c x y).wp P Q) := K_cond hc (fun e => ht (by simpa using e)) (fun e => hf (by simpa using e))
theorem K_yes {c : Operand} {x y : Code} (hc : ev fr c = some (.bool true)) (ht : KK n I fr l (x.wp P Q)) : KK n I fr l ((Code.cond c x y).wp P Q) := K_cond hc (fun _ => ht) (fun e => by cases e)
theorem K_no {c : Operand} {x y : Code} (hc : ev fr c = some (.bool false)) (hf : KK n I fr l (y.wp P Q)) : KK n I fr l ((Code.cond c x y).wp P Q) := K_cond hc (fun e => by cases e) (fun _ => hf)

/-! ### A region that draws its order: by a plan -/
/-- Whatever order is picked from here on; 'S' holds all along, up to an operation of 'tl'; from there on another S and tl. -/
def wpAnyT (P : Program) (md : Region.Mode) (ops : Array Oper) (Q : Exit → Act → World → Prop) : Nat → (World → Prop) → (Nat → Bool) → Array Bool → Act → World → Prop
  | 0, S, _, listed, a, w => S w ∧ Region.ready md ops listed = [] ∧ Q .normal a w
  | fuel + 1, S, tl, listed, a, w =>
    S w ∧ (Region.ready md ops listed = [] → Q .normal a w) ∧
    ∀ i ∈ Region.ready md ops listed, wpOp P ops Q i (fun a' w' => (tl i = false → wpAnyT P md ops Q fuel S tl (listed.setIfInBounds i true) a' w') ∧ (tl i = true → ∃ S' tl', wpAnyT P md ops Q fuel S' tl' (listed.setIfInBounds i true) a' w')) a w
theorem wpAnyT.S {md : Region.Mode} {S : World → Prop} {tl : Nat → Bool} {fuel : Nat} {listed : Array Bool} {a : Act} {w : World} (h : wpAnyT P md ops Q fuel S tl listed a w) : S w := by
  cases fuel with
  | zero => exact h.1
  | succ n => exact h.1
theorem wpAny_of_T {md : Region.Mode} : ∀ (fuel : Nat) (S : World → Prop) (tl : Nat → Bool) (listed : Array Bool) (a : Act) (w : World), wpAnyT P md ops Q fuel S tl listed a w → wpAny P md ops Q fuel listed a w
  | 0, _, _, _, _, _, h => h.2
  | fuel + 1, S, tl, _, _, _, h => ⟨h.2.1, fun i hi => wpOp_mono (fun a' w' h' => by
      cases hb : tl i with
      | false => exact wpAny_of_T fuel _ _ _ a' w' (h'.1 hb)
      | true => obtain ⟨S', tl', h''⟩ := h'.2 hb; exact wpAny_of_T fuel _ _ _ a' w' h'') (h.2.2 i hi)⟩
theorem wpAnyT_first {md : Region.Mode} {S : World → Prop} {tl : Nat → Bool} {i : Nat} {oi : Oper} {v : Value} (hi : ops[i]? = some oi) (hsel : ∀ (j : Nat) (o : Oper) cs b, ops[j]? = some o → o.op ≠ .select cs b)
    (hQ : ∀ c a w, Q (.panic c) (a.put oi.dst v) w → Q (.panic c) a w) (hil : tl i = false)
    (htl : ∀ j oj, ops[j]? = some oj → tl j = true → ∃ e ∈ oj.after, Region.binds md e = true ∧ e.on = i) :
    ∀ (fuel : Nat) (listed : Array Bool) (a : Act) (w : World),
      (∀ j oj, ops[j]? = some oj → j ≠ i → listed.getD j true = false → (∀ e ∈ oj.after, Region.binds md e = true → e.on ≠ i) → oi.apart ops oj = true) →
      i ∈ Region.ready md ops listed → YieldsIf P ops S oi v a →
      wpAnyT P md ops Q fuel S tl (listed.setIfInBounds i true) (a.put oi.dst v) w → wpAnyT P md ops Q (fuel + 1) S tl listed a w := by
  intro fuel
  induction fuel with
  | zero =>
    intro listed a w _ hr hy H
    refine ⟨H.S, fun h => (by rw [h] at hr; cases hr), fun j hj => ?_⟩
    by_cases hji : j = i
    · subst hji; exact hy.wpOp hi H.S ⟨fun _ => H, fun e => by rw [hil] at e; cases e⟩
    · have := ready_mono hj hji
      rw [H.2.1] at this
      cases this
  | succ fuel ih =>
    intro listed a w hfree hr hy H
    refine ⟨H.S, fun h => (by rw [h] at hr; cases hr), fun j hj => ?_⟩
    by_cases hji : j = i
    · subst hji; exact hy.wpOp hi H.S ⟨fun _ => H, fun e => by rw [hil] at e; cases e⟩
    · have h1 := H.2.2 j (ready_mono hj hji)
      obtain ⟨hjun, oj, hoj, hall⟩ := mem_ready.1 hj
      have hnot : ∀ e ∈ oj.after, Region.binds md e = true → e.on ≠ i := fun e he hb heq => by
        have h1 := hall e he hb
        have h0 := (mem_ready.1 hr).1
        rw [heq] at h1
        rcases Nat.lt_or_ge i listed.size with h' | h'
        · simp [h'] at h0 h1; rw [h0] at h1; cases h1
        · simp [Array.getElem?_eq_none h'] at h1
      have hjt : tl j = false := by
        cases hb : tl j with
        | false => rfl
        | true =>
          obtain ⟨e, he, hbi, hon⟩ := htl j oj hoj hb
          exact absurd hon (hnot e he hbi)
      have h2 := wpOp_putIf hoj (hfree j oj hoj hji hjun hnot) (fun cs b => hsel i oi cs b hi) (fun cs b => hsel j oj cs b hoj) hQ hy h1
      have hfree' : ∀ k ok, ops[k]? = some ok → k ≠ i → (listed.setIfInBounds j true).getD k true = false →
          (∀ e ∈ ok.after, Region.binds md e = true → e.on ≠ i) → oi.apart ops ok = true := fun k ok hk hki hun hno => by
        refine hfree k ok hk hki ?_ hno
        by_cases hjk : j = k
        · subst hjk; exact hjun
        · rw [getD_set_ne true hjk] at hun; exact hun
      refine wpOp_mono (fun a' w' h3 => ⟨fun _ => ih (listed.setIfInBounds j true) a' w' hfree' (ready_mono hr (Ne.symm hji)) h3.1 ?_, fun e => by rw [hjt] at e; cases e⟩) h2
      rw [Array.setIfInBounds_comm _ _ hji]
      exact h3.2.1 hjt
/-- One that needs no memory. -/
theorem wpAnyT_free {md : Region.Mode} {i : Nat} {oi : Oper} {v : Value} (hi : ops[i]? = some oi) (hsel : ∀ (j : Nat) (o : Oper) cs b, ops[j]? = some o → o.op ≠ .select cs b)
    (hQ : ∀ c a w, Q (.panic c) (a.put oi.dst v) w → Q (.panic c) a w) :
    ∀ (fuel : Nat) (S : World → Prop) (tl : Nat → Bool) (listed : Array Bool) (a : Act) (w : World),
      (∀ j oj, ops[j]? = some oj → j ≠ i → listed.getD j true = false → (∀ e ∈ oj.after, Region.binds md e = true → e.on ≠ i) → oi.apart ops oj = true) →
      i ∈ Region.ready md ops listed → YieldsIf P ops (fun _ => True) oi v a →
      wpAnyT P md ops Q fuel S tl (listed.setIfInBounds i true) (a.put oi.dst v) w → wpAnyT P md ops Q (fuel + 1) S tl listed a w := by
  intro fuel
  induction fuel with
  | zero =>
    intro S tl listed a w _ hr hy H
    refine ⟨H.S, fun h => (by rw [h] at hr; cases hr), fun j hj => ?_⟩
    by_cases hji : j = i
    · subst hji; exact hy.wpOp hi trivial ⟨fun _ => H, fun _ => ⟨S, tl, H⟩⟩
    · have := ready_mono hj hji
      rw [H.2.1] at this
      cases this
  | succ fuel ih =>
    intro S tl listed a w hfree hr hy H
    refine ⟨H.S, fun h => (by rw [h] at hr; cases hr), fun j hj => ?_⟩
    by_cases hji : j = i
    · subst hji; exact hy.wpOp hi trivial ⟨fun _ => H, fun _ => ⟨S, tl, H⟩⟩
    · have h1 := H.2.2 j (ready_mono hj hji)
      obtain ⟨hjun, oj, hoj, hall⟩ := mem_ready.1 hj
      have hnot : ∀ e ∈ oj.after, Region.binds md e = true → e.on ≠ i := fun e he hb heq => by
        have h1 := hall e he hb
        have h0 := (mem_ready.1 hr).1
        rw [heq] at h1
        rcases Nat.lt_or_ge i listed.size with h' | h'
        · simp [h'] at h0 h1; rw [h0] at h1; cases h1
        · simp [Array.getElem?_eq_none h'] at h1
      have h2 := wpOp_putIf hoj (hfree j oj hoj hji hjun hnot) (fun cs b => hsel i oi cs b hi) (fun cs b => hsel j oj cs b hoj) hQ hy h1
      have hfree' : ∀ k ok, ops[k]? = some ok → k ≠ i → (listed.setIfInBounds j true).getD k true = false →
          (∀ e ∈ ok.after, Region.binds md e = true → e.on ≠ i) → oi.apart ops ok = true := fun k ok hk hki hun hno => by
        refine hfree k ok hk hki ?_ hno
        by_cases hjk : j = k
        · subst hjk; exact hjun
        · rw [getD_set_ne true hjk] at hun; exact hun
      refine wpOp_mono (fun a' w' h3 => ⟨fun e => ih _ _ (listed.setIfInBounds j true) a' w' hfree' (ready_mono hr (Ne.symm hji)) h3.1 ?_, fun e => ?_⟩) h2
      · rw [Array.setIfInBounds_comm _ _ hji]
        exact h3.2.1 e
      · obtain ⟨S', tl', h4⟩ := h3.2.2 e
        refine ⟨S', tl', ih _ _ (listed.setIfInBounds j true) a' w' hfree' (ready_mono hr (Ne.symm hji)) h3.1 ?_⟩
        rw [Array.setIfInBounds_comm _ _ hji]
        exact h4
/-- A plan's step: an operation; 0: it yields under S; 1: it acts, S holds behind it; 2: it acts and ends the phase: from there on another S, and these enders; 3: it yields, and needs no memory. -/
def waitsAll (md : Region.Mode) (ops : Array Oper) (ts : List Nat) (i : Nat) : Bool := ts.all fun j => match ops[j]? with
  | some oj => oj.after.any fun e => Region.binds md e && e.on == i
  | none => true
def planOk (md : Region.Mode) (ops : Array Oper) : List Nat → Array Bool → List (Nat × Nat × List Nat) → Bool
  | _, listed, [] => (Region.ready md ops listed).isEmpty
  | ts, listed, (i, 0, _) :: r => Region.free md ops listed i && (Region.ready md ops listed).contains i && !ts.contains i && waitsAll md ops ts i && planOk md ops ts (listed.setIfInBounds i true) r
  | ts, listed, (i, 1, _) :: r => (Region.ready md ops listed == [i]) && !ts.contains i && planOk md ops ts (listed.setIfInBounds i true) r
  | ts, listed, (i, 2, us) :: r => (Region.ready md ops listed == [i]) && ts.contains i && planOk md ops us (listed.setIfInBounds i true) r
  | ts, listed, (i, _, _) :: r => Region.free md ops listed i && (Region.ready md ops listed).contains i && planOk md ops ts (listed.setIfInBounds i true) r
def wpPlan (P : Program) (ops : Array Oper) (Q : Exit → Act → World → Prop) : (World → Prop) → List (Nat × Nat × List Nat) → Act → World → Prop
  | S, [], a, w => S w ∧ Q .normal a w
  | S, (i, 0, _) :: r, a, w => ∃ o v, ops[i]? = some o ∧ YieldsIf P ops S o v a ∧ wpPlan P ops Q S r (a.put o.dst v) w
  | S, (i, 1, _) :: r, a, w => S w ∧ wpOp P ops Q i (fun a' w' => wpPlan P ops Q S r a' w') a w
  | S, (i, 2, _) :: r, a, w => S w ∧ wpOp P ops Q i (fun a' w' => ∃ S', wpPlan P ops Q S' r a' w') a w
  | S, (i, _, _) :: r, a, w => ∃ o v, ops[i]? = some o ∧ YieldsIf P ops (fun _ => True) o v a ∧ wpPlan P ops Q S r (a.put o.dst v) w
theorem wpAnyT_of_plan {md : Region.Mode} (hs : Region.noSelect ops = true) (hQ : ∀ (c : List PanicEntry) (a : Act) (d : Option Tmp) (v : Value) (w : World), Q (.panic c) (a.put d v) w → Q (.panic c) a w) :
    ∀ (plan : List (Nat × Nat × List Nat)) (S : World → Prop) (ts : List Nat) (listed : Array Bool) (a : Act) (w : World), planOk md ops ts listed plan = true → wpPlan P ops Q S plan a w → wpAnyT P md ops Q plan.length S (fun j => ts.contains j) listed a w
  | [], _, _, listed, a, w, hp, h => ⟨h.1, by simpa [planOk] using hp, h.2⟩
  | (i, 0, _) :: r, S, ts, listed, a, w, hp, h => by
    simp only [planOk, Bool.and_eq_true, Bool.not_eq_true'] at hp
    obtain ⟨o, v, ho, hy, hr⟩ := h
    refine wpAnyT_first ho (Region.noSelect_spec hs) (fun c a w hh => hQ c a _ _ w hh) hp.1.1.2 (fun j oj hj htj => ?_) r.length listed a w (Region.free_spec ho hp.1.1.1.1) (by simpa using hp.1.1.1.2) hy (wpAnyT_of_plan hs hQ r _ _ _ _ _ hp.2 hr)
    have h1 := hp.1.2
    simp only [waitsAll, List.all_eq_true] at h1
    have h2 := h1 j (by simpa using htj)
    rw [hj] at h2
    simp only at h2
    obtain ⟨e, he, hb⟩ := Array.any_eq_true'.1 h2
    simp only [Bool.and_eq_true, beq_iff_eq] at hb
    exact ⟨e, he, hb.1, hb.2⟩
  | (i, 1, _) :: r, S, ts, listed, a, w, hp, h => by
    simp only [planOk, Bool.and_eq_true, beq_iff_eq, Bool.not_eq_true'] at hp
    refine ⟨h.1, fun h0 => absurd (hp.1.1 ▸ h0) (by simp), fun j hj => ?_⟩
    rw [hp.1.1] at hj
    simp only [List.mem_singleton] at hj
    subst hj
    exact wpOp_mono (fun a' w' h' => ⟨fun _ => wpAnyT_of_plan hs hQ r _ _ _ _ _ hp.2 h', fun e => by have e' : ts.contains j = true := e; rw [hp.1.2] at e'; cases e'⟩) h.2
  | (i, 2, us) :: r, S, ts, listed, a, w, hp, h => by
    simp only [planOk, Bool.and_eq_true, beq_iff_eq] at hp
    refine ⟨h.1, fun h0 => absurd (hp.1.1 ▸ h0) (by simp), fun j hj => ?_⟩
    rw [hp.1.1] at hj
    simp only [List.mem_singleton] at hj
    subst hj
    exact wpOp_mono (fun a' w' ⟨S', h'⟩ => ⟨fun e => (by have e' : ts.contains j = false := e; rw [hp.1.2] at e'; cases e'), fun _ => ⟨S', fun j => us.contains j, wpAnyT_of_plan hs hQ r _ _ _ _ _ hp.2 h'⟩⟩) h.2
  | (i, k + 3, _) :: r, S, ts, listed, a, w, hp, h => by
    simp only [planOk, Bool.and_eq_true] at hp
    obtain ⟨o, v, ho, hy, hr⟩ := h
    exact wpAnyT_free ho (Region.noSelect_spec hs) (fun c a w hh => hQ c a _ _ w hh) r.length S _ listed a w (Region.free_spec ho hp.1.1) (by simpa using hp.1.2) hy (wpAnyT_of_plan hs hQ r _ _ _ _ _ hp.2 hr)
/-- The region's walk by a plan, under the items l0 that stay throughout the phase. -/
def DW (P : Program) (ops : Array Oper) (Q : Exit → Act → World → Prop) (I : Imm) (l0 : List Itm) (plan : List (Nat × Nat × List Nat)) (a : Act) (w : World) : Prop :=
  wpPlan P ops Q (fun w => St I w l0) plan a w
theorem K_draw {id : Nat} {os : List Oper} (plan : List (Nat × Nat × List Nat)) (ts : List Nat) (l0 : List Itm) (hm : P.follows .mixedOrders = true)
    (hc : (Region.noSelect os.toArray && (plan.length == os.length) && planOk .any os.toArray ts (Array.replicate os.length false) plan) = true)
    (hQ : ∀ (c : List PanicEntry) (a : Act) (d : Option Tmp) (v : Value) (w : World), Q (.panic c) (a.put d v) w → Q (.panic c) a w)
    (h : KK n I fr l (DW P os.toArray Q I l0 plan)) : KK n I fr l ((Code.region id os.toArray true).wp P Q) := fun a w ha hw => by
  simp only [Bool.and_eq_true, beq_iff_eq] at hc
  have hw' : St I { w with drawn := w.drawn + 1 } l := hw.drawn _
  refine wp_region_any hm (wpAny_of_T _ (fun w => St I w l0) (fun j => ts.contains j) _ _ _ ?_)
  have := wpAnyT_of_plan (P := P) (md := .any) hc.1.1 hQ plan (fun w => St I w l0) ts (Array.replicate os.length false) a { w with drawn := w.drawn + 1 } hc.2 (h a _ ha hw')
  rw [hc.1.2] at this
  simpa using this
section
variable {J : Imm} {us : List Nat} {i : Nat} {r : List (Nat × Nat × List Nat)}
/-- In a drawn region: one that yields under l0. -/
theorem D_y (ho : ops[i]? = some o) (hy : Yv P n I fr l0 o v) (hg : wantd ops fr o = some true) (hd : o.dst = some d) (hn : Nat.blt d n = true)
    (h : KK n J ((d, v) :: fr) l (DW P ops Q I l0 r)) : KK n J fr l (DW P ops Q I l0 ((i, 0, us) :: r)) := fun a w ha hw => by
  unfold DW
  simp only [wpPlan]
  refine ⟨o, v, ho, .inl ⟨wantd_ok ha hg, fun w' hS => hy a w' ha hS⟩, ?_⟩
  rw [hd]
  exact h _ _ (ha.put hn v) hw
theorem D_skip (ho : ops[i]? = some o) (hg : wantd ops fr o = some false) (hd : o.dst = some d) (hn : Nat.blt d n = true)
    (h : KK n J ((d, undef) :: fr) l (DW P ops Q I l0 r)) : KK n J fr l (DW P ops Q I l0 ((i, 0, us) :: r)) := fun a w ha hw => by
  unfold DW
  simp only [wpPlan]
  refine ⟨o, undef, ho, .inr ⟨wantd_ok ha hg, rfl⟩, ?_⟩
  rw [hd]
  exact h _ _ (ha.put hn _) hw
/-- One that needs no memory. -/
theorem D_f (ho : ops[i]? = some o) (hy : ∀ (J : Imm) (m : List Itm), Yv P n J fr m o v) (hg : wantd ops fr o = some true) (hd : o.dst = some d) (hn : Nat.blt d n = true)
    (h : KK n J ((d, v) :: fr) l (DW P ops Q I l0 r)) : KK n J fr l (DW P ops Q I l0 ((i, 3, us) :: r)) := fun a w ha hw => by
  unfold DW
  simp only [wpPlan]
  refine ⟨o, v, ho, .inl ⟨wantd_ok ha hg, fun w' _ => hy (Imm.of w') [] a w' ha (St.of w')⟩, ?_⟩
  rw [hd]
  exact h _ _ (ha.put hn v) hw
theorem D_skip3 (ho : ops[i]? = some o) (hg : wantd ops fr o = some false) (hd : o.dst = some d) (hn : Nat.blt d n = true)
    (h : KK n J ((d, undef) :: fr) l (DW P ops Q I l0 r)) : KK n J fr l (DW P ops Q I l0 ((i, 3, us) :: r)) := fun a w ha hw => by
  unfold DW
  simp only [wpPlan]
  refine ⟨o, undef, ho, .inr ⟨wantd_ok ha hg, rfl⟩, ?_⟩
  rw [hd]
  exact h _ _ (ha.put hn _) hw
theorem D_skip1 (hS : ∀ w, St J w l → St I w l0) (ho : ops[i]? = some o) (hg : wantd ops fr o = some false) (hd : o.dst = some d) (hn : Nat.blt d n = true)
    (h : KK n J ((d, undef) :: fr) l (DW P ops Q I l0 r)) : KK n J fr l (DW P ops Q I l0 ((i, 1, us) :: r)) := fun a w ha hw => by
  unfold DW
  simp only [wpPlan, wpOp, ho]
  rw [wantd_ok ha hg, hd]
  exact ⟨hS w hw, h _ _ (ha.put hn _) hw⟩
theorem D_skip2 {J' : Imm} {l' : List Itm} (hS : ∀ w, St J w l → St I w l0) (ho : ops[i]? = some o) (hg : wantd ops fr o = some false) (hd : o.dst = some d) (hn : Nat.blt d n = true)
    (h : KK n J ((d, undef) :: fr) l (DW P ops Q J' l' r)) : KK n J fr l (DW P ops Q I l0 ((i, 2, us) :: r)) := fun a w ha hw => by
  unfold DW
  simp only [wpPlan, wpOp, ho]
  rw [wantd_ok ha hg, hd]
  exact ⟨hS w hw, _, h _ _ (ha.put hn _) hw⟩
/-- In a drawn region: one that acts, within the phase. -/
theorem D_a1 (hS : ∀ w, St J w l → St I w l0) (ho : ops[i]? = some o) (h : Oa P Q n J fr l o (fun a w => DW P ops Q I l0 r a w)) (hg : wantd ops fr o = some true) :
    KK n J fr l (DW P ops Q I l0 ((i, 1, us) :: r)) := fun a w ha hw => by
  unfold DW
  simp only [wpPlan, wpOp, ho]
  rw [if_pos (wantd_ok ha hg)]
  exact ⟨hS w hw, .inl (h a w ha hw)⟩
/-- One that ends the phase. -/
theorem D_a2 (hS : ∀ w, St J w l → St I w l0) (ho : ops[i]? = some o) (h : Oa P Q n J fr l o (fun a w => ∃ J' l', DW P ops Q J' l' r a w)) (hg : wantd ops fr o = some true) :
    KK n J fr l (DW P ops Q I l0 ((i, 2, us) :: r)) := fun a w ha hw => by
  unfold DW
  simp only [wpPlan, wpOp, ho]
  rw [if_pos (wantd_ok ha hg)]
  refine ⟨hS w hw, .inl ?_⟩
  have := h a w ha hw
  exact Oper.wp_mono (K := fun a w => ∃ J' l', DW P ops Q J' l' r a w) (fun a' w' ⟨J', l', h'⟩ => ⟨_, h'⟩) this
/-- Behind it: the next phase's items. -/
theorem D_t (J' : Imm) (l' : List Itm) (h : KK n J fr l (DW P ops Q J' l' r)) : KK n J fr l (fun a w => ∃ J' l', DW P ops Q J' l' r a w) :=
  fun a w ha hw => ⟨J', l', h a w ha hw⟩
theorem D_tz (h : KK n J fr l (Q .normal)) : KK n J fr l (fun a w => ∃ J' l', DW P ops Q J' l' [] a w) :=
  fun a w ha hw => ⟨J, l, hw, h a w ha hw⟩
theorem D_nil (hS : ∀ w, St J w l → St I w l0) (h : KK n J fr l (Q .normal)) : KK n J fr l (DW P ops Q I l0 []) := fun a w ha hw => ⟨hS w hw, h a w ha hw⟩
end
/-- One that yields, as an act (its world stays). -/
theorem Oa_y (hd : o.dst = some d) (hn : Nat.blt d n = true) (hy : Yv P n I fr l o v) (h : KK n I ((d, v) :: fr) l K) : Oa P Q n I fr l o K := fun a w ha hw => by
  unfold Oper.wp
  rw [hy a w ha hw]
  show K (a.put o.dst v) w
  rw [hd]
  exact h _ _ (ha.put hn v) hw
end rules
end Go.Proofs.YtfnmcpgajjkemaaDoor.SW
