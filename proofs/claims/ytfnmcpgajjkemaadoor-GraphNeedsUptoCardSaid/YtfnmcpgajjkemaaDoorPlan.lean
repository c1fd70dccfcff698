/- The symbolic walk, part 17: a drawn region in which several acts may come next: by a plan that parts. -/
import Derived.Test.YtfnmcpgajjkemaaDoorThaw
namespace Go.Proofs.YtfnmcpgajjkemaaDoor.SW
open Go Go.RowKit

/-- A plan that parts: 'q': one that yields (with memory, or without); 'act': one of the acts that may come (e: it ends the phase; us: the next phase's enders), and the others. -/
inductive Pl where
  | nil
  | q (i : Nat) (mem : Bool) (r : Pl)
  | act (i : Nat) (e : Bool) (us : List Nat) (r : Pl) (more : Pl)
def Pl.len : Pl → Nat
  | .nil => 0
  | .q _ _ r => r.len + 1
  | .act _ _ _ r _ => r.len + 1
def Pl.sz : Pl → Nat
  | .nil => 1
  | .q _ _ r => r.sz + 1
  | .act _ _ _ r more => r.sz + more.sz + 1
def Pl.alts : Pl → List Nat
  | .act i _ _ _ more => i :: more.alts
  | _ => []
mutual
def plOk (md : Region.Mode) (ops : Array Oper) : Pl → List Nat → Array Bool → Bool
  | .nil, _, listed => (Region.ready md ops listed).isEmpty
  | .q i mem r, ts, listed => Region.free md ops listed i && (Region.ready md ops listed).contains i && (!mem || (!ts.contains i && waitsAll md ops ts i)) && plOk md ops r ts (listed.setIfInBounds i true)
  | .act i e us r more, ts, listed => (Region.ready md ops listed == i :: more.alts) && (ts.contains i == e) && plOk md ops r (if e then us else ts) (listed.setIfInBounds i true) && plMore md ops more ts listed r.len
def plMore (md : Region.Mode) (ops : Array Oper) : Pl → List Nat → Array Bool → Nat → Bool
  | .nil, _, _, _ => true
  | .q .., _, _, _ => false
  | .act i e us r more, ts, listed, n => (ts.contains i == e) && (r.len == n) && plOk md ops r (if e then us else ts) (listed.setIfInBounds i true) && plMore md ops more ts listed n
end
section
variable (P : Program) (ops : Array Oper) (Q : Exit → Act → World → Prop)
mutual
def wpPl : Pl → (World → Prop) → Act → World → Prop
  | .nil, S, a, w => S w ∧ Q .normal a w
  | .q i mem r, S, a, w => ∃ o v, ops[i]? = some o ∧ YieldsIf P ops (fun w => mem = true → S w) o v a ∧ wpPl r S (a.put o.dst v) w
  | .act i e _ r more, S, a, w => S w ∧ wpOp P ops Q i (fun a' w' => (e = false → wpPl r S a' w') ∧ (e = true → ∃ S', wpPl r S' a' w')) a w ∧ wpMo more S a w
def wpMo : Pl → (World → Prop) → Act → World → Prop
  | .nil, _, _, _ => True
  | .q .., _, _, _ => False
  | .act i e _ r more, S, a, w => wpOp P ops Q i (fun a' w' => (e = false → wpPl r S a' w') ∧ (e = true → ∃ S', wpPl r S' a' w')) a w ∧ wpMo more S a w
end
end
section
variable {P : Program} {n : Nat} {I : Imm} {fr fr' : List (Nat × Value)} {l l0 m : List Itm} {K K' : Act → World → Prop} {Q : Exit → Act → World → Prop} {ops : Array Oper} {rest : List Oper} {o : Oper} {v : Value} {d : Nat}
theorem plMore_spec {md : Region.Mode} : ∀ {more : Pl} {ts : List Nat} {listed : Array Bool} {k : Nat} {S : World → Prop} {a : Act} {w : World}, plMore md ops more ts listed k = true → wpMo P ops Q more S a w → ∀ j, j ∈ more.alts →
    ∃ e us r, ts.contains j = e ∧ r.len = k ∧ plOk md ops r (if e then us else ts) (listed.setIfInBounds j true) = true ∧ wpOp P ops Q j (fun a' w' => (e = false → wpPl P ops Q r S a' w') ∧ (e = true → ∃ S', wpPl P ops Q r S' a' w')) a w ∧ r.sz < more.sz
  | .nil, _, _, _, _, _, _, _, _, j, hj => by cases hj
  | .q .., _, _, _, _, _, _, h, _, _, _ => by simp [plMore] at h
  | .act i e us r more, ts, listed, k, S, a, w, h, hw, j, hj => by
    simp only [plMore, Bool.and_eq_true, beq_iff_eq] at h
    simp only [wpMo] at hw
    rcases List.mem_cons.1 hj with rfl | hj
    · exact ⟨e, us, r, h.1.1.1, h.1.1.2, h.1.2, hw.1, by simp only [Pl.sz]; omega⟩
    · obtain ⟨e', us', r', h1, h2, h3, h4, h5⟩ := plMore_spec h.2 hw.2 j hj
      exact ⟨e', us', r', h1, h2, h3, h4, by simp only [Pl.sz]; omega⟩
theorem wpAnyT_of_pl {md : Region.Mode} (hs : Region.noSelect ops = true) (hQ : ∀ (c : List PanicEntry) (a : Act) (d : Option Tmp) (v : Value) (w : World), Q (.panic c) (a.put d v) w → Q (.panic c) a w)
    (pl : Pl) (S : World → Prop) (ts : List Nat) (listed : Array Bool) (a : Act) (w : World) (hp : plOk md ops pl ts listed = true) (h : wpPl P ops Q pl S a w) : wpAnyT P md ops Q pl.len S (fun j => ts.contains j) listed a w := by
  match pl, hp, h with
  | .nil, hp, h => exact ⟨h.1, by simpa [plOk] using hp, h.2⟩
  | .q i false r, hp, h =>
    simp only [plOk, Bool.and_eq_true] at hp
    obtain ⟨o, v, ho, hy, hr⟩ := h
    exact wpAnyT_free ho (Region.noSelect_spec hs) (fun c a w hh => hQ c a _ _ w hh) r.len S _ listed a w (Region.free_spec ho hp.1.1.1) (by simpa using hp.1.1.2) (by rw [show (fun w => false = true → S w) = (fun _ => True) from funext fun w => by simp] at hy; exact hy) (wpAnyT_of_pl hs hQ r _ _ _ _ _ hp.2 hr)
  | .q i true r, hp, h =>
    simp only [plOk, Bool.and_eq_true, Bool.not_true, Bool.false_or, Bool.not_eq_true'] at hp
    obtain ⟨o, v, ho, hy, hr⟩ := h
    refine wpAnyT_first ho (Region.noSelect_spec hs) (fun c a w hh => hQ c a _ _ w hh) hp.1.2.1 (fun j oj hj htj => ?_) r.len listed a w (Region.free_spec ho hp.1.1.1) (by simpa using hp.1.1.2) (by rw [show (fun w => true = true → S w) = S from funext fun w => by simp] at hy; exact hy) (wpAnyT_of_pl hs hQ r _ _ _ _ _ hp.2 hr)
    have h1 := hp.1.2.2
    simp only [waitsAll, List.all_eq_true] at h1
    have h2 := h1 j (by simpa using htj)
    rw [hj] at h2
    simp only at h2
    obtain ⟨e, he, hb⟩ := Array.any_eq_true'.1 h2
    simp only [Bool.and_eq_true, beq_iff_eq] at hb
    exact ⟨e, he, hb.1, hb.2⟩
  | .act i e us r more, hp, h =>
    simp only [plOk, Bool.and_eq_true, beq_iff_eq] at hp
    simp only [wpPl] at h
    have key : ∀ (j : Nat) (e : Bool) (us : List Nat) (r' : Pl), ts.contains j = e → r'.len = r.len → plOk md ops r' (if e then us else ts) (listed.setIfInBounds j true) = true → r'.sz < (Pl.act i e us r more).sz →
        wpOp P ops Q j (fun a' w' => (e = false → wpPl P ops Q r' S a' w') ∧ (e = true → ∃ S', wpPl P ops Q r' S' a' w')) a w →
        wpOp P ops Q j (fun a' w' => (ts.contains j = false → wpAnyT P md ops Q r.len S (fun j => ts.contains j) (listed.setIfInBounds j true) a' w') ∧ (ts.contains j = true → ∃ S' tl', wpAnyT P md ops Q r.len S' tl' (listed.setIfInBounds j true) a' w')) a w := by
      intro j e us r' h1 h2 h3 h5 h4
      refine wpOp_mono (fun a' w' h' => ⟨fun e0 => ?_, fun e0 => ?_⟩) h4
      · rw [h1] at e0
        subst e0
        rw [← h2]
        exact wpAnyT_of_pl hs hQ r' S ts _ a' w' (by simpa using h3) (h'.1 rfl)
      · rw [h1] at e0
        subst e0
        obtain ⟨S', h6⟩ := h'.2 rfl
        refine ⟨S', fun j => us.contains j, ?_⟩
        rw [← h2]
        exact wpAnyT_of_pl hs hQ r' S' us _ a' w' (by simpa using h3) h6
    refine ⟨h.1, fun h0 => absurd (hp.1.1.1 ▸ h0) (by simp), fun j hj => ?_⟩
    rw [hp.1.1.1] at hj
    rcases List.mem_cons.1 hj with rfl | hj
    · exact key _ e us r hp.1.1.2 rfl hp.1.2 (by simp only [Pl.sz]; omega) h.2.1
    · obtain ⟨e', us', r', h1, h2, h3, h4, h5⟩ := plMore_spec hp.2 h.2.2 j hj
      exact key j e' us' r' h1 h2 h3 (by simp only [Pl.sz]; omega) h4
termination_by pl.sz
decreasing_by
  all_goals first
    | (simp only [Pl.sz]; omega)
    | assumption
    | omega
/-- The region's walk by a plan that parts, under the items l0 that stay throughout the phase. -/
def DT (P : Program) (ops : Array Oper) (Q : Exit → Act → World → Prop) (I : Imm) (l0 : List Itm) (pl : Pl) (a : Act) (w : World) : Prop := wpPl P ops Q pl (fun w => St I w l0) a w
def MT (P : Program) (ops : Array Oper) (Q : Exit → Act → World → Prop) (I : Imm) (l0 : List Itm) (pl : Pl) (a : Act) (w : World) : Prop := wpMo P ops Q pl (fun w => St I w l0) a w
theorem K_drawT {id : Nat} {os : List Oper} (pl : Pl) (ts : List Nat) (l0 : List Itm) (hm : P.follows .mixedOrders = true)
    (hc : (Region.noSelect os.toArray && (pl.len == os.length) && plOk .any os.toArray pl ts (Array.replicate os.length false)) = true)
    (hQ : ∀ (c : List PanicEntry) (a : Act) (d : Option Tmp) (v : Value) (w : World), Q (.panic c) (a.put d v) w → Q (.panic c) a w)
    (h : KK n I fr l (DT P os.toArray Q I l0 pl)) : KK n I fr l ((Code.region id os.toArray true).wp P Q) := fun a w ha hw => by
  simp only [Bool.and_eq_true, beq_iff_eq] at hc
  have hw' : St I { w with drawn := w.drawn + 1 } l := hw.drawn _
  refine wp_region_any hm (wpAny_of_T _ (fun w => St I w l0) (fun j => ts.contains j) _ _ _ ?_)
  have := wpAnyT_of_pl (P := P) (md := .any) hc.1.1 hQ pl (fun w => St I w l0) ts (Array.replicate os.length false) a { w with drawn := w.drawn + 1 } hc.2 (h a _ ha hw')
  rw [hc.1.2] at this
  simpa using this
variable {J : Imm} {us : List Nat} {i : Nat} {r more : Pl}
theorem T_y (ho : ops[i]? = some o) (hy : Yv P n I fr l0 o v) (hg : wantd ops fr o = some true) (hd : o.dst = some d) (hn : Nat.blt d n = true)
    (h : KK n J ((d, v) :: fr) l (DT P ops Q I l0 r)) : KK n J fr l (DT P ops Q I l0 (.q i true r)) := fun a w ha hw => by
  unfold DT
  simp only [wpPl]
  refine ⟨o, v, ho, .inl ⟨wantd_ok ha hg, fun w' hS => hy a w' ha (hS trivial)⟩, ?_⟩
  rw [hd]
  exact h _ _ (ha.put hn v) hw
theorem T_f (ho : ops[i]? = some o) (hy : ∀ (J : Imm) (m : List Itm), Yv P n J fr m o v) (hg : wantd ops fr o = some true) (hd : o.dst = some d) (hn : Nat.blt d n = true)
    (h : KK n J ((d, v) :: fr) l (DT P ops Q I l0 r)) : KK n J fr l (DT P ops Q I l0 (.q i false r)) := fun a w ha hw => by
  unfold DT
  simp only [wpPl]
  refine ⟨o, v, ho, .inl ⟨wantd_ok ha hg, fun w' _ => hy (Imm.of w') [] a w' ha (St.of w')⟩, ?_⟩
  rw [hd]
  exact h _ _ (ha.put hn v) hw
theorem T_skip {mem : Bool} (ho : ops[i]? = some o) (hg : wantd ops fr o = some false) (hd : o.dst = some d) (hn : Nat.blt d n = true)
    (h : KK n J ((d, undef) :: fr) l (DT P ops Q I l0 r)) : KK n J fr l (DT P ops Q I l0 (.q i mem r)) := fun a w ha hw => by
  unfold DT
  simp only [wpPl]
  refine ⟨o, undef, ho, .inr ⟨wantd_ok ha hg, rfl⟩, ?_⟩
  rw [hd]
  exact h _ _ (ha.put hn _) hw
theorem M_nil : KK n J fr l (MT P ops Q I l0 .nil) := fun _ _ _ _ => trivial
theorem M_a1 (ho : ops[i]? = some o) (hg : wantd ops fr o = some true) (h : Oa P Q n J fr l o (fun a w => DT P ops Q I l0 r a w)) (hm : KK n J fr l (MT P ops Q I l0 more)) :
    KK n J fr l (MT P ops Q I l0 (.act i false us r more)) := fun a w ha hw => by
  unfold MT
  simp only [wpMo, wpOp, ho]
  rw [if_pos (wantd_ok ha hg)]
  exact ⟨.inl (Oper.wp_mono (fun a' w' h' => ⟨fun _ => h', fun e => by cases e⟩) (h a w ha hw)), hm a w ha hw⟩
theorem M_a2 (ho : ops[i]? = some o) (hg : wantd ops fr o = some true) (h : Oa P Q n J fr l o (fun a w => ∃ J' l', DT P ops Q J' l' r a w)) (hm : KK n J fr l (MT P ops Q I l0 more)) :
    KK n J fr l (MT P ops Q I l0 (.act i true us r more)) := fun a w ha hw => by
  unfold MT
  simp only [wpMo, wpOp, ho]
  rw [if_pos (wantd_ok ha hg)]
  exact ⟨.inl (Oper.wp_mono (K := fun a w => ∃ J' l', DT P ops Q J' l' r a w) (fun a' w' ⟨J', l', h'⟩ => ⟨fun e => (by cases e), fun _ => ⟨_, h'⟩⟩) (h a w ha hw)), hm a w ha hw⟩
theorem M_skip {e : Bool} (ho : ops[i]? = some o) (hg : wantd ops fr o = some false) (hd : o.dst = some d) (hn : Nat.blt d n = true) (h : KK n J ((d, undef) :: fr) l (fun a w => ∃ J' l', (e = false → J' = I ∧ l' = l0) ∧ DT P ops Q J' l' r a w)) (hm : KK n J fr l (MT P ops Q I l0 more)) :
    KK n J fr l (MT P ops Q I l0 (.act i e us r more)) := fun a w ha hw => by
  unfold MT
  simp only [wpMo, wpOp, ho]
  rw [wantd_ok ha hg, hd]
  obtain ⟨J', l', h1, h2⟩ := h _ _ (ha.put hn _) hw
  exact ⟨⟨fun e0 => (by obtain ⟨rfl, rfl⟩ := h1 e0; exact h2), fun _ => ⟨_, h2⟩⟩, hm a w ha hw⟩
theorem T_acts {e : Bool} (hS : ∀ w, St J w l → St I w l0) (h : KK n J fr l (MT P ops Q I l0 (.act i e us r more))) : KK n J fr l (DT P ops Q I l0 (.act i e us r more)) := fun a w ha hw => by
  have := h a w ha hw
  unfold MT at this
  unfold DT
  simp only [wpMo] at this
  simp only [wpPl]
  exact ⟨hS w hw, this.1, this.2⟩
theorem T_t (J' : Imm) (l' : List Itm) (h : KK n J fr l (DT P ops Q J' l' r)) : KK n J fr l (fun a w => ∃ J' l', DT P ops Q J' l' r a w) := fun a w ha hw => ⟨J', l', h a w ha hw⟩
/-- The next phase, with nothing that must stay. -/
theorem T_t0 (h : KK n J fr l (DT P ops Q J [] r)) : KK n J fr l (fun a w => ∃ J' l', DT P ops Q J' l' r a w) := fun a w ha hw => ⟨J, [], h a w ha hw⟩
theorem T_nil (hS : ∀ w, St J w l → St I w l0) (h : KK n J fr l (Q .normal)) : KK n J fr l (DT P ops Q I l0 .nil) := fun a w ha hw => ⟨hS w hw, h a w ha hw⟩
/-! ### A row that is read by calls, and written later -/
theorem St.back {w : World} (h : I.le J) (hw : St J w l) : St I w l := by
  refine ⟨hw.os.trans h.os, hw.tape.trans h.tape, hw.output.trans h.output, fun b o hb => hw.imm b o (h.at_ b o hb), hw.nodup, fun b hb => ?_, hw.bound, hw.ok⟩
  cases hi : I.at_ b with
  | none => rfl
  | some o => have := h.at_ b o hi; rw [hw.apart b hb] at this; cases this
theorem Imm.le_del2 {b : Nat} (h : I.le J) (hb : I.at_ b = none) : I.le (J.del b) := by
  refine ⟨fun k p hk => ?_, h.os, h.tape, h.output⟩
  simp only [Imm.del]
  have hne : k ≠ b := fun e => by rw [e, hb] at hk; cases hk
  rw [if_neg hne]
  exact h.at_ k p hk
/-- What a block holds that is lent. -/
structure Lent {α : Type} (e : Enc α) (xs : List α) (cap : Nat) (cur : Array Value) : Prop where
  le : xs.length ≤ cap
  max : cap ≤ maxLen
  size : cur.size = cap * e.sz
  take : cur.toList.take (xs.length * e.sz) = encs e xs
theorem K_lendrow {α : Type} {e : Enc α} {E : TypeId} {b cap : Nat} {xs : List α} (h : ∀ J cur, I.le J → I.at_ b = none → J.at_ b = some (.cells cur E (0, 0)) → Lent e xs cap cur → RowI e J (.slice (some ⟨b, 0, none⟩) xs.length cap) xs → KK n J fr l K) :
    KK n I fr (row e E (.slice (some ⟨b, 0, none⟩) xs.length cap) xs :: l) K := fun a w ha hw => by
  have hr : RowOk _ _ E e.sz xs.length _ := hw.ok _ (List.mem_cons_self ..)
  rcases hr.2 with ⟨h0, _⟩ | ⟨g, cap', cur, h0, hg, h1, h2, h3, h4⟩
  · cases h0
  · cases h0
    have hb : St I w (blk b (.cells cur E (0, 0)) :: l) := by
      refine ⟨hw.os, hw.tape, hw.output, hw.imm, hw.nodup, hw.apart, hw.bound, fun it hi => ?_⟩
      rcases List.mem_cons.1 hi with rfl | hi
      · exact hg
      · exact hw.ok it (List.mem_cons_of_mem _ hi)
    have hn : I.at_ b = none := hb.apart b (by simp [fps_cons, blk])
    refine h _ cur hb.freeze.2 hn (Imm.add_at I b _) ⟨h1, h2, h3, h4⟩ ⟨some ⟨b, 0, none⟩, cap, rfl, h1, ⟨by omega, fun e => by cases e⟩, fun _ => ⟨b, 0, cur, E, (0, 0), rfl, Imm.add_at I b _, fun j u hj => ?_⟩⟩ a w ha hb.freeze.1
    rw [← h4, List.getElem?_take] at hj
    split at hj
    · simpa using hj
    · cases hj
theorem K_thawrow {α : Type} {e : Enc α} {E : TypeId} {b cap : Nat} {xs : List α} {cur : Array Value} (hb : I.at_ b = some (.cells cur E (0, 0))) (hL : Lent e xs cap cur) (h : KK n (I.del b) fr (row e E (.slice (some ⟨b, 0, none⟩) xs.length cap) xs :: l) K) : KK n I fr l K := fun a w ha hw => by
  have ht := hw.thaw hb
  refine h a w ha ⟨ht.os, ht.tape, ht.output, ht.imm, ht.nodup, ht.apart, ht.bound, fun it hi => ?_⟩
  rcases List.mem_cons.1 hi with rfl | hi
  · exact ⟨by rw [encs_length], .inr ⟨b, cap, cur, rfl, ht.at_blk, hL.le, hL.max, hL.size, hL.take⟩⟩
  · exact ht.ok it (List.mem_cons_of_mem _ hi)
end
end Go.Proofs.YtfnmcpgajjkemaaDoor.SW
