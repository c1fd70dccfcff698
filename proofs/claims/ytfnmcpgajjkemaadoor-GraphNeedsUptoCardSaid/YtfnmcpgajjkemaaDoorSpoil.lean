/- The symbolic walk, part 14: an appended row and the old one beside it; structs that are compared. -/
import Derived.Test.YtfnmcpgajjkemaaDoorThaw
import Derived.Laws.StructEq
namespace Go.Proofs.YtfnmcpgajjkemaaDoor.SW
open Go Go.RowKit

section
variable {P : Program} {Q : Exit → Act → World → Prop} {n : Nat} {I : Imm} {fr : List (Nat × Value)} {l l' m : List Itm} {K : Act → World → Prop} {d : Nat} {ty t : TypeId} {p : String} {af : Array Edge} {g : Option (Nat × Bool)} {x y : Operand} {v v' u : Value}
variable {α : Type} {e : Enc α} {E : TypeId} {xs ys zs : List α}
theorem Oa.perm {o : Oper} (hp : l.Perm m) (h : Oa P Q n I fr m o K) : Oa P Q n I fr l o K := fun a w ha hw => h a w ha (hw.perm hp)
/-- Behind an append: the old slice lies in the new one, or in a block of its own. -/
def Old (e : Enc α) (E : TypeId) (v v' : Value) (k : Nat) (l l' : List Itm) : Prop := (l' = l ∧ ∀ i j, i < k → eptr v e.sz i j = eptr v' e.sz i j) ∨ ∃ xs : List α, xs.length = k ∧ l' = row e E v xs :: l
theorem a_app3 (T : Tab P) {b o c : Nat} {zz : List Value} {bb : Nat} (ht : T.sh t = .slice E) (hz : T.info E = some (zz, bb)) (hzl : Nat.beq zz.length e.sz = true) (hx : ev fr x = some v) (hy : ev fr y = some (.slice (some ⟨b, o, none⟩) ys.length c)) (hsrc : Rd I l b o (encs e ys))
    (hb : (xs.length + ys.length) * bb ≤ 140737488355328 ∧ xs.length + ys.length ≤ 140737488355328) (hn : Nat.blt d n = true)
    (h : ∀ v' l', Old e E v v' xs.length l l' → KK n I ((d, v') :: fr) (row e E v' (xs ++ ys) :: l') K) :
    Oa P Q n I fr (row e E v xs :: l) ⟨some d, .call ⟨.builtin .append, #[x, y], #[t, t]⟩, ty, p, af, g⟩ K := fun a w ha hw => by
  have hr : RowOk _ v E e.sz xs.length _ := hw.ok _ (List.mem_cons_self ..)
  refine a_app2 T ht hz hzl hx hy hsrc hb hn (fun v' hv' a2 w2 ha2 hw2 => h v' l (.inl ⟨rfl, fun i j hi => ?_⟩) a2 w2 ha2 hw2) (fun v' => h v' _ (.inr ⟨xs, rfl, rfl⟩)) a w ha hw
  have hr2 : RowOk _ v' E e.sz (xs ++ ys).length _ := hw2.ok _ (List.mem_cons_self ..)
  rcases hr.2 with ⟨_, h0⟩ | ⟨g1, c1, cur1, rfl, _⟩
  · omega
  · rcases hr2.2 with ⟨rfl, _⟩ | ⟨g2, c2, cur2, rfl, _⟩
    · simp [Value.ownBlock] at hv'
    · simp [Value.ownBlock] at hv'
      subst hv'
      rfl
/-- A store of one cell through the old slice. -/
theorem a_steo (T : Tab P) {sz k i j : Nat} {a' : α} {zz : List Value} {bb : Nat} (hO : Old e E v v' k l l') (hik : i < k) (hkz : k ≤ zs.length) (hs : Nat.beq sz e.sz = true) (hz : T.info t = some (zz, bb)) (h1 : Nat.beq zz.length 1 = true) (hx : ev fr x = some (eptr v sz i j)) (hy : ev fr y = some u) (hu : u.oneCell' = true) (hj : Nat.blt j e.sz = true) (hc : ∀ a, e.cells a' = (e.cells a).set j u)
    (h : ∀ zs' l'', zs'.length = zs.length → Old e E v v' k l l'' → KK n I fr (row e E v' zs' :: l'') K) : Oa P Q n I fr (row e E v' zs :: l') ⟨none, .store t x y, ty, p, af, g⟩ K := by
  have hs' := Nat.eq_of_beq_eq_true hs
  subst hs'
  rcases hO with ⟨rfl, hO⟩ | ⟨xs, hxl, rfl⟩
  · have hil : i < zs.length := by omega
    refine a_ste (a := zs[i]) (a' := a') T hs hz h1 (by rw [← hO i j hik]; exact hx) hy hu (List.getElem?_eq_getElem hil) hj (hc _) (h _ _ (by rw [List.length_set]) (.inl ⟨rfl, hO⟩))
  · have hil : i < xs.length := by omega
    refine Oa.perm (.swap _ _ _) (a_ste (a := xs[i]) (a' := a') T hs hz h1 hx hy hu (List.getElem?_eq_getElem hil) hj (hc _) ?_)
    exact K_perm (.swap _ _ _) (h _ _ rfl (.inr ⟨xs.set i a', by rw [List.length_set]; exact hxl, rfl⟩))
/-- A store of a whole element through the old slice. -/
theorem a_steao (T : Tab P) {sz k i : Nat} {a' : α} {zz us : List Value} {bb : Nat} (hO : Old e E v v' k l l') (hik : i < k) (hkz : k ≤ zs.length) (hs : Nat.beq sz e.sz = true) (hz : T.info t = some (zz, bb)) (h1 : Nat.beq zz.length e.sz = true) (hx : ev fr x = some (eptr v sz i 0)) (hy : ev fr y = some (.agg us.toArray)) (hc : e.cells a' = us)
    (h : ∀ zs' l'', zs'.length = zs.length → Old e E v v' k l l'' → KK n I fr (row e E v' zs' :: l'') K) : Oa P Q n I fr (row e E v' zs :: l') ⟨none, .store t x y, ty, p, af, g⟩ K := by
  have hs' := Nat.eq_of_beq_eq_true hs
  subst hs'
  rcases hO with ⟨rfl, hO⟩ | ⟨xs, hxl, rfl⟩
  · refine a_stea (a' := a') T hs hz h1 (by rw [← hO i 0 hik]; exact hx) hy (by omega) hc (h _ _ (by rw [List.length_set]) (.inl ⟨rfl, hO⟩))
  · refine Oa.perm (.swap _ _ _) (a_stea (a' := a') T hs hz h1 hx hy (by omega) hc ?_)
    exact K_perm (.swap _ _ _) (h _ _ rfl (.inr ⟨xs.set i a', by rw [List.length_set]; exact hxl, rfl⟩))
theorem St.old {k : Nat} {w : World} (hO : Old e E v v' k l l') (h : St I w l') : St I w l := by
  rcases hO with ⟨rfl, _⟩ | ⟨xs, _, rfl⟩
  · exact h
  · exact h.drop
theorem K_old {k : Nat} (hO : Old e E v v' k l l') (h : KK n I fr l K) : KK n I fr l' K := fun a w ha hw => h a w ha (hw.old hO)
/-- Two structs are compared. -/
theorem y_aeq {op : BinOp} {t' : TypeId} {xs ys : Array Value} {r : Bool} (he : op = .eql ∨ op = .neq) (hx : ev fr x = some (.agg xs)) (hy : ev fr y = some (.agg ys)) (hg : P.eqGuardType P.depth t = false) (hr : ∀ w, (Op.equalIn 10000 t (.agg xs) (.agg ys)).run P w = .ok r w) {dd : Option Tmp} :
    Yv P n I fr l ⟨dd, .binOp op t x y t', ty, p, af, g⟩ (.bool (if op = .eql then r else !r)) := fun a w ha _ => by
  rcases he with rfl | rfl
  · simp [execOp, ha.eval hx, ha.eval hy, run_eqGuard_agg w _ t x y xs ys hg, run_eql_struct, hr w]
  · simp [execOp, ha.eval hx, ha.eval hy, run_eqGuard_agg w _ t x y xs ys hg, run_neq_struct, hr w]
theorem y_aeql {t' : TypeId} {xs ys : Array Value} {r : Bool} {dd : Option Tmp} (hg : P.eqGuardType P.depth t = false) (hr : ∀ w, (Op.equalIn 10000 t (.agg xs) (.agg ys)).run P w = .ok r w) (hx : ev fr x = some (.agg xs)) (hy : ev fr y = some (.agg ys)) :
    Yv P n I fr l ⟨dd, .binOp .eql t x y t', ty, p, af, g⟩ (.bool r) := y_aeq (.inl rfl) hx hy hg hr
theorem y_aneq {t' : TypeId} {xs ys : Array Value} {r : Bool} {dd : Option Tmp} (hg : P.eqGuardType P.depth t = false) (hr : ∀ w, (Op.equalIn 10000 t (.agg xs) (.agg ys)).run P w = .ok r w) (hx : ev fr x = some (.agg xs)) (hy : ev fr y = some (.agg ys)) :
    Yv P n I fr l ⟨dd, .binOp .neq t x y t', ty, p, af, g⟩ (.bool (!r)) := y_aeq (.inr rfl) hx hy hg hr
theorem run_part_one {w : World} (T : Tab P) {xs : Array Value} {o : Nat} (ht : (T.sh t).plain = true) (hx : xs[o]? = some v) : (part t xs o).run P w = .ok v w := by
  simp [part, T.isAgg_plain ht, hx]
theorem run_part_agg {w : World} (T : Tab P) {xs : Array Value} {o bb : Nat} {zz : List Value} (ht : (T.sh t).agg = true) (hz : T.info t = some (zz, bb)) : (part t xs o).run P w = .ok (.agg (xs.extract o (o + zz.length))) w := by
  simp [part, T.isAgg_agg ht, T.sizeOf_ok hz]
theorem eqF_nil {w : World} {k : Nat} {xs ys : Array Value} : (Op.eqFields k xs ys []).run P w = .ok true w := rfl
theorem eqF_cons {w : World} {k : Nat} {xs ys : Array Value} {f : Field} {fs : List Field} {r s : Bool} (hn : f.name ≠ "_") {a b : Value} (hp : (part f.type xs f.offset).run P w = .ok a w) (hq : (part f.type ys f.offset).run P w = .ok b w)
    (he : (Op.equalIn k f.type a b).run P w = .ok r w) (hs : (Op.eqFields k xs ys fs).run P w = .ok s w) : (Op.eqFields k xs ys (f :: fs)).run P w = .ok (r && s) w := by
  simp only [Op.eqFields, Sem.run_ite, Sem.run_bind]
  rw [if_pos hn, hp]
  simp only [Result.andThen_ok, hq, he]
  cases r
  · rfl
  · simpa using hs
theorem eqI_int {w : World} {k : Nat} {kd : IntKind} {a b : Int} (T : Tab P) (h : T.sh t = .int kd) : (Op.equalIn (k + 1) t (.int kd a) (.int kd b)).run P w = .ok (decide (a = b)) w := by
  have := T.sh_ok t; rw [h] at this; rw [run_equalIn_int w k t kd kd a b this]; rfl
theorem eqI_str {w : World} {k : Nat} {a b : ByteArray} (T : Tab P) (h : T.sh t = .str) : (Op.equalIn (k + 1) t (.string a) (.string b)).run P w = .ok (decide (a = b)) w := by
  have := T.sh_ok t; rw [h] at this; rw [run_equalIn_string w k t a b this, ba_eq]
theorem eqI_bool {w : World} {k : Nat} {a b : Bool} (T : Tab P) (h : T.sh t = .bool) : (Op.equalIn (k + 1) t (.bool a) (.bool b)).run P w = .ok (decide (a = b)) w := by
  have := T.sh_ok t; rw [h] at this; rw [run_equalIn_bool' w k t a b this]; cases a <;> cases b <;> rfl
end
end Go.Proofs.YtfnmcpgajjkemaaDoor.SW
