/- The symbolic walk, part 15: how arguments are read; what a row's claim asks behind the call. -/
import Derived.Test.YtfnmcpgajjkemaaDoorSpoil
import Derived.Test.YtfnmcpgajjkemaaDoorRows
import Derived.Deep.Slices
import Derived.OpenShut
import Derived.ProofKit
import Derived.Deep.DeepHandedRow
import Derived.Shelf.Vars
namespace Go.Proofs.YtfnmcpgajjkemaaDoor.SW
open Go Go.RowKit Go.ChangeShapes Go.WideShapes

section bulk
variable {H : Type}
theorem bulk_pos (d : DataW H) : 1 ≤ Rows.uptoBulk d := by
  cases d with
  | lit l => cases l <;> simp [Rows.uptoBulk]
  | nil => simp [Rows.uptoBulk]
  | ptr d => simp [Rows.uptoBulk]
  | slice elems spare => simp [Rows.uptoBulk]
  | agg parts => simp [Rows.uptoBulk]
  | iface t d => simp [Rows.uptoBulk]
  | map entries => simp [Rows.uptoBulk]
  | held h => simp [Rows.uptoBulk]
theorem bulk_mem {d : DataW H} {l : List (DataW H)} (h : d ∈ l) : Rows.uptoBulk d ≤ Rows.uptoBulkAll l := by
  induction l with
  | nil => cases h
  | cons x r ih =>
    simp only [Rows.uptoBulkAll]
    rcases List.mem_cons.1 h with e | e
    · subst e; omega
    · have := ih e; omega
theorem bulk_len (l : List (DataW H)) : l.length ≤ Rows.uptoBulkAll l := by
  induction l with
  | nil => simp [Rows.uptoBulkAll]
  | cons x r ih => have := bulk_pos x; simp only [Rows.uptoBulkAll, List.length_cons]; omega
theorem bulk_slice (elems spare : List (DataW H)) : Rows.uptoBulkAll elems + 1 ≤ Rows.uptoBulk (.slice elems spare) := by simp only [Rows.uptoBulk]; omega
theorem bulk_str (b : List UInt8) : Rows.uptoBulk (DataW.lit (H := H) (.string b)) = b.length + 1 := by simp [Rows.uptoBulk]
theorem bulk_agg {d : DataW H} {l : List (DataW H)} (h : d ∈ l) : Rows.uptoBulk d ≤ Rows.uptoBulk (.agg l) := by have := bulk_mem h; simp only [Rows.uptoBulk]; omega
end bulk

theorem list_of {α : Type} {R : Nat → α → Prop} : ∀ {n : Nat}, (∀ i, i < n → ∃ x, R i x) → ∃ xs : List α, xs.length = n ∧ ∀ i x, xs[i]? = some x → R i x
  | 0, _ => ⟨[], rfl, fun i x h => by simp at h⟩
  | n + 1, h => by
    obtain ⟨xs, hl, hx⟩ := list_of (n := n) (fun i hi => h i (by omega))
    obtain ⟨y, hy⟩ := h n (by omega)
    refine ⟨xs ++ [y], by simp [hl], fun i x hi => ?_⟩
    rcases Nat.lt_or_ge i xs.length with h1 | h1
    · rw [List.getElem?_append_left h1] at hi; exact hx i x hi
    · rw [List.getElem?_append_right h1] at hi
      have h2 : i - xs.length = 0 := by
        rcases Nat.eq_zero_or_pos (i - xs.length) with h3 | h3
        · exact h3
        · rw [List.getElem?_eq_none (by simp; omega)] at hi; cases hi
      have h3 : i = n := by omega
      rw [h2] at hi
      simp at hi
      subst hi h3
      exact hy

section read
variable {H : Type} {enc : TypeId × Value → H} {P : Program} {W : World} {base : Nat} {sp : Nat → Bool} {held : Bool} {α : Type} {e : Enc α} {fuel : Nat} {cs : List Value} {d : DataW H} {ps : List MemPlace} {t E : TypeId}
/-- A slice that comes in, element for element. -/
theorem read_slice {Q : α → DataW H → Prop} (ht : P.underlying t = some (.slice E)) (hsz : P.cellsOf E = e.sz)
    (hel : ∀ fuel cs d ps, DataW.trod enc P W base sp held fuel E cs = some (d, ps) → ∃ x, e.cells x = cs ∧ Q x d) (h : DataW.trod enc P W base sp held fuel t cs = some (d, ps)) :
    ∃ (v : Value) (xs : List α), cs = [v] ∧ v.oneCell' = true ∧ RowI e (Imm.of W) v xs ∧ xs.length + 1 ≤ Rows.uptoBulk d ∧ ∀ (i : Nat) (x : α), xs[i]? = some x → ∃ y, Q x y ∧ Rows.uptoBulk y ≤ Rows.uptoBulk d := by
  rcases Deep.open_slice ht h with ⟨rfl, hx⟩ | ⟨a, len, cap, m, n, D, Pl, rfl, hb, hl, hm, hmm, hx, hel'⟩
  · cases hx
    exact ⟨_, [], rfl, rfl, RowI.nil e _, by simp [Rows.uptoBulk], fun i x hi => by simp at hi⟩
  · have hlm : len ≤ m := by rw [hmm]; split <;> omega
    obtain ⟨xs, hlen, hxs⟩ := list_of (n := len) (R := fun i x => ∃ cs', W.cells? base (a.add (i * P.cellsOf E)) (P.cellsOf E) = some cs' ∧ e.cells x = cs' ∧ Q x (D i)) (fun i hi => by
      obtain ⟨cs', h1, h2⟩ := hel' i (by omega)
      obtain ⟨x, h3, h4⟩ := hel _ _ _ _ h2
      exact ⟨x, cs', h1, h3, h4⟩)
    cases hx
    refine ⟨_, xs, rfl, rfl, ⟨some a, cap, by rw [hlen], by omega, ⟨by omega, fun h => by cases h⟩, fun hne => ?_⟩, ?_, fun i x hi => ?_⟩
    · have h0 : 0 < xs.length := List.length_pos_iff.2 hne
      obtain ⟨cs0, c1, c2, _⟩ := hxs 0 xs[0] (List.getElem?_eq_getElem h0)
      obtain ⟨_, c4, c5⟩ := World.cells?_some c1
      have hp := e.pos
      have c6 := c5 0 (by omega)
      obtain ⟨b, o, spot⟩ := a
      have h00 : ((⟨b, o, spot⟩ : Addr).add (0 * P.cellsOf E)).add 0 = ⟨b, o, spot⟩ := by simp [Addr.add]
      rw [h00, List.getElem?_eq_getElem (by omega)] at c6
      simp only [World.cell?] at c6
      cases hhp : W.heap[b]? with
      | none => rw [hhp] at c6; cases c6
      | some ob =>
        rw [hhp] at c6
        cases ob with
        | cells cur E0 f =>
          simp only at c6
          have hspot : spot = none := by
            cases spot with
            | none => rfl
            | some s => simp at c6
          subst hspot
          refine ⟨b, o, cur, E0, f, rfl, hhp, fun j u hj => ?_⟩
          have hjl : j < xs.length * e.sz := by
            have := (List.getElem?_eq_some_iff.1 hj).1
            rwa [encs_length] at this
          have hdiv : j / e.sz < xs.length := Nat.div_lt_of_lt_mul (by rw [Nat.mul_comm]; exact hjl)
          have hmod : j % e.sz < e.sz := Nat.mod_lt _ hp
          obtain ⟨cs1, d1, d2, _⟩ := hxs (j / e.sz) xs[j / e.sz] (List.getElem?_eq_getElem hdiv)
          obtain ⟨_, d4, d5⟩ := World.cells?_some d1
          have hm1 : (e.cells xs[j / e.sz])[j % e.sz]? = some ((e.cells xs[j / e.sz])[j % e.sz]'(by rw [e.len]; exact hmod)) := List.getElem?_eq_getElem _
          have h2 := encs_get e (List.getElem?_eq_getElem hdiv) hm1
          rw [Nat.div_add_mod'] at h2
          rw [h2] at hj
          cases hj
          have d6 := d5 (j % e.sz) (by omega)
          rw [← d2, hm1, add_pl, add_pl, hsz, Nat.add_assoc, Nat.div_add_mod'] at d6
          simp only [World.cell?, hhp] at d6
          simpa using d6
        | _ => cases c6
    · have h1 := bulk_slice ((List.range len).map D) ((List.range (m - len)).map fun j => D (len + j))
      have h2 := bulk_len ((List.range len).map D)
      simp at h2
      omega
    · have hi' : i < len := by rw [← hlen]; exact (List.getElem?_eq_some_iff.1 hi).1
      obtain ⟨_, _, _, h3⟩ := hxs i x hi
      refine ⟨_, h3, ?_⟩
      have h1 := bulk_slice ((List.range len).map D) ((List.range (m - len)).map fun j => D (len + j))
      have h2 : Rows.uptoBulk (D i) ≤ _ := bulk_mem (l := (List.range len).map D) (List.mem_map.2 ⟨i, by simpa using hi', rfl⟩)
      omega
theorem read_int {k : IntKind} (ht : P.underlying t = some (.int k)) (h : DataW.trod enc P W base sp held fuel t cs = some (d, ps)) : ∃ n, cs = [.int k n] ∧ (Lit.int k n).wf = true := by
  obtain ⟨n, h1, _, h3⟩ := DataW.trod_int ht h
  exact ⟨n, h1, h3⟩
theorem read_str (ht : P.underlying t = some .string) (h : DataW.trod enc P W base sp held fuel t cs = some (d, ps)) : ∃ s : ByteArray, cs = [.string s] ∧ s.size + 1 ≤ Rows.uptoBulk d := by
  obtain ⟨s, h1, h2, _⟩ := DataW.trod_string ht h
  cases h2
  refine ⟨s, h1, ?_⟩
  rw [bulk_str, Array.length_toList]
  exact Nat.le_refl _
theorem read_bool (ht : P.underlying t = some .bool) (h : DataW.trod enc P W base sp held fuel t cs = some (d, ps)) : ∃ b, cs = [.bool b] := by
  obtain ⟨b, h1, _⟩ := DataW.trod_bool ht h
  exact ⟨b, h1⟩
theorem wf_i64 {n : Int} (h : (Lit.int .i64 n).wf = true) : -9223372036854775808 ≤ n ∧ n ≤ 9223372036854775807 := by
  simp only [Lit.wf, IntKind.min, IntKind.max, IntKind.signed, IntKind.bits, Bool.and_eq_true, decide_eq_true_eq, if_true] at h
  exact ⟨by omega, by omega⟩
/-- A []int that comes in. -/
theorem read_ints (ht : P.underlying t = some (.slice E)) (he : P.underlying E = some (.int .i64)) (hc : P.cellsOf E = 1) (h : DataW.trod enc P W base sp held fuel t cs = some (d, ps)) :
    ∃ v xs, cs = [v] ∧ v.oneCell' = true ∧ RowI eInt (Imm.of W) v xs ∧ xs.length + 1 ≤ Rows.uptoBulk d ∧ ∀ x, x ∈ xs → -9223372036854775808 ≤ x ∧ x ≤ 9223372036854775807 := by
  obtain ⟨v, xs, h1, h2, h3, h4, h5⟩ := read_slice (e := eInt) (Q := fun x _ => -9223372036854775808 ≤ x ∧ x ≤ 9223372036854775807) ht hc (fun fuel cs d ps h => by
    obtain ⟨n, h1, h2⟩ := read_int he h
    exact ⟨n, h1.symm, wf_i64 h2⟩) h
  refine ⟨v, xs, h1, h2, h3, h4, fun x hx => ?_⟩
  obtain ⟨i, hi, rfl⟩ := List.mem_iff_getElem.1 hx
  obtain ⟨y, h6, _⟩ := h5 i _ (List.getElem?_eq_getElem hi)
  exact h6
/-- A [][]int that comes in. -/
theorem read_lists {F : TypeId} (ht : P.underlying t = some (.slice E)) (hE : P.underlying E = some (.slice F)) (hF : P.underlying F = some (.int .i64)) (hc : P.cellsOf E = 1) (hcF : P.cellsOf F = 1) (h : DataW.trod enc P W base sp held fuel t cs = some (d, ps)) :
    ∃ v vs xss, cs = [v] ∧ v.oneCell' = true ∧ RowII eInt (Imm.of W) v vs xss ∧ xss.length + 1 ≤ Rows.uptoBulk d ∧ ∀ i, i < xss.length → (xss.getD i []).length + 1 ≤ Rows.uptoBulk d := by
  obtain ⟨v, vs, h1, h2, h3, h4, h5⟩ := read_slice (e := eVal) (Q := fun u y => ∃ xs, RowI eInt (Imm.of W) u.1 xs ∧ xs.length + 1 ≤ Rows.uptoBulk y) ht hc (fun fuel cs d ps h => by
    obtain ⟨v, xs, h1, h2, h3, h4, _⟩ := read_ints hE hF hcF h
    exact ⟨⟨v, h2⟩, h1.symm, xs, h3, h4⟩) h
  obtain ⟨xss, hlen, hx⟩ := list_of (n := vs.length) (R := fun i (xs : List Int) => RowI eInt (Imm.of W) (vs.getD i svnil).1 xs ∧ xs.length + 1 ≤ Rows.uptoBulk d) (fun i hi => by
    obtain ⟨y, ⟨xs, h6, h7⟩, h8⟩ := h5 i _ (List.getElem?_eq_getElem hi)
    exact ⟨xs, by rw [List.getD_eq_getElem?_getD, List.getElem?_eq_getElem hi]; exact h6, by omega⟩)
  refine ⟨v, vs, xss, h1, h2, ⟨h3, hlen.symm, fun i hi => (hx i _ (get_of [] hi)).1⟩, by omega, fun i hi => (hx i _ (get_of [] hi)).2⟩
theorem cells_of_arg {v u : Value} (hf : ∃ a l c, v = .slice a l c) (h : v.cells.toList = [u]) : v = u := by
  obtain ⟨a, l, c, rfl⟩ := hf
  simpa [Value.cells] using h
end read

/-! ### Behind the call -/
section behind
variable {H : Type} {enc : TypeId × Value → H} {P : Program}
theorem St.old_heap {W W' : World} {J : Imm} {m : List Itm} (hJ : (Imm.of W).le J) (hw : St J W' m) {b : Nat} (hb : b < W.heap.size) : W'.heap[b]? = W.heap[b]? := by
  rw [Array.getElem?_eq_getElem hb]
  exact hw.imm b _ (hJ.at_ b _ (by show W.heap[b]? = _; exact Array.getElem?_eq_getElem hb))
theorem trodAll_stays {W W' : World} {base : Nat} {sp' : Nat → Bool} (hl : laidOutB P = true) : ∀ {ts : List TypeId} {vs : List Value} {ds : List (DataW H)} {ps : List MemPlace},
    (∀ t, t ∈ ts → P.readableRec t = true ∧ t < P.types.size) → DataW.TrodAll enc P W base (fun _ => true) true ts vs ds ps → (∀ p ∈ ps, W.sameAt W' p) → (∀ p ∈ ps, sp' p.block = true) → DataW.TrodAll enc P W' base sp' true ts vs ds ps
  | [], _, _, _, _, h, _, _ => by
    obtain ⟨rfl, rfl, rfl⟩ := trodAll_nil h
    exact trodAll_mk0
  | t :: ts, _, _, _, ht, h, hs, hp => by
    obtain ⟨v, vs', d, ds', p, q, rfl, rfl, rfl, h1, h2⟩ := trodAll_cons h
    have h3 := ht t (List.mem_cons_self ..)
    exact trodAll_cons_mk (WideElems.Trod_stays hl h3.1 h3.2 h1 (fun x hx => hs x (List.mem_append_left _ hx)) (fun x hx => hp x (List.mem_append_left _ hx)))
      (trodAll_stays hl (fun u hu => ht u (List.mem_cons_of_mem _ hu)) h2 (fun x hx => hs x (List.mem_append_right _ hx)) (fun x hx => hp x (List.mem_append_right _ hx)))
/-- The law has answered true, and all that was there stands. -/
theorem post_true {f : Func} {s : ChangeSpec} {apart fresh handsOn again : Bool} {W W' : World} {args : Array Value} {ds : List (DataW H)} {before : List MemPlace} {t : TypeId} {J : Imm} {m : List Itm}
    (hW : DataW.Whole enc P f.params.toList s.vars apart W args.toList ds [] before) (hv : s.vars = []) (hl : laidOutB P = true) (hp : ∀ t, t ∈ f.params.toList → P.readableRec t = true ∧ t < P.types.size)
    (hres : f.resultTypes = #[t]) (ht : P.underlying t = some .bool) (hfn : s.fn H ds = { results := [.lit (.bool true)], args := ds }) (hJ : (Imm.of W).le J) (hw : St J W' m) :
    s.post enc P f apart fresh handsOn again W args (.bool true) W' := by
  have hlt := hW.lt
  have hold : ∀ b, b < W.heap.size → W'.heap[b]? = W.heap[b]? := fun b hb => St.old_heap hJ hw hb
  have hW' := hW
  obtain ⟨p, q, h1, h2, rfl, h4, h5⟩ := hW
  rw [hv] at h2
  obtain ⟨_, rfl⟩ := trodVars_none h2
  simp only [List.append_nil] at hlt h4 h5 hW'
  have hsame : ∀ x ∈ p, W.sameAt W' x := fun x hx => by
    have := hold _ (hlt x hx)
    cases x with
    | cell b off => simp only [World.sameAt, World.cell?]; rw [show W'.heap[b]? = W.heap[b]? from this]
    | map b => exact this
  have hargs : ∀ sp : Nat → Bool, (∀ x ∈ p, sp x.block = true) → DataW.TrodAll enc P W' 0 sp true f.params.toList args.toList ds p := fun sp hsp => trodAll_stays hl hp h1 hsame hsp
  have hr : ∀ b (sp : Nat → Bool) hd, DataW.TrodAll enc P W' b sp hd f.resultTypes.toList ((Value.bool true).resultList f.resultTypes.size) (s.fn H (ds ++ [])).results [] := fun b sp hd => by
    rw [List.append_nil, hfn, hres]
    exact trodAll_cons_mk (shut_bool ht true) trodAll_mk0
  have ha : ∀ sp : Nat → Bool, (∀ x ∈ p, sp x.block = true) → DataW.TrodAll enc P W' 0 sp true f.params.toList args.toList (s.fn H (ds ++ [])).args p := fun sp hsp => by
    rw [List.append_nil, hfn]; exact hargs sp hsp
  have hvv : ∀ sp : Nat → Bool, DataW.TrodVars enc P W' sp s.vars (s.fn H (ds ++ [])).vars [] := fun sp => by
    rw [List.append_nil, hfn, hv]; rfl
  refine ⟨ds, [], p, [], p, [], hW', hr _ _ _, ha _ (fun x hx => by simpa using hlt x hx), hvv _, ⟨?_, ?_, fun i hi => ?_⟩, fun _ => ⟨?_, ?_⟩⟩
  · exact hw.os.trans hJ.os
  · exact hw.output.trans hJ.output
  · rw [hold i hi]
    cases hh : W.heap[i]? with
    | none => trivial
    | some o => cases o <;> first | exact ⟨rfl, rfl, rfl, fun _ _ => rfl⟩ | exact .inr ⟨rfl, rfl⟩ | rfl
  · intro j t' r hj hr'
    rw [hres] at hj hr'
    have hj0 : j = 0 := by
      have := (Array.getElem?_eq_some_iff.1 hj).1
      simpa using this
    subst hj0
    simp at hj
    subst hj
    have : r = .bool true := by
      simp [Value.resultList] at hr'
      exact hr'.symm
    subst this
    exact okWide_bool_mk ht true
  · refine ⟨_, _, ([] ++ p) ++ [], ⟨[] ++ p, [], trodAll_append (ha _ (fun _ _ => rfl)) (hr _ _ _), hvv _, rfl, ?_, ?_⟩, ?_⟩
    · intro b off hx
      simp only [List.nil_append, List.append_nil] at hx
      have h6 := hold _ (hlt _ hx)
      have h7 := h4 b off hx
      simp only [World.frozen?] at h7 ⊢
      rw [show W'.heap[b]? = W.heap[b]? from h6]
      exact h7
    · intro h6
      simpa using h5 h6
    · intro x hx _
      simpa using hx
end behind
end Go.Proofs.YtfnmcpgajjkemaaDoor.SW
