/- Instances that come in. Printed by wip/gen/rdi16.py. -/
import Derived.Test.YtfnmcpgajjkemaaDoorRd
import Derived.Test.YtfnmcpgajjkemaaDoorG22
namespace Go.Proofs.YtfnmcpgajjkemaaDoor
open Go Go.RowKit Go.ChangeShapes Go.WideShapes Go.Proofs.YtfnmcpgajjkemaaDoor.SW
set_option maxRecDepth 100000
theorem one_at {l : List Value} {o : Nat} {v : Value} (h : (l.drop o).take 1 = [v]) : l[o]? = some v := by
  have h1 : ((l.drop o).take 1)[0]? = some v := by rw [h]; rfl
  rw [List.getElem?_take] at h1
  simpa [List.getElem?_drop] using h1
theorem part_at {l us : List Value} {o k : Nat} (h : us = (l.drop o).take k) {j : Nat} {v : Value} (hj : us[j]? = some v) : l[o + j]? = some v := by
  rw [h, List.getElem?_take] at hj
  split at hj
  · rw [List.getElem?_drop] at hj; exact hj
  · cases hj
theorem list_eq_of {cs vs : List Value} (hl : cs.length = vs.length) (h : ∀ j, j < vs.length → cs[j]? = vs[j]?) : vs = cs := by
  refine List.ext_getElem? fun j => ?_
  by_cases hj : j < vs.length
  · exact (h j hj).symm
  · rw [List.getElem?_eq_none (by omega), List.getElem?_eq_none (by omega)]
section
variable {H : Type} {enc : TypeId × Value → H} {P : Program} {W : World} {base : Nat} {sp : Nat → Bool} {held : Bool}
theorem field_at {fs : Array Field} {cs : List Value} {xs : List (DataW H × List MemPlace)} {n : Nat} (hxl : xs.length = fs.size) (hf : ∀ (i : Nat) (f : Field), fs[i]? = some f → DataW.trod enc P W base sp held n f.type ((cs.drop f.offset).take (P.cellsOf f.type)) = xs[i]?)
    (i ft off : Nat) (hi : (fs[i]?).map (fun f => (f.type, f.offset)) = some (ft, off)) : ∃ y p, DataW.trod enc P W base sp held n ft ((cs.drop off).take (P.cellsOf ft)) = some (y, p) ∧ y ∈ xs.map (·.1) := by
  cases h : fs[i]? with
  | none => rw [h] at hi; cases hi
  | some f =>
    rw [h] at hi
    simp only [Option.map_some, Option.some.injEq, Prod.mk.injEq] at hi
    obtain ⟨rfl, rfl⟩ := hi
    have h1 := hf i f h
    have h2 : i < xs.length := by rw [hxl]; exact (Array.getElem?_eq_some_iff.1 h).1
    rw [List.getElem?_eq_getElem h2] at h1
    exact ⟨xs[i].1, xs[i].2, h1, List.mem_map.2 ⟨xs[i], List.getElem_mem h2, rfl⟩⟩
end
theorem read_fault {H : Type} {enc : TypeId × Value → H} {W : World} {base : Nat} {sp : Nat → Bool} {held : Bool} {fuel : Nat} {cs : List Value} {d : DataW H} {ps : List MemPlace} (h : DataW.trod enc Tryd.prog W base sp held fuel 44 cs = some (d, ps)) :
    ∃ x, eFault.cells x = cs ∧ x.file.size + 1 ≤ Rows.uptoBulk d := by
  obtain ⟨xs, n, rfl, hx, hlen, hxl, hf⟩ := DataW.trod_struct Tryd.underlying44 h
  cases hx
  have hl : cs.length = 4 := hlen.trans (by kernel_rfl : Tryd.prog.cellsOf 44 = 4)
  obtain ⟨y0, p0, t0, m0⟩ := field_at hxl hf 0 24 0 rfl
  have b0 := bulk_agg m0
  obtain ⟨c, e0, w0⟩ := read_int Tryd.underlying24 t0
  rw [(by kernel_rfl : Tryd.prog.cellsOf 24 = 1)] at e0
  have g0 := one_at e0
  obtain ⟨y1, p1, t1, m1⟩ := field_at hxl hf 1 9 1 rfl
  have b1 := bulk_agg m1
  obtain ⟨s, e1, w1⟩ := read_str Tryd.underlying9 t1
  rw [(by kernel_rfl : Tryd.prog.cellsOf 9 = 1)] at e1
  have g1 := one_at e1
  obtain ⟨y2, p2, t2, m2⟩ := field_at hxl hf 2 3 2 rfl
  have b2 := bulk_agg m2
  obtain ⟨l, e2, w2⟩ := read_int Tryd.underlying3 t2
  rw [(by kernel_rfl : Tryd.prog.cellsOf 3 = 1)] at e2
  have g2 := one_at e2
  obtain ⟨y3, p3, t3, m3⟩ := field_at hxl hf 3 3 3 rfl
  have b3 := bulk_agg m3
  obtain ⟨k, e3, w3⟩ := read_int Tryd.underlying3 t3
  rw [(by kernel_rfl : Tryd.prog.cellsOf 3 = 1)] at e3
  have g3 := one_at e3
  refine ⟨⟨c, s, l, k⟩, list_eq_of hl (fun j hj => ?_), by show s.size + 1 ≤ _; omega⟩
  match j, hj with
  | 0, _ => exact g0
  | 1, _ => exact g1
  | 2, _ => exact g2
  | 3, _ => exact g3
  | j + 4, hj => exact absurd hj (by show ¬ j + 4 < 4; omega)
theorem read_var {H : Type} {enc : TypeId × Value → H} {W : World} {base : Nat} {sp : Nat → Bool} {held : Bool} {fuel : Nat} {cs : List Value} {d : DataW H} {ps : List MemPlace} (h : DataW.trod enc Tryd.prog W base sp held fuel 51 cs = some (d, ps)) :
    ∃ x, eStr2.cells x = cs ∧ x.1.size + 1 ≤ Rows.uptoBulk d ∧ x.2.size + 1 ≤ Rows.uptoBulk d := by
  obtain ⟨xs, n, rfl, hx, hlen, hxl, hf⟩ := DataW.trod_struct Tryd.underlying51 h
  cases hx
  have hl : cs.length = 2 := hlen.trans (by kernel_rfl : Tryd.prog.cellsOf 51 = 2)
  obtain ⟨y0, p0, t0, m0⟩ := field_at hxl hf 0 9 0 rfl
  have b0 := bulk_agg m0
  obtain ⟨a, e0, w0⟩ := read_str Tryd.underlying9 t0
  rw [(by kernel_rfl : Tryd.prog.cellsOf 9 = 1)] at e0
  have g0 := one_at e0
  obtain ⟨y1, p1, t1, m1⟩ := field_at hxl hf 1 9 1 rfl
  have b1 := bulk_agg m1
  obtain ⟨b, e1, w1⟩ := read_str Tryd.underlying9 t1
  rw [(by kernel_rfl : Tryd.prog.cellsOf 9 = 1)] at e1
  have g1 := one_at e1
  refine ⟨(a, b), list_eq_of hl (fun j hj => ?_), by show a.size + 1 ≤ _; omega, by show b.size + 1 ≤ _; omega⟩
  match j, hj with
  | 0, _ => exact g0
  | 1, _ => exact g1
  | j + 2, hj => exact absurd hj (by show ¬ j + 2 < 2; omega)
theorem read_need {H : Type} {enc : TypeId × Value → H} {W : World} {base : Nat} {sp : Nat → Bool} {held : Bool} {fuel : Nat} {cs : List Value} {d : DataW H} {ps : List MemPlace} (h : DataW.trod enc Tryd.prog W base sp held fuel 53 cs = some (d, ps)) :
    ∃ x, eNeed.cells x = cs ∧ x.text.size + 1 ≤ Rows.uptoBulk d := by
  obtain ⟨xs, n, rfl, hx, hlen, hxl, hf⟩ := DataW.trod_struct Tryd.underlying53 h
  cases hx
  have hl : cs.length = 5 := hlen.trans (by kernel_rfl : Tryd.prog.cellsOf 53 = 5)
  obtain ⟨y0, p0, t0, m0⟩ := field_at hxl hf 0 9 0 rfl
  have b0 := bulk_agg m0
  obtain ⟨s, e0, w0⟩ := read_str Tryd.underlying9 t0
  rw [(by kernel_rfl : Tryd.prog.cellsOf 9 = 1)] at e0
  have g0 := one_at e0
  obtain ⟨y1, p1, t1, m1⟩ := field_at hxl hf 1 44 1 rfl
  have b1 := bulk_agg m1
  obtain ⟨f, e1, _⟩ := read_fault t1
  rw [(by kernel_rfl : Tryd.prog.cellsOf 44 = 4)] at e1
  refine ⟨⟨s, f⟩, list_eq_of hl (fun j hj => ?_), by show s.size + 1 ≤ _; omega⟩
  match j, hj with
  | 0, _ => exact g0
  | 1, _ => exact part_at e1 (j := 0) rfl
  | 2, _ => exact part_at e1 (j := 1) rfl
  | 3, _ => exact part_at e1 (j := 2) rfl
  | 4, _ => exact part_at e1 (j := 3) rfl
  | j + 5, hj => exact absurd hj (by show ¬ j + 5 < 5; omega)
theorem read_step {H : Type} {enc : TypeId × Value → H} {W : World} {base : Nat} {sp : Nat → Bool} {held : Bool} {fuel : Nat} {cs : List Value} {d : DataW H} {ps : List MemPlace} (h : DataW.trod enc Tryd.prog W base sp held fuel 156 cs = some (d, ps)) :
    ∃ x, eStep.cells x = cs ∧ x.2.size + 1 ≤ Rows.uptoBulk d := by
  obtain ⟨xs, n, rfl, hx, hlen, hxl, hf⟩ := DataW.trod_struct Tryd.underlying156 h
  cases hx
  have hl : cs.length = 2 := hlen.trans (by kernel_rfl : Tryd.prog.cellsOf 156 = 2)
  obtain ⟨y0, p0, t0, m0⟩ := field_at hxl hf 0 3 0 rfl
  have b0 := bulk_agg m0
  obtain ⟨k, e0, w0⟩ := read_int Tryd.underlying3 t0
  rw [(by kernel_rfl : Tryd.prog.cellsOf 3 = 1)] at e0
  have g0 := one_at e0
  obtain ⟨y1, p1, t1, m1⟩ := field_at hxl hf 1 9 1 rfl
  have b1 := bulk_agg m1
  obtain ⟨s, e1, w1⟩ := read_str Tryd.underlying9 t1
  rw [(by kernel_rfl : Tryd.prog.cellsOf 9 = 1)] at e1
  have g1 := one_at e1
  refine ⟨(k, s), list_eq_of hl (fun j hj => ?_), by show s.size + 1 ≤ _; omega⟩
  match j, hj with
  | 0, _ => exact g0
  | 1, _ => exact g1
  | j + 2, hj => exact absurd hj (by show ¬ j + 2 < 2; omega)

section
variable {H : Type} {enc : TypeId × Value → H} {W : World} {base : Nat} {sp : Nat → Bool} {held : Bool} {fuel : Nat} {cs : List Value} {d : DataW H} {ps : List MemPlace}
theorem read_vars (h : DataW.trod enc Tryd.prog W base sp held fuel 40 cs = some (d, ps)) : ∃ u : SV, cs = [u.1] ∧ ∃ xs, RowI eStr2 (Imm.of W) u.1 xs ∧ xs.length + 1 ≤ Rows.uptoBulk d := by
  obtain ⟨v, xs, h1, h2, h3, h4, _⟩ := read_slice (e := eStr2) Tryd.underlying40 (by kernel_rfl) (fun _ _ _ _ h => read_var h) h
  exact ⟨⟨v, h2⟩, h1, xs, h3, h4⟩
theorem read_needs (h : DataW.trod enc Tryd.prog W base sp held fuel 41 cs = some (d, ps)) : ∃ u : SV, cs = [u.1] ∧ ∃ xs, RowI eNeed (Imm.of W) u.1 xs ∧ xs.length + 1 ≤ Rows.uptoBulk d ∧ ∀ x, x ∈ xs → x.text.size + 1 ≤ Rows.uptoBulk d := by
  obtain ⟨v, xs, h1, h2, h3, h4, h5⟩ := read_slice (e := eNeed) Tryd.underlying41 (by kernel_rfl) (fun _ _ _ _ h => read_need h) h
  refine ⟨⟨v, h2⟩, h1, xs, h3, h4, fun x hx => ?_⟩
  obtain ⟨i, hi, rfl⟩ := List.mem_iff_getElem.1 hx
  obtain ⟨y, h6, h7⟩ := h5 i _ (List.getElem?_eq_getElem hi)
  omega
theorem read_steps (h : DataW.trod enc Tryd.prog W base sp held fuel 86 cs = some (d, ps)) : ∃ u : SV, cs = [u.1] ∧ ∃ xs, RowI eStep (Imm.of W) u.1 xs ∧ xs.length + 1 ≤ Rows.uptoBulk d := by
  obtain ⟨v, xs, h1, h2, h3, h4, _⟩ := read_slice (e := eStep) Tryd.underlying86 (by kernel_rfl) (fun _ _ _ _ h => read_step h) h
  exact ⟨⟨v, h2⟩, h1, xs, h3, h4⟩
end

theorem read_rule {H : Type} {enc : TypeId × Value → H} {W : World} {base : Nat} {sp : Nat → Bool} {held : Bool} {fuel : Nat} {cs : List Value} {d : DataW H} {ps : List MemPlace} (h : DataW.trod enc Tryd.prog W base sp held fuel 89 cs = some (d, ps)) :
    ∃ x, eRule.cells x = cs ∧ ∃ cs, RowI eStep (Imm.of W) x.code.1 cs ∧ cs.length + 1 ≤ Rows.uptoBulk d := by
  obtain ⟨xs, n, rfl, hx, hlen, hxl, hf⟩ := DataW.trod_struct Tryd.underlying89 h
  cases hx
  have hl : cs.length = 2 := hlen.trans (by kernel_rfl : Tryd.prog.cellsOf 89 = 2)
  obtain ⟨y0, p0, t0, m0⟩ := field_at hxl hf 0 86 0 rfl
  have b0 := bulk_agg m0
  obtain ⟨u, e0, xs, hxs, bxs⟩ := read_steps t0
  rw [(by kernel_rfl : Tryd.prog.cellsOf 86 = 1)] at e0
  have g0 := one_at e0
  obtain ⟨y1, p1, t1, m1⟩ := field_at hxl hf 1 3 1 rfl
  have b1 := bulk_agg m1
  obtain ⟨w, e1, w1⟩ := read_int Tryd.underlying3 t1
  rw [(by kernel_rfl : Tryd.prog.cellsOf 3 = 1)] at e1
  have g1 := one_at e1
  refine ⟨⟨u, w⟩, list_eq_of hl (fun j hj => ?_), xs, hxs, by omega⟩
  match j, hj with
  | 0, _ => exact g0
  | 1, _ => exact g1
  | j + 2, hj => exact absurd hj (by show ¬ j + 2 < 2; omega)

theorem read_rules {H : Type} {enc : TypeId × Value → H} {W : World} {base : Nat} {sp : Nat → Bool} {held : Bool} {fuel : Nat} {cs : List Value} {d : DataW H} {ps : List MemPlace} (h : DataW.trod enc Tryd.prog W base sp held fuel 42 cs = some (d, ps)) : ∃ u : SV, cs = [u.1] ∧ (Rows.uptoBulk d ≤ 1048576 → RulesOk (Imm.of W) u.1) := by
  obtain ⟨v, xs, h1, h2, h3, h4, h5⟩ := read_slice (e := eRule) Tryd.underlying42 (by kernel_rfl) (fun _ _ _ _ h => read_rule h) h
  refine ⟨⟨v, h2⟩, h1, fun hb => ⟨xs, h3, by omega, fun k hk => ?_⟩⟩
  obtain ⟨y, ⟨cs, h6, h8⟩, h7⟩ := h5 k _ (List.getElem?_eq_getElem hk)
  exact ⟨cs, by rw [List.getD_eq_getElem?_getD, List.getElem?_eq_getElem hk]; exact h6, by omega⟩

theorem read_inst {H : Type} {enc : TypeId × Value → H} {W : World} {base : Nat} {sp : Nat → Bool} {held : Bool} {fuel : Nat} {cs : List Value} {d : DataW H} {ps : List MemPlace} (h : DataW.trod enc Tryd.prog W base sp held fuel 46 cs = some (d, ps)) :
    ∃ x, eInst.cells x = cs ∧ (Rows.uptoBulk d ≤ 1048576 → ∃ p, InstF (Imm.of W) x p ∧ p.name.size ≤ 1048576 ∧ (-9223372036854775808 ≤ p.stage ∧ p.stage ≤ 9223372036854775807)) := by
  obtain ⟨xs, n, rfl, hx, hlen, hxl, hf⟩ := DataW.trod_struct Tryd.underlying46 h
  cases hx
  have hl : cs.length = 16 := hlen.trans (by kernel_rfl : Tryd.prog.cellsOf 46 = 16)
  obtain ⟨y0, p0, t0, m0⟩ := field_at hxl hf 0 9 0 rfl
  have b0 := bulk_agg m0
  obtain ⟨nm, e0, w0⟩ := read_str Tryd.underlying9 t0
  rw [(by kernel_rfl : Tryd.prog.cellsOf 9 = 1)] at e0
  have g0 := one_at e0
  obtain ⟨y1, p1, t1, m1⟩ := field_at hxl hf 1 3 1 rfl
  have b1 := bulk_agg m1
  obtain ⟨jb, e1, w1⟩ := read_int Tryd.underlying3 t1
  rw [(by kernel_rfl : Tryd.prog.cellsOf 3 = 1)] at e1
  have g1 := one_at e1
  obtain ⟨y2, p2, t2, m2⟩ := field_at hxl hf 2 40 2 rfl
  have b2 := bulk_agg m2
  obtain ⟨pk, e2, xp, hxp, bxp⟩ := read_vars t2
  rw [(by kernel_rfl : Tryd.prog.cellsOf 40 = 1)] at e2
  have g2 := one_at e2
  obtain ⟨y3, p3, t3, m3⟩ := field_at hxl hf 3 40 3 rfl
  have b3 := bulk_agg m3
  obtain ⟨va, e3, xv, hxv, bxv⟩ := read_vars t3
  rw [(by kernel_rfl : Tryd.prog.cellsOf 40 = 1)] at e3
  have g3 := one_at e3
  obtain ⟨y4, p4, t4, m4⟩ := field_at hxl hf 4 9 4 rfl
  have b4 := bulk_agg m4
  obtain ⟨rn, e4, w4⟩ := read_str Tryd.underlying9 t4
  rw [(by kernel_rfl : Tryd.prog.cellsOf 9 = 1)] at e4
  have g4 := one_at e4
  obtain ⟨y5, p5, t5, m5⟩ := field_at hxl hf 5 41 5 rfl
  have b5 := bulk_agg m5
  obtain ⟨nd, e5, xn, hxn, bxn, txn⟩ := read_needs t5
  rw [(by kernel_rfl : Tryd.prog.cellsOf 41 = 1)] at e5
  have g5 := one_at e5
  obtain ⟨y6, p6, t6, m6⟩ := field_at hxl hf 6 3 6 rfl
  have b6 := bulk_agg m6
  obtain ⟨st, e6, w6⟩ := read_int Tryd.underlying3 t6
  rw [(by kernel_rfl : Tryd.prog.cellsOf 3 = 1)] at e6
  have g6 := one_at e6
  obtain ⟨y7, p7, t7, m7⟩ := field_at hxl hf 7 3 7 rfl
  have b7 := bulk_agg m7
  obtain ⟨wh, e7, w7⟩ := read_int Tryd.underlying3 t7
  rw [(by kernel_rfl : Tryd.prog.cellsOf 3 = 1)] at e7
  have g7 := one_at e7
  obtain ⟨y8, p8, t8, m8⟩ := field_at hxl hf 8 4 8 rfl
  have b8 := bulk_agg m8
  obtain ⟨al, e8⟩ := read_bool Tryd.underlying4 t8
  rw [(by kernel_rfl : Tryd.prog.cellsOf 4 = 1)] at e8
  have g8 := one_at e8
  obtain ⟨y9, p9, t9, m9⟩ := field_at hxl hf 9 3 9 rfl
  have b9 := bulk_agg m9
  obtain ⟨wt, e9, w9⟩ := read_int Tryd.underlying3 t9
  rw [(by kernel_rfl : Tryd.prog.cellsOf 3 = 1)] at e9
  have g9 := one_at e9
  obtain ⟨y10, p10, t10, m10⟩ := field_at hxl hf 10 42 10 rfl
  have b10 := bulk_agg m10
  obtain ⟨ru, e10, hru⟩ := read_rules t10
  rw [(by kernel_rfl : Tryd.prog.cellsOf 42 = 1)] at e10
  have g10 := one_at e10
  obtain ⟨y11, p11, t11, m11⟩ := field_at hxl hf 11 4 11 rfl
  have b11 := bulk_agg m11
  obtain ⟨hs, e11⟩ := read_bool Tryd.underlying4 t11
  rw [(by kernel_rfl : Tryd.prog.cellsOf 4 = 1)] at e11
  have g11 := one_at e11
  obtain ⟨y12, p12, t12, m12⟩ := field_at hxl hf 12 44 12 rfl
  have b12 := bulk_agg m12
  obtain ⟨ft, e12, _⟩ := read_fault t12
  rw [(by kernel_rfl : Tryd.prog.cellsOf 44 = 4)] at e12
  refine ⟨⟨nm, jb, pk, va, rn, nd, st, wh, al, wt, ru, hs, ft⟩, list_eq_of hl (fun j hj => ?_), fun hb => ⟨⟨nm, xv, xn, st, hs, ft⟩, ⟨⟨rfl, hxv, hxn, rfl, rfl, rfl, fun x hx => by have := txn x hx; omega, by show xn.length ≤ _; omega⟩, by show xv.length ≤ _; omega, ⟨xp, hxp, by omega⟩, hru (by omega)⟩, by show nm.size ≤ _; omega, wf_i64 w6⟩⟩
  match j, hj with
  | 0, _ => exact g0
  | 1, _ => exact g1
  | 2, _ => exact g2
  | 3, _ => exact g3
  | 4, _ => exact g4
  | 5, _ => exact g5
  | 6, _ => exact g6
  | 7, _ => exact g7
  | 8, _ => exact g8
  | 9, _ => exact g9
  | 10, _ => exact g10
  | 11, _ => exact g11
  | 12, _ => exact part_at e12 (j := 0) rfl
  | 13, _ => exact part_at e12 (j := 1) rfl
  | 14, _ => exact part_at e12 (j := 2) rfl
  | 15, _ => exact part_at e12 (j := 3) rfl
  | j + 16, hj => exact absurd hj (by show ¬ j + 16 < 16; omega)

/-- A []Inst that comes in. -/
theorem read_insts {H : Type} {enc : TypeId × Value → H} {W : World} {base : Nat} {sp : Nat → Bool} {held : Bool} {fuel : Nat} {cs : List Value} {d : DataW H} {ps : List MemPlace} (h : DataW.trod enc Tryd.prog W base sp held fuel 38 cs = some (d, ps)) (hb : Rows.uptoBulk d ≤ 1048576) :
    ∃ v raws insts, cs = [v] ∧ v.oneCell' = true ∧ Insts (Imm.of W) v raws insts ∧ (∀ k, k < raws.length → InstF (Imm.of W) (raws.getD k inst0) (insts.getD k ip0)) ∧ (∀ k, k < raws.length → (insts.getD k ip0).name.size ≤ 1048576 ∧ (-9223372036854775808 ≤ (insts.getD k ip0).stage ∧ (insts.getD k ip0).stage ≤ 9223372036854775807)) ∧ raws.length + 1 ≤ Rows.uptoBulk d := by
  obtain ⟨v, raws, h1, h2, h3, h4, h5⟩ := read_slice (e := eInst) Tryd.underlying38 (by kernel_rfl) (fun _ _ _ _ h => read_inst h) h
  obtain ⟨insts, hlen, hx⟩ := list_of (n := raws.length) (R := fun i (p : InstP) => InstF (Imm.of W) (raws.getD i inst0) p ∧ p.name.size ≤ 1048576 ∧ (-9223372036854775808 ≤ p.stage ∧ p.stage ≤ 9223372036854775807)) (fun i hi => by
    obtain ⟨y, h6, h7⟩ := h5 i _ (List.getElem?_eq_getElem hi)
    obtain ⟨p, h8⟩ := h6 (by omega)
    exact ⟨p, by rw [List.getD_eq_getElem?_getD, List.getElem?_eq_getElem hi]; exact h8⟩)
  have hx' : ∀ k, k < raws.length → _ := fun k hk => hx k _ (get_of ip0 (by omega))
  exact ⟨v, raws, insts, h1, h2, ⟨h3, hlen.symm, fun k hk => (hx' k hk).1.ok, by omega⟩, fun k hk => (hx' k hk).1, fun k hk => (hx' k hk).2, h4⟩

end Go.Proofs.YtfnmcpgajjkemaaDoor
