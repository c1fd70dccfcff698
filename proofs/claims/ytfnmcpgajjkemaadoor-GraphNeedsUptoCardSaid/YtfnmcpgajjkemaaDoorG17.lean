/- awake. Printed by wip/gen/g17.py. -/
import Derived.Test.YtfnmcpgajjkemaaDoorG16
import Derived.Test.YtfnmcpgajjkemaaDoorG13
namespace Go.Proofs.YtfnmcpgajjkemaaDoor
open Go Go.RowKit Go.Proofs.YtfnmcpgajjkemaaDoor.SW
set_option maxRecDepth 100000
set_option maxHeartbeats 400000
inductive RowsI (I : Imm) : List SV → List (List Int) → Prop where
  | nil : RowsI I [] []
  | cons {u : SV} {us : List SV} {xs : List Int} {xss : List (List Int)} (h : RowI eInt I u.1 xs) (t : RowsI I us xss) : RowsI I (u :: us) (xs :: xss)
theorem RowsI.len {I : Imm} {us : List SV} {xss : List (List Int)} (h : RowsI I us xss) : us.length = xss.length := by
  induction h with
  | nil => rfl
  | cons _ _ ih => simp [ih]
theorem RowsI.at_ {I : Imm} {us : List SV} {xss : List (List Int)} (h : RowsI I us xss) : ∀ i, i < xss.length → RowI eInt I (us.getD i svnil).1 (xss.getD i []) := by
  induction h with
  | nil => intro i hi; simp at hi
  | cons h _ ih =>
    intro i hi
    cases i with
    | zero => simpa using h
    | succ i => simpa using ih i (by simpa using hi)
theorem RowsI.ii {I : Imm} {v : Value} {us : List SV} {xss : List (List Int)} (h : RowsI I us xss) (ht : RowI eVal I v us) : RowII eInt I v us xss := ⟨ht, h.len, h.at_⟩
abbrev strA : ByteArray := ⟨#[97]⟩
abbrev strB : ByteArray := ⟨#[98]⟩
abbrev strC : ByteArray := ⟨#[99]⟩
def awI : List InstP := [⟨strA, [], [], 0, false, fault0⟩, ⟨strB, [], [], 1, false, fault0⟩, ⟨strC, [], [⟨strA, fault0⟩], 0, true, fault0⟩]
def awR (u : SV) : List InstV := [{ inst0 with name := strA }, { inst0 with name := strB, stage := 1 }, { inst0 with name := strC, needs := u, has := true }]
theorem readA : readP strA = some (strA, []) := by decide +kernel
theorem neededA : neededR awI [⟨strA, fault0⟩] = ([0], fault0) := by
  have h1 : needErr awI ⟨strA, fault0⟩ = none := by
    unfold needErr; rw [readA]; decide +kernel
  have h2 : needL awI ⟨strA, fault0⟩ = [0] := by
    unfold needL; rw [readA]; decide +kernel
  unfold neededR
  simp only [List.findSome?_cons, h1, List.findSome?_nil, List.flatMap_cons, List.flatMap_nil, h2, List.append_nil, List.mergeSort_singleton]
  decide +kernel
theorem predsA0 : predsOf awI 0 = ([], fault0) := by decide +kernel
theorem predsA1 : predsOf awI 1 = ([0, 2], fault0) := by decide +kernel
theorem predsA2 : predsOf awI 2 = ([0], fault0) := neededA
theorem predsA : predsL awI = [[], [0, 2], [0]] := by
  unfold predsL tb
  rw [show List.range awI.length = [0, 1, 2] from rfl]
  simp only [List.map_cons, List.map_nil, predsA0, predsA1, predsA2]
theorem ranksA : ranksL awI = [0, 1, 0] := by decide +kernel
theorem orderA : (orderRes [[], [0, 2], [0]] [0, 1, 0]).2 = 0 := by decide +kernel
theorem buildA : buildP awI = ([[], [0, 2], [0]], fault0) := by
  unfold buildP
  rw [show List.range awI.length = [0, 1, 2] from rfl]
  simp only [List.findSome?_cons, List.findSome?_nil, predErr, predsA0, predsA1, predsA2, fault0, if_true]
  rw [predsA, ranksA, if_pos orderA]
theorem orderB : orderRes [[1], []] [0, 0] = ([1, 0], 0) := by decide +kernel
theorem orderC : (orderRes [[1], [0]] (List.replicate [[1], [(0 : Int)]].length 0)).2 = 163 := by decide +kernel
theorem cycC {xs : List Int} (h : CycOk [[1], [0]] xs) : xs.length = 2 := by
  have h1 := ints_le (n := 2) h.nodup (fun x hx => by
    obtain ⟨i, hi, rfl⟩ := List.mem_iff_getElem.1 hx
    have := h.range i hi
    rw [List.getD_eq_getElem?_getD, List.getElem?_eq_getElem hi] at this
    exact this)
  have h0 := h.ne
  rcases Nat.lt_or_ge 1 xs.length with h2 | h2
  · omega
  · exfalso
    have hl : xs.length = 1 := by omega
    obtain ⟨x, rfl⟩ := List.length_eq_one_iff.1 hl
    have hr := h.range 0 (by simp)
    have hn := h.next 0 (by simp)
    simp at hr hn
    have : x = 0 ∨ x = 1 := by omega
    rcases this with rfl | rfl <;> simp at hn
theorem f19_ok {I : Imm} {l : List Itm} (hg : GlobI I) : Ct Tryd.prog 19 [] I l (fun r _ m => r = .bool true ∧ l = m) := by
  refine Ct_enter Tryd.func19 rfl rfl rfl ?_
  refine K_seq ?_
  refine K_region ?_
  refine W_y (y_assign rfl) rfl rfl rfl ?_
  refine K_nil ?_
  refine K_then ?_
  refine K_seq ?_
  refine K_region ?_
  refine W_y (y_build tab rfl rfl rfl rfl rfl) rfl rfl rfl ?_
  refine W_y (y_build tab rfl rfl rfl rfl rfl) rfl rfl rfl ?_
  refine W_y (y_build tab rfl rfl rfl rfl rfl) rfl rfl rfl ?_
  refine W_a (a_bs (e := eNeed) (xs := [⟨strA, fault0⟩]) (os := [.tmp 9]) tab rfl rfl rfl rfl rfl rfl rfl rfl rfl ?_) rfl
  intro b10
  refine W_y (y_build tab rfl rfl rfl rfl rfl) rfl rfl rfl ?_
  refine W_a (a_bs (e := eInst) (xs := awR ⟨.slice (some ⟨b10, 0, none⟩) 1 1, rfl⟩) (os := [.tmp 7, .tmp 8, .tmp 11]) tab rfl rfl rfl rfl rfl rfl rfl rfl rfl ?_) rfl
  intro b12
  refine K_f1 (K_give (fun J1 hJ1 hneed => ?_))
  refine K_give (fun J2 hJ2 hins => ?_)
  have hg2 := (hg.mono hJ1).mono hJ2
  have hinsts : Insts J2 (.slice (some ⟨b12, 0, none⟩) 3 3) (awR ⟨.slice (some ⟨b10, 0, none⟩) 1 1, rfl⟩) awI := ⟨hins, rfl, fun k hk => by
    have hn : ∀ s : ByteArray, RowI eStr2 J2 svnil.1 [] := fun _ => RowI.nil _ _
    rcases k with _ | _ | _ | k
    · exact ⟨rfl, RowI.nil _ _, RowI.nil _ _, rfl, rfl, rfl, fun n hn => (by cases hn), by decide⟩
    · exact ⟨rfl, RowI.nil _ _, RowI.nil _ _, rfl, rfl, rfl, fun n hn => (by cases hn), by decide⟩
    · exact ⟨rfl, RowI.nil _ _, hneed.mono hJ2, rfl, rfl, rfl, fun n hn => (by cases hn with | head => decide | tail _ h => cases h), by decide⟩
    · simp only [awR, List.length_cons, List.length_nil] at hk; omega, by show 3 ≤ 1048576; decide⟩
  refine W_y (y_assign rfl) rfl rfl rfl ?_
  refine K_nil ?_
  refine K_then ?_
  refine K_seq ?_
  refine K_region ?_
  refine W_y (y_move rfl) rfl rfl rfl ?_
  refine W_a (a_call (enters_of Tryd.func23 (by kernel_rfl) rfl) rfl (f23_ok (insts := awI) hg2 hinsts) rfl ?_) rfl
  rintro _ J3 _ hJ3 ⟨pv, pvs, rfl, hpreds, rfl⟩
  rw [buildA] at hpreds ⊢
  simp only at hpreds ⊢
  refine W_y (y_move rfl) rfl rfl rfl ?_
  refine W_y (y_extract rfl rfl) rfl rfl rfl ?_
  refine W_y (y_extract rfl rfl) rfl rfl rfl ?_
  refine W_a (a_alloc tab rfl rfl ?_) rfl
  intro b3
  refine W_y (y_assign rfl) rfl rfl rfl ?_
  refine W_a (a_stw (us := eFault.cells fault0) tab rfl rfl rfl rfl (eFault.one _) rfl ?_) rfl
  refine K_nil ?_
  refine K_then ?_
  refine K_seq ?_
  refine K_region ?_
  refine W_a (a_bs (e := eInt) (xs := [1]) (os := [.const (.int .i64 1)]) tab rfl rfl rfl rfl rfl rfl rfl rfl rfl ?_) rfl
  intro b19
  refine K_give (fun J4 hJ4 h19 => ?_)
  refine W_a (a_bs (e := eVal) (xs := [⟨.slice (some ⟨b19, 0, none⟩) 1 1, rfl⟩, svnil]) (os := [.tmp 19, .const (.slice none 0 0)]) tab rfl rfl rfl rfl rfl rfl rfl rfl rfl ?_) rfl
  intro b20
  refine K_give (fun J5 hJ5 h20 => ?_)
  refine W_a (a_bs (e := eInt) (xs := [0, 0]) (os := [.const (.int .i64 0), .const (.int .i64 0)]) tab rfl rfl rfl rfl rfl rfl rfl rfl rfl ?_) rfl
  intro b21
  refine K_give (fun J6 hJ6 hrk => ?_)
  have hpp : RowII eInt J6 _ _ [[1], []] := RowsI.ii (.cons ((h19.mono hJ5).mono hJ6) (.cons (RowI.nil _ _) .nil)) (h20.mono hJ6)
  refine W_a (a_call (enters_of Tryd.func13 (by kernel_rfl) rfl) rfl (f13_ok (preds := [[1], []]) (ranks := [0, 0]) hpp hrk (by decide)) rfl ?_) rfl
  rintro _ J7 _ hJ7 ⟨ov, rfl, rfl⟩
  rw [orderB]
  simp only
  refine W_y (y_move rfl) rfl rfl rfl ?_
  refine W_y (y_extract rfl rfl) rfl rfl rfl ?_
  refine W_y (y_extract rfl rfl) rfl rfl rfl ?_
  refine W_y (y_assign rfl) rfl rfl rfl ?_
  refine W_y (y_assign rfl) rfl rfl rfl ?_
  refine K_nil ?_
  refine K_then ?_
  refine K_seq ?_
  refine K_region ?_
  refine W_a (a_bs (e := eInt) (xs := [1]) (os := [.const (.int .i64 1)]) tab rfl rfl rfl rfl rfl rfl rfl rfl rfl ?_) rfl
  intro b25
  refine K_give (fun J8 hJ8 h25 => ?_)
  refine W_a (a_bs (e := eInt) (xs := [0]) (os := [.const (.int .i64 0)]) tab rfl rfl rfl rfl rfl rfl rfl rfl rfl ?_) rfl
  intro b26
  refine K_give (fun J9 hJ9 h26 => ?_)
  refine W_a (a_bs (e := eVal) (xs := [⟨.slice (some ⟨b25, 0, none⟩) 1 1, rfl⟩, ⟨.slice (some ⟨b26, 0, none⟩) 1 1, rfl⟩]) (os := [.tmp 25, .tmp 26]) tab rfl rfl rfl rfl rfl rfl rfl rfl rfl ?_) rfl
  intro b27
  refine K_give (fun J10 hJ10 h27 => ?_)
  have hcc : RowII eInt J10 _ _ [[1], [0]] := RowsI.ii (.cons ((h25.mono hJ9).mono hJ10) (.cons (h26.mono hJ10) .nil)) h27
  refine W_a (a_call (enters_of Tryd.func20 (by kernel_rfl) rfl) rfl (f20_ok (preds := [[1], [0]]) hcc (by decide)) rfl ?_) rfl
  rintro cv J11 _ hJ11 ⟨xs, hxs, rfl⟩
  have hcy : CycOk [[1], [0]] xs := hxs.elim (fun h => absurd orderC h.1) (fun h => h.2)
  have hxl := cycC hcy
  refine K_sc .here (fun hcl => ?_)
  rw [hxl] at hcl
  refine W_y (y_assign rfl) rfl rfl rfl ?_
  refine K_nil ?_
  refine K_then ?_
  refine K_seq ?_
  refine K_region ?_
  refine K_f2 ?_
  refine W_y (y_load rfl (ld_agg tab rfl rfl rfl (rd_all .here))) rfl rfl rfl ?_
  refine W_y (y_build tab rfl rfl rfl rfl rfl) rfl rfl rfl ?_
  refine W_y (y_aeql (by kernel_rfl) (eqFault fault0 fault0) rfl rfl) rfl rfl rfl ?_
  rw [decide_eq_true (rfl : fault0 = fault0)]
  refine W_y (y_move rfl) rfl rfl rfl ?_
  refine K_split 32 rfl (fun h1 => ?_) (fun h1 => ?_)
  ·
    refine W_y (y_move rfl) rfl rfl rfl ?_
    refine W_a (a_bs (e := eInt) (xs := [0, 2]) (os := [.const (.int .i64 0), .const (.int .i64 2)]) tab rfl rfl rfl rfl rfl rfl rfl rfl rfl ?_) rfl
    intro b34
    refine K_give (fun J12 hJ12 h34a => ?_)
    refine W_a (a_bs (e := eInt) (xs := [0]) (os := [.const (.int .i64 0)]) tab rfl rfl rfl rfl rfl rfl rfl rfl rfl ?_) rfl
    intro b35
    refine K_give (fun J13 hJ13 h35a => ?_)
    refine W_a (a_bs (e := eVal) (xs := [svnil, ⟨.slice (some ⟨b34, 0, none⟩) 2 2, rfl⟩, ⟨.slice (some ⟨b35, 0, none⟩) 1 1, rfl⟩]) (os := [.const (.slice none 0 0), .tmp 34, .tmp 35]) tab rfl rfl rfl rfl rfl rfl rfl rfl rfl ?_) rfl
    intro b36
    refine K_give (fun J14 hJ14 h36 => ?_)
    have h34 := (h34a.mono hJ13).mono hJ14
    have h35 := h35a.mono hJ14
    have hpreds := hpreds.mono (hJ4.trans (hJ5.trans (hJ6.trans (hJ7.trans (hJ8.trans (hJ9.trans (hJ10.trans (hJ11.trans (hJ12.trans (hJ13.trans hJ14))))))))))
    refine W_a (a_call (enters_of Tryd.func14 (by kernel_rfl) rfl) rfl (f14_ok hpreds (RowsI.ii (.cons (RowI.nil _ _) (.cons h34 (.cons h35 .nil))) h36)) rfl ?_) rfl
    rintro _ _ _ - ⟨rfl, rfl, rfl⟩
    rw [decide_eq_true (rfl : ([[], [0, 2], [0]] : List (List Int)) = [[], [0, 2], [0]])]
    refine W_y (y_pick rfl rfl) rfl rfl rfl ?_
    refine W_y (y_move rfl) rfl rfl rfl ?_
    refine K_split 39 rfl (fun h2 => ?_) (fun h2 => ?_)
    ·
      refine W_y (y_move rfl) rfl rfl rfl ?_
      refine W_y (by first | exact y_eq rfl rfl | exact y_seq rfl rfl) rfl rfl rfl ?_
      refine W_y (y_pick rfl rfl) rfl rfl rfl ?_
      refine W_y (y_move rfl) rfl rfl rfl ?_
      refine K_split 43 rfl (fun h3 => ?_) (fun h3 => ?_)
      ·
        refine W_y (y_move rfl) rfl rfl rfl ?_
        refine W_a (a_bs (e := eInt) (xs := [1, 0]) (os := [.const (.int .i64 1), .const (.int .i64 0)]) tab rfl rfl rfl rfl rfl rfl rfl rfl rfl ?_) rfl
        intro b45
        refine K_rdb .here (fun hrb => ?_)
        refine K_rdb (.there (.there (.there .here))) (fun hra => ?_)
        refine W_a (a_call (enters_of Tryd.func17 (by kernel_rfl) rfl) rfl (f17_ok hra hrb) rfl ?_) rfl
        rintro _ _ _ - ⟨rfl, rfl, rfl⟩
        rw [decide_eq_true (rfl : ([1, 0] : List Int) = [1, 0])]
        refine W_y (y_pick rfl rfl) rfl rfl rfl ?_
        refine W_y (y_move rfl) rfl rfl rfl ?_
        refine K_split 48 rfl (fun h4 => ?_) (fun h4 => ?_)
        ·
          refine W_y (y_move rfl) rfl rfl rfl ?_
          refine W_y (y_lenc tab hcl rfl rfl) rfl rfl rfl ?_
          refine W_y (by first | exact y_eq rfl rfl | exact y_seq rfl rfl) rfl rfl rfl ?_
          refine W_y (y_pick rfl rfl) rfl rfl rfl ?_
          refine W_y (y_assign rfl) rfl rfl rfl ?_
          refine K_nil ?_
          refine K_then ?_
          refine K_ret ?_
          refine K_out1 rfl (.tmp rfl) ?_
          exact fun w hw => ⟨_, _, _, rfl, (hJ1.trans (hJ2.trans (hJ3.trans (hJ4.trans (hJ5.trans (hJ6.trans (hJ7.trans (hJ8.trans (hJ9.trans (hJ10.trans (hJ11.trans (hJ12.trans (hJ13.trans hJ14))))))))))))), hw.drop.drop.drop.drop, rfl, rfl⟩
        ·
          cases h4
      ·
        cases h3
    ·
      cases h2
  ·
    cases h1
end Go.Proofs.YtfnmcpgajjkemaaDoor
