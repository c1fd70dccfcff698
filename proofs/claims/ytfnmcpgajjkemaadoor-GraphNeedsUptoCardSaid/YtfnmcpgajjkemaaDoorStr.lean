/- The symbolic walk, part 12: strings; whole structs stored. -/
import Derived.Test.YtfnmcpgajjkemaaDoorBrd
namespace Go.Proofs.YtfnmcpgajjkemaaDoor.SW
open Go Go.RowKit

/-- A string's byte at a place. -/
def byteAt (s : ByteArray) (i : Nat) : Int := ((s.data.toList.getD i 0).toNat : Int)
theorem byteAt_range (s : ByteArray) (i : Nat) : 0 ≤ byteAt s i ∧ byteAt s i < 256 := by
  unfold byteAt
  have := (s.data.toList.getD i 0).toNat_lt
  omega
def eStr : Enc ByteArray := ⟨1, fun x => [.string x], fun _ => rfl, Nat.one_pos, fun x v h => by simp at h; subst h; rfl⟩
def eStr2 : Enc (ByteArray × ByteArray) := ⟨2, fun x => [.string x.1, .string x.2], fun _ => rfl, by decide, fun x v h => by simp at h; rcases h with rfl | rfl <;> rfl⟩
section
variable {P : Program} {Q : Exit → Act → World → Prop} {n : Nat} {I : Imm} {fr : List (Nat × Value)} {l : List Itm} {K : Act → World → Prop} {d : Option Tmp} {ty t : TypeId} {p : String} {af : Array Edge} {g : Option (Nat × Bool)} {x y : Operand} {v : Value}
theorem y_sidx (T : Tab P) {s : ByteArray} {k : IntKind} {ii : Int} (i : Nat) (ht : T.sh t = .str) (hx : ev fr x = some (.string s)) (hi : ev fr y = some (.int k ii)) (h : ii = (i : Int) ∧ i < s.size) :
    Yv P n I fr l ⟨d, .index t x y, ty, p, af, g⟩ (.int .u8 (byteAt s i)) := fun a w ha _ => by
  obtain ⟨rfl, hlt⟩ := h
  have h1 : s[i]? = some s[i] := getElem?_pos s i hlt
  have h2 : (s[i]).toNat = (s.data.toList.getD i 0).toNat := by
    have h3 : i < s.data.size := hlt
    rw [List.getD_eq_getElem?_getD, Array.getElem?_toList, Array.getElem?_eq_getElem h3]
    rfl
  simp [execOp, ha.eval hx, ha.eval hi, Instr.index, asIntOf, run_underlying (T.und_str ht), h1, byteAt, h2]
/-- A store of a whole struct into a block of its own. -/
theorem a_stw (T : Tab P) {b : Nat} {c : Array Value} {E' : TypeId} {zz us : List Value} {bb : Nat} (hz : T.info t = some (zz, bb)) (h1 : Nat.beq zz.length us.length = true) (hx : ev fr x = some (.pointer (some ⟨b, 0, none⟩))) (hy : ev fr y = some (.agg us.toArray)) (hv : ∀ u, u ∈ us → u.oneCell' = true) (ho : Nat.beq us.length c.size = true)
    (h : KK n I fr (blk b (.cells us.toArray E' (0, 0)) :: l) K) : Oa P Q n I fr (blk b (.cells c E' (0, 0)) :: l) ⟨none, .store t x y, ty, p, af, g⟩ K := by
  have ho' : us.length = c.size := Nat.eq_of_beq_eq_true ho
  refine a_sta T hz h1 hx hy hv (by simp [Nat.ble_eq, ho']) ?_
  have e : (c.toList.take 0 ++ us ++ c.toList.drop (0 + us.length)).toArray = us.toArray := by
    rw [List.drop_eq_nil_of_le (by simp [ho'])]; simp
  rw [e]; exact h
end
/-- A struct within an element of an immutable row. -/
theorem ld_rowib {P : Program} {I : Imm} {l : List Itm} {t : TypeId} {v : Value} {α : Type} {e : Enc α} {xs : List α} {sz i j bb : Nat} {zz us : List Value} {a : α} (T : Tab P) (hr : RowI e I v xs) (hs : Nat.beq sz e.sz = true) (ht : (T.sh t).agg = true) (hz : T.info t = some (zz, bb)) (hl : Nat.beq us.length zz.length = true)
    (hx : xs[i]? = some a) (hu : ((e.cells a).drop j).take us.length = us) : Ld P I l t (eptr v sz i j) (.agg us.toArray) := by
  have hs' := Nat.eq_of_beq_eq_true hs
  subst hs'
  obtain ⟨a0, c, rfl, _, _, h4⟩ := hr
  obtain ⟨b, off, cur, E, f, rfl, e2, e3⟩ := h4 (by intro e; subst e; cases hx)
  refine ld_agg T ht hz hl (fun w hw => rd_heap (c := cur) (E := E) (f := f) (hw.imm _ _ e2) (fun k q hk => ?_))
  have hk2 : (e.cells a)[j + k]? = some q := by
    rw [← hu, List.getElem?_take] at hk
    split at hk
    · rw [List.getElem?_drop] at hk; exact hk
    · cases hk
  have := e3 _ _ (encs_get e hx hk2)
  rw [← this]
  congr 1
  show off + (i * e.sz + j) + k = off + (i * e.sz + (j + k))
  omega
/-- The library's variable of an int. -/
def GlobI (I : Imm) : Prop := ∃ m : Int, ∀ w l, St I w l → w.cell? ⟨0, 0, none⟩ = some (.int .i64 m)
theorem GlobI.mono {I J : Imm} (h : GlobI I) (k : I.le J) : GlobI J := by
  obtain ⟨m, hm⟩ := h
  exact ⟨m, fun w l hw => hm w [] ⟨hw.os.trans k.os, hw.tape.trans k.tape, hw.output.trans k.output, fun b o hb => hw.imm b o (k.at_ b o hb), by simp [fps], by simp [fps], by simp [fps], by simp⟩⟩
end Go.Proofs.YtfnmcpgajjkemaaDoor.SW
