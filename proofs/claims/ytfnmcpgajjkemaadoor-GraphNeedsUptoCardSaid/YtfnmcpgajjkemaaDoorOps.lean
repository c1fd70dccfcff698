/- The symbolic walk, part 2: operations: what each yields, which act; regions in the text's order and drawn ones. -/
import Derived.Test.YtfnmcpgajjkemaaDoorCore
namespace Go.Proofs.YtfnmcpgajjkemaaDoor.SW
open Go Go.RowKit

/-! ### Tables of types -/
inductive Sh where
  | int (k : IntKind) | bool | str | slice (e : TypeId) | ptr (e : TypeId) | map (k e : TypeId) | st (fs : List (Nat × TypeId)) | arr (n : Nat) (e : TypeId) | iface | fn | other
def ShOk (P : Program) (t : TypeId) : Sh → Prop
  | .int k => P.underlying t = some (.int k)
  | .bool => P.underlying t = some .bool
  | .str => P.underlying t = some .string
  | .slice e => P.underlying t = some (.slice e)
  | .ptr e => P.underlying t = some (.pointer e)
  | .map k e => P.underlying t = some (.map k e)
  | .arr n e => P.underlying t = some (.array n e)
  | .st fs => (match P.underlying t with | some (.struct fields) => some (fields.toList.map fun f => (f.offset, f.type)) | _ => none) = some fs
  | .iface => (match P.underlying t with | some (.interface _) => true | _ => false) = true
  | .fn => (match P.underlying t with | some (.func ..) => true | _ => false) = true
  | .other => True
def Sh.agg : Sh → Bool
  | .st _ | .arr _ _ => true
  | _ => false
def Sh.plain : Sh → Bool
  | .st _ | .arr _ _ | .other => false
  | _ => true
structure Tab (P : Program) where
  sh : TypeId → Sh
  /-- zero cells, bytes -/
  info : TypeId → Option (List Value × Nat)
  sh_ok : ∀ t, ShOk P t (sh t)
  info_ok : ∀ t z b, info t = some (z, b) → ∃ i zv, P.info? t = some i ∧ i.zero = some zv ∧ zv.cells.toList = z ∧ i.size = z.length ∧ i.bytes = b

section
variable {P : Program} (T : Tab P) {w : World}
theorem Tab.isAgg_plain {t : TypeId} (h : (T.sh t).plain = true) : (isAgg t).run P w = .ok false w := by
  have hk := T.sh_ok t
  generalize T.sh t = s at h hk
  cases s <;> simp only [Sh.plain, ShOk] at h hk <;> try cases h
  all_goals first
    | (simp [isAgg, run_underlying hk]; done)
    | (cases hu : P.underlying t with
       | none => rw [hu] at hk; cases hk
       | some d => rw [hu] at hk; cases d <;> first | (cases hk; done) | simp [isAgg, run_underlying hu])
theorem Tab.isAgg_agg {t : TypeId} (h : (T.sh t).agg = true) : (isAgg t).run P w = .ok true w := by
  have hk := T.sh_ok t
  generalize T.sh t = s at h hk
  cases s <;> simp only [Sh.agg, ShOk] at h hk <;> try cases h
  · cases hu : P.underlying t with
    | none => rw [hu] at hk; cases hk
    | some d => rw [hu] at hk; cases d <;> first | (cases hk; done) | simp [isAgg, run_underlying hu]
  · simp [isAgg, run_underlying hk]
theorem Tab.sizeOf_ok {t : TypeId} {z : List Value} {b : Nat} (h : T.info t = some (z, b)) : (sizeOf t).run P w = .ok z.length w := by
  obtain ⟨i, zv, hi, _, _, hs, _⟩ := T.info_ok t z b h
  simp [sizeOf, typeInfo, hi, hs]
theorem Tab.struct_of {t : TypeId} {fs : List (Nat × TypeId)} (h : T.sh t = .st fs) : ∃ fields, P.underlying t = some (.struct fields) ∧ fields.toList.map (fun f => (f.offset, f.type)) = fs := by
  have hk := T.sh_ok t
  rw [h] at hk
  simp only [ShOk] at hk
  cases hu : P.underlying t with
  | none => rw [hu] at hk; cases hk
  | some d => rw [hu] at hk; cases d <;> first | (cases hk; done) | exact ⟨_, rfl, Option.some.inj hk⟩
end
theorem Tab.und_slice {P : Program} (T : Tab P) {t e : TypeId} (h : T.sh t = .slice e) : P.underlying t = some (.slice e) := by have := T.sh_ok t; rw [h] at this; exact this
theorem Tab.und_str {P : Program} (T : Tab P) {t : TypeId} (h : T.sh t = .str) : P.underlying t = some .string := by have := T.sh_ok t; rw [h] at this; exact this
theorem Tab.und_int {P : Program} (T : Tab P) {t : TypeId} {k : IntKind} (h : T.sh t = .int k) : P.underlying t = some (.int k) := by have := T.sh_ok t; rw [h] at this; exact this
theorem Tab.und_map {P : Program} (T : Tab P) {t k e : TypeId} (h : T.sh t = .map k e) : P.underlying t = some (.map k e) := by have := T.sh_ok t; rw [h] at this; exact this

theorem add_pl (b o n : Nat) : (⟨b, o, none⟩ : Addr).add n = ⟨b, o + n, none⟩ := by unfold Addr.add; split <;> simp_all

/-! ### What an operation yields -/
def wantd (ops : Array Oper) (fr : List (Nat × Value)) (o : Oper) : Option Bool :=
  match o.guard with
  | none => some true
  | some (j, want) => match ops[j]? with
    | some oj => match oj.dst with
      | some d => match look fr d with
        | some (.bool b) => some (b == want)
        | some (.tuple _) => some false
        | _ => none
      | none => none
    | none => none
theorem getD_bool {a : Array Value} {d : Nat} {b : Bool} (h : a.getD d undef = .bool b) : a[d]? = some (.bool b) := by
  by_cases hd : d < a.size
  · rw [Array.getElem?_eq_getElem hd]; simp [Array.getD, hd] at h; rw [h]
  · simp [Array.getD, hd, undef] at h
theorem yielded_of {ops : Array Oper} {tmps : Array Value} {j d : Nat} {oj : Oper} (hj : ops[j]? = some oj) (hd : oj.dst = some d) : yielded ops tmps j = (tmps[d]?).bind fun v => match v with | .bool b => some b | _ => none := by
  unfold yielded
  rw [hj]
  simp only [Option.bind_some, hd]
  cases tmps[d]? with
  | none => rfl
  | some v => cases v <;> rfl
theorem wantd_ok {ops : Array Oper} {fr : List (Nat × Value)} {o : Oper} {b : Bool} {a : Act} {n : Nat} (ha : Fr a n fr) (h : wantd ops fr o = some b) : Region.wanted o (yielded ops a.tmps) = b := by
  unfold wantd at h
  unfold Region.wanted
  cases hg : o.guard with
  | none => rw [hg] at h; exact Option.some.inj h
  | some g =>
    obtain ⟨j, want⟩ := g
    rw [hg] at h
    simp only at h ⊢
    cases hj : ops[j]? with
    | none => rw [hj] at h; cases h
    | some oj =>
      rw [hj] at h
      simp only at h
      cases hd : oj.dst with
      | none => rw [hd] at h; cases h
      | some d =>
        rw [hd] at h
        simp only at h
        rw [yielded_of hj hd]
        cases hl : look fr d with
        | none => rw [hl] at h; cases h
        | some v =>
          rw [hl] at h
          have h1 := ha.at_ d _ hl
          cases v <;> first | (cases h; done) | skip
          · rw [getD_bool h1]
            rename_i b'
            have h2 : (b' == want) = b := Option.some.inj h
            rw [← h2]
            cases b' <;> cases want <;> rfl
          · rename_i vs
            have h2 : false = b := Option.some.inj h
            rw [← h2]
            by_cases hs : d < a.tmps.size
            · rw [Array.getElem?_eq_getElem hs]
              simp [Array.getD, hs] at h1
              rw [h1]; rfl
            · rw [Array.getElem?_eq_none (Nat.le_of_not_lt hs)]; rfl

/-- In every world that the state describes the operation leaves v and does nothing else. -/
def Yv (P : Program) (n : Nat) (I : Imm) (fr : List (Nat × Value)) (l : List Itm) (o : Oper) (v : Value) : Prop :=
  ∀ a w, Fr a n fr → St I w l → (execOp a.eval o).run P w = .ok (.value v) w
/-- The operation acts, and K holds behind it. -/
def Oa (P : Program) (Q : Exit → Act → World → Prop) (n : Nat) (I : Imm) (fr : List (Nat × Value)) (l : List Itm) (o : Oper) (K : Act → World → Prop) : Prop :=
  ∀ a w, Fr a n fr → St I w l → o.wp P a w K Q

end Go.Proofs.YtfnmcpgajjkemaaDoor.SW
