/- The symbolic walk, part 10: structs built and read; items moved about. -/
import Derived.Test.YtfnmcpgajjkemaaDoorRows2
namespace Go.Proofs.YtfnmcpgajjkemaaDoor.SW
open Go Go.RowKit

theorem run_mapM_list {P : Program} {w : World} {α β : Type} {f : α → Sem β} {g : α → β} : ∀ {l : List α}, (∀ x, x ∈ l → (f x).run P w = .ok (g x) w) → (l.mapM f).run P w = .ok (l.map g) w
  | [], _ => by simp
  | x :: l, h => by
    have h1 := h x (List.mem_cons_self ..)
    have h2 := run_mapM_list (l := l) (f := f) (g := g) fun y hy => h y (List.mem_cons_of_mem _ hy)
    simp [List.mapM_cons, h1, h2]
theorem run_mapM_array {P : Program} {w : World} {α β : Type} {f : α → Sem β} {g : α → β} {l : Array α} (h : ∀ x, x ∈ l.toList → (f x).run P w = .ok (g x) w) : (l.mapM f).run P w = .ok (l.map g) w := by
  have h1 := run_mapM_list (P := P) (w := w) h
  rw [Array.mapM_eq_mapM_toList, ← bind_pure_comp]
  have h2 : (List.map g l.toList).toArray = Array.map g l := by rw [← Array.toList_map, Array.toArray_toList]
  simp [h1, h2]

def szOf {P : Program} (T : Tab P) (t : TypeId) : Nat := match T.info t with
  | some (z, _) => z.length
  | none => 0
def szAll {P : Program} (T : Tab P) (fs : List (Nat × TypeId)) : Bool := fs.all fun f => (T.info f.2).isSome
/-- The operands of a struct's parts. -/
def evp (fr : List (Nat × Value)) : List (Nat × Operand) → Option (List (Nat × Value))
  | [] => some []
  | (i, x) :: r => match ev fr x, evp fr r with
    | some v, some vs => some ((i, v) :: vs)
    | _, _ => none
theorem evp_ok {a : Act} {n : Nat} {fr : List (Nat × Value)} (h : Fr a n fr) : ∀ {xs : List (Nat × Operand)} {vs : List (Nat × Value)}, evp fr xs = some vs → xs.map (fun x => (x.1, a.eval x.2)) = vs
  | [], vs, hx => by cases hx; rfl
  | (i, x) :: r, vs, hx => by
    simp only [evp] at hx
    cases h1 : ev fr x with
    | none => rw [h1] at hx; cases hx
    | some v =>
      cases h2 : evp fr r with
      | none => rw [h1, h2] at hx; cases hx
      | some us => rw [h1, h2] at hx; cases hx; simp [h.eval h1, evp_ok h h2]
section
variable {P : Program} {Q : Exit → Act → World → Prop} {n : Nat} {I : Imm} {fr : List (Nat × Value)} {l m m' : List Itm} {K : Act → World → Prop} {d : Option Tmp} {ty t : TypeId} {p : String} {af : Array Edge} {g : Option (Nat × Bool)} {x : Operand} {v : Value}
theorem y_build (T : Tab P) {fs : List (Nat × TypeId)} {zz : List Value} {bb : Nat} {parts : Array (Nat × Operand)} {vs : List (Nat × Value)} {c : Array Value} (hs : T.sh t = .st fs) (ha : szAll T fs = true) (hz : T.info t = some (zz, bb)) (hp : evp fr parts.toList = some vs)
    (hf : Instr.fill (fun (i : Nat) => (fs.map fun f => (f.1, szOf T f.2))[i]?) zz.toArray vs = some c) : Yv P n I fr l ⟨d, .build t parts, ty, p, af, g⟩ (.agg c) := fun a w hfr _ => by
  obtain ⟨fields, hu, hfs⟩ := T.struct_of hs
  obtain ⟨i, zv, hi, hzv, hcs, _, _⟩ := T.info_ok t zz bb hz
  have hcs' : zv.cells = zz.toArray := by rw [← hcs]
  have h1 : ∀ f, f ∈ fields.toList → (Prod.mk f.offset <$> sizeOf f.type : Sem (Nat × Nat)).run P w = .ok (f.offset, szOf T f.type) w := fun f hf' => by
    have h2 : (f.offset, f.type) ∈ fs := by rw [← hfs]; exact List.mem_map.2 ⟨f, hf', rfl⟩
    have h3 := List.all_eq_true.1 ha _ h2
    cases h4 : T.info f.type with
    | none => simp [h4] at h3
    | some z => obtain ⟨z, b⟩ := z; rw [← bind_pure_comp]; simp [T.sizeOf_ok h4, szOf, h4]
  have h2 := run_mapM_array (P := P) (w := w) h1
  have h3 : Instr.fill (fun (i : Nat) => Option.map (fun f => (f.offset, szOf T f.type)) fields[i]?) zz.toArray vs = some c := by
    rw [← hf]
    congr 1
    funext i
    rw [← hfs, List.map_map, ← Array.getElem?_toList, List.getElem?_map]
    rfl
  have h4 := evp_ok hfr hp
  simp [execOp, Instr.build, zeroValue, typeInfo, hi, hzv, run_underlying hu, h2, hcs', h4, h3]
theorem y_field1 (T : Tab P) {fs : List (Nat × TypeId)} {f off : Nat} {ft : TypeId} {c : Array Value} (hs : T.sh t = .st fs) (hf : fs[f]? = some (off, ft)) (hp : (T.sh ft).plain = true) (hx : ev fr x = some (.agg c)) (hv : c[off]? = some v) : Yv P n I fr l ⟨d, .field t x f, ty, p, af, g⟩ v := fun a w ha _ => by
  obtain ⟨fields, hu, hfs⟩ := T.struct_of hs
  have h1 : ∃ fd, fields[f]? = some fd ∧ fd.offset = off ∧ fd.type = ft := by
    rw [← hfs, List.getElem?_map, Array.getElem?_toList] at hf
    cases hq : fields[f]? with
    | none => rw [hq] at hf; cases hf
    | some fd => rw [hq] at hf; exact ⟨fd, rfl, by cases hf; exact ⟨rfl, rfl⟩⟩
  obtain ⟨fd, hfd, ho, hty⟩ := h1
  have h2 : (isAgg fd.type).run P w = .ok false w := by rw [hty]; exact T.isAgg_plain hp
  simp [execOp, ha.eval hx, Instr.field, run_underlying hu, hfd, part, asAgg, h2, ho, hv]
theorem y_fielda (T : Tab P) {fs : List (Nat × TypeId)} {f off : Nat} {ft : TypeId} {zz : List Value} {bb : Nat} {c : Array Value} (hs : T.sh t = .st fs) (hf : fs[f]? = some (off, ft)) (hp : (T.sh ft).agg = true) (hz : T.info ft = some (zz, bb)) (hx : ev fr x = some (.agg c)) :
    Yv P n I fr l ⟨d, .field t x f, ty, p, af, g⟩ (.agg (c.extract off (off + zz.length))) := fun a w ha _ => by
  obtain ⟨fields, hu, hfs⟩ := T.struct_of hs
  have h1 : ∃ fd, fields[f]? = some fd ∧ fd.offset = off ∧ fd.type = ft := by
    rw [← hfs, List.getElem?_map, Array.getElem?_toList] at hf
    cases hq : fields[f]? with
    | none => rw [hq] at hf; cases hf
    | some fd => rw [hq] at hf; exact ⟨fd, rfl, by cases hf; exact ⟨rfl, rfl⟩⟩
  obtain ⟨fd, hfd, ho, hty⟩ := h1
  have h2 : (isAgg fd.type).run P w = .ok true w := by rw [hty]; exact T.isAgg_agg hp
  have h3 : (sizeOf fd.type).run P w = .ok zz.length w := by rw [hty]; exact T.sizeOf_ok hz
  simp [execOp, ha.eval hx, Instr.field, run_underlying hu, hfd, part, asAgg, h2, h3, ho]

/-! ### Items moved about -/
variable {a b c e : Itm}
theorem K_b1 (h : KK n I fr (b :: a :: l) K) : KK n I fr (a :: b :: l) K := K_f1 h
theorem K_b2 (h : KK n I fr (b :: c :: a :: l) K) : KK n I fr (a :: b :: c :: l) K := K_perm ((List.Perm.swap b a _).trans ((List.Perm.swap c a l).cons b)) h
theorem K_b3 (h : KK n I fr (b :: c :: e :: a :: l) K) : KK n I fr (a :: b :: c :: e :: l) K := K_perm ((List.Perm.swap b a _).trans (((List.Perm.swap c a _).trans ((List.Perm.swap e a l).cons c)).cons b)) h
theorem K_mid1 (h : KK n I fr (a :: (m ++ l)) K) : KK n I fr (m ++ a :: l) K := K_perm List.perm_middle h
theorem K_mid2 (h : KK n I fr (a :: b :: (m ++ l)) K) : KK n I fr (a :: (m ++ b :: l)) K := K_perm (List.perm_middle.cons a) h
/-- One of a list of items is pulled out, and put back. -/
theorem K_pull (pre : List Itm) (hp : m.Perm (a :: m')) (h : KK n I fr (a :: (pre ++ (m' ++ l))) K) : KK n I fr (pre ++ (m ++ l)) K :=
  K_perm (((hp.append_right l).append_left pre).trans List.perm_middle) h
theorem K_put (pre : List Itm) (hp : (a :: m').Perm m) (h : KK n I fr (pre ++ (m ++ l)) K) : KK n I fr (a :: (pre ++ (m' ++ l))) K :=
  K_perm (List.perm_middle.symm.trans ((hp.append_right l).append_left pre)) h
theorem K_rot (pre : List Itm) (h : KK n I fr (m ++ (pre ++ l)) K) : KK n I fr (pre ++ (m ++ l)) K := by
  refine K_perm ?_ h
  rw [← List.append_assoc, ← List.append_assoc]
  exact List.perm_append_comm.append_right l
end
end Go.Proofs.YtfnmcpgajjkemaaDoor.SW
