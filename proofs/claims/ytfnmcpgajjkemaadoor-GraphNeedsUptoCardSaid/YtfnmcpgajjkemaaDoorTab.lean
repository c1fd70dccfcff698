/- The table of the program's types, by program: facts by the kernel. -/
import Derived.Test.YtfnmcpgajjkemaaDoorProg
import Derived.Test.YtfnmcpgajjkemaaDoorOps
namespace Go.Proofs.YtfnmcpgajjkemaaDoor
open Go Go.Proofs.YtfnmcpgajjkemaaDoor.SW
set_option maxRecDepth 100000
inductive AllSh (P : Program) : Nat → List Sh → Prop where
  | nil {k : Nat} : AllSh P k []
  | cons {k : Nat} {s : Sh} {r : List Sh} (h : ShOk P k s) (t : AllSh P (k + 1) r) : AllSh P k (s :: r)
theorem AllSh.get {P : Program} {k : Nat} {l : List Sh} (h : AllSh P k l) : ∀ i, ShOk P (k + i) (l.getD i .other) := by
  induction h with
  | nil => intro i; cases i <;> trivial
  | cons h t ih =>
    intro i
    cases i with
    | zero => exact h
    | succ i => have := ih i; rw [Nat.add_assoc, Nat.add_comm 1 i] at this; exact this
def InOk (P : Program) (t : Nat) : Option (List Value × Nat) → Prop
  | none => True
  | some (z, b) => ∃ i zv, P.info? t = some i ∧ i.zero = some zv ∧ zv.cells.toList = z ∧ i.size = z.length ∧ i.bytes = b
theorem InOk.mk {P : Program} {t : Nat} {zv : Value} {n b : Nat} (h : (P.info? t).map (fun i => (i.zero, i.size, i.bytes)) = some (some zv, n, b)) (hn : zv.cells.toList.length = n) : InOk P t (some (zv.cells.toList, b)) := by
  obtain ⟨i, hi, hz⟩ := Option.map_eq_some_iff.1 h
  simp only [Prod.mk.injEq] at hz
  exact ⟨i, zv, hi, hz.1, rfl, by rw [hz.2.1, hn], hz.2.2⟩
inductive AllIn (P : Program) : Nat → List (Option (List Value × Nat)) → Prop where
  | nil {k : Nat} : AllIn P k []
  | cons {k : Nat} {s : Option (List Value × Nat)} {r : List (Option (List Value × Nat))} (h : InOk P k s) (t : AllIn P (k + 1) r) : AllIn P k (s :: r)
theorem AllIn.get {P : Program} {k : Nat} {l : List (Option (List Value × Nat))} (h : AllIn P k l) : ∀ i, InOk P (k + i) (l.getD i none) := by
  induction h with
  | nil => intro i; cases i <;> trivial
  | cons h t ih =>
    intro i
    cases i with
    | zero => exact h
    | succ i => have := ih i; rw [Nat.add_assoc, Nat.add_comm 1 i] at this; exact this
theorem sh1 : ShOk Tryd.prog 1 .fn := (by kernel_rfl : (match Tryd.prog.underlying 1 with | some (.func ..) => true | _ => false) = true)
theorem in1 : InOk Tryd.prog 1 (some ([.nilFunc], 8)) := InOk.mk (zv := .nilFunc) (n := 1) (by kernel_rfl) rfl
theorem sh2 : ShOk Tryd.prog 2 (.int .i64) := (by kernel_rfl : Tryd.prog.underlying 2 = some (.int .i64))
theorem in2 : InOk Tryd.prog 2 (some ([.int .i64 0], 8)) := InOk.mk (zv := .int .i64 0) (n := 1) (by kernel_rfl) rfl
theorem sh3 : ShOk Tryd.prog 3 (.int .i64) := (by kernel_rfl : Tryd.prog.underlying 3 = some (.int .i64))
theorem in3 : InOk Tryd.prog 3 (some ([.int .i64 0], 8)) := InOk.mk (zv := .int .i64 0) (n := 1) (by kernel_rfl) rfl
theorem sh4 : ShOk Tryd.prog 4 .bool := (by kernel_rfl : Tryd.prog.underlying 4 = some .bool)
theorem in4 : InOk Tryd.prog 4 (some ([.bool false], 1)) := InOk.mk (zv := .bool false) (n := 1) (by kernel_rfl) rfl
theorem sh5 : ShOk Tryd.prog 5 (.int .u8) := (by kernel_rfl : Tryd.prog.underlying 5 = some (.int .u8))
theorem in5 : InOk Tryd.prog 5 (some ([.int .u8 0], 1)) := InOk.mk (zv := .int .u8 0) (n := 1) (by kernel_rfl) rfl
theorem sh6 : ShOk Tryd.prog 6 (.int .u8) := (by kernel_rfl : Tryd.prog.underlying 6 = some (.int .u8))
theorem in6 : InOk Tryd.prog 6 (some ([.int .u8 0], 1)) := InOk.mk (zv := .int .u8 0) (n := 1) (by kernel_rfl) rfl
theorem sh7 : ShOk Tryd.prog 7 (.st [(0, 2), (1, 3), (2, 4), (3, 6)]) := (by kernel_rfl : (match Tryd.prog.underlying 7 with | some (.struct fields) => some (fields.toList.map fun f => (f.offset, f.type)) | _ => none) = some [(0, 2), (1, 3), (2, 4), (3, 6)])
theorem in7 : InOk Tryd.prog 7 (some ([.int .i64 0, .int .i64 0, .bool false, .int .u8 0], 24)) := InOk.mk (zv := .agg #[.int .i64 0, .int .i64 0, .bool false, .int .u8 0]) (n := 4) (by kernel_rfl) rfl
theorem sh8 : ShOk Tryd.prog 8 (.st [(0, 2), (1, 3), (2, 4), (3, 6)]) := (by kernel_rfl : (match Tryd.prog.underlying 8 with | some (.struct fields) => some (fields.toList.map fun f => (f.offset, f.type)) | _ => none) = some [(0, 2), (1, 3), (2, 4), (3, 6)])
theorem in8 : InOk Tryd.prog 8 (some ([.int .i64 0, .int .i64 0, .bool false, .int .u8 0], 24)) := InOk.mk (zv := .agg #[.int .i64 0, .int .i64 0, .bool false, .int .u8 0]) (n := 4) (by kernel_rfl) rfl
theorem sh9 : ShOk Tryd.prog 9 .str := (by kernel_rfl : Tryd.prog.underlying 9 = some .string)
theorem in9 : InOk Tryd.prog 9 (some ([.string ⟨#[]⟩], 16)) := InOk.mk (zv := .string ⟨#[]⟩) (n := 1) (by kernel_rfl) rfl
theorem sh10 : ShOk Tryd.prog 10 .str := (by kernel_rfl : Tryd.prog.underlying 10 = some .string)
theorem in10 : InOk Tryd.prog 10 (some ([.string ⟨#[]⟩], 16)) := InOk.mk (zv := .string ⟨#[]⟩) (n := 1) (by kernel_rfl) rfl
theorem sh11 : ShOk Tryd.prog 11 .str := (by kernel_rfl : Tryd.prog.underlying 11 = some .string)
theorem in11 : InOk Tryd.prog 11 (some ([.string ⟨#[]⟩], 16)) := InOk.mk (zv := .string ⟨#[]⟩) (n := 1) (by kernel_rfl) rfl
theorem sh12 : ShOk Tryd.prog 12 (.int .u64) := (by kernel_rfl : Tryd.prog.underlying 12 = some (.int .u64))
theorem in12 : InOk Tryd.prog 12 (some ([.int .u64 0], 8)) := InOk.mk (zv := .int .u64 0) (n := 1) (by kernel_rfl) rfl
theorem sh13 : ShOk Tryd.prog 13 (.st [(0, 9), (1, 12)]) := (by kernel_rfl : (match Tryd.prog.underlying 13 with | some (.struct fields) => some (fields.toList.map fun f => (f.offset, f.type)) | _ => none) = some [(0, 9), (1, 12)])
theorem in13 : InOk Tryd.prog 13 (some ([.string ⟨#[]⟩, .int .u64 0], 24)) := InOk.mk (zv := .agg #[.string ⟨#[]⟩, .int .u64 0]) (n := 2) (by kernel_rfl) rfl
theorem sh14 : ShOk Tryd.prog 14 (.st [(0, 9), (1, 12)]) := (by kernel_rfl : (match Tryd.prog.underlying 14 with | some (.struct fields) => some (fields.toList.map fun f => (f.offset, f.type)) | _ => none) = some [(0, 9), (1, 12)])
theorem in14 : InOk Tryd.prog 14 (some ([.string ⟨#[]⟩, .int .u64 0], 24)) := InOk.mk (zv := .agg #[.string ⟨#[]⟩, .int .u64 0]) (n := 2) (by kernel_rfl) rfl
theorem sh15 : ShOk Tryd.prog 15 (.ptr 143) := (by kernel_rfl : Tryd.prog.underlying 15 = some (.pointer 143))
theorem in15 : InOk Tryd.prog 15 (some ([.pointer none], 8)) := InOk.mk (zv := .pointer none) (n := 1) (by kernel_rfl) rfl
theorem sh16 : ShOk Tryd.prog 16 (.ptr 146) := (by kernel_rfl : Tryd.prog.underlying 16 = some (.pointer 146))
theorem in16 : InOk Tryd.prog 16 (some ([.pointer none], 8)) := InOk.mk (zv := .pointer none) (n := 1) (by kernel_rfl) rfl
theorem sh17 : ShOk Tryd.prog 17 (.ptr 154) := (by kernel_rfl : Tryd.prog.underlying 17 = some (.pointer 154))
theorem in17 : InOk Tryd.prog 17 (some ([.pointer none], 8)) := InOk.mk (zv := .pointer none) (n := 1) (by kernel_rfl) rfl
theorem sh18 : ShOk Tryd.prog 18 (.st [(0, 17)]) := (by kernel_rfl : (match Tryd.prog.underlying 18 with | some (.struct fields) => some (fields.toList.map fun f => (f.offset, f.type)) | _ => none) = some [(0, 17)])
theorem in18 : InOk Tryd.prog 18 (some ([.pointer none], 8)) := InOk.mk (zv := .agg #[.pointer none]) (n := 1) (by kernel_rfl) rfl
theorem sh19 : ShOk Tryd.prog 19 (.st [(0, 17)]) := (by kernel_rfl : (match Tryd.prog.underlying 19 with | some (.struct fields) => some (fields.toList.map fun f => (f.offset, f.type)) | _ => none) = some [(0, 17)])
theorem in19 : InOk Tryd.prog 19 (some ([.pointer none], 8)) := InOk.mk (zv := .agg #[.pointer none]) (n := 1) (by kernel_rfl) rfl
theorem sh20 : ShOk Tryd.prog 20 .iface := (by kernel_rfl : (match Tryd.prog.underlying 20 with | some (.interface _) => true | _ => false) = true)
theorem in20 : InOk Tryd.prog 20 (some ([.nilIface], 16)) := InOk.mk (zv := .nilIface) (n := 1) (by kernel_rfl) rfl
theorem sh21 : ShOk Tryd.prog 21 (.int .i32) := (by kernel_rfl : Tryd.prog.underlying 21 = some (.int .i32))
theorem in21 : InOk Tryd.prog 21 (some ([.int .i32 0], 4)) := InOk.mk (zv := .int .i32 0) (n := 1) (by kernel_rfl) rfl
theorem sh22 : ShOk Tryd.prog 22 (.slice 23) := (by kernel_rfl : Tryd.prog.underlying 22 = some (.slice 23))
theorem in22 : InOk Tryd.prog 22 (some ([.slice none 0 0], 24)) := InOk.mk (zv := .slice none 0 0) (n := 1) (by kernel_rfl) rfl
theorem sh23 : ShOk Tryd.prog 23 (.slice 3) := (by kernel_rfl : Tryd.prog.underlying 23 = some (.slice 3))
theorem in23 : InOk Tryd.prog 23 (some ([.slice none 0 0], 24)) := InOk.mk (zv := .slice none 0 0) (n := 1) (by kernel_rfl) rfl
theorem sh24 : ShOk Tryd.prog 24 (.int .i64) := (by kernel_rfl : Tryd.prog.underlying 24 = some (.int .i64))
theorem in24 : InOk Tryd.prog 24 (some ([.int .i64 0], 8)) := InOk.mk (zv := .int .i64 0) (n := 1) (by kernel_rfl) rfl
theorem sh26 : ShOk Tryd.prog 26 .fn := (by kernel_rfl : (match Tryd.prog.underlying 26 with | some (.func ..) => true | _ => false) = true)
theorem in26 : InOk Tryd.prog 26 (some ([.nilFunc], 8)) := InOk.mk (zv := .nilFunc) (n := 1) (by kernel_rfl) rfl
theorem sh27 : ShOk Tryd.prog 27 .fn := (by kernel_rfl : (match Tryd.prog.underlying 27 with | some (.func ..) => true | _ => false) = true)
theorem in27 : InOk Tryd.prog 27 (some ([.nilFunc], 8)) := InOk.mk (zv := .nilFunc) (n := 1) (by kernel_rfl) rfl
theorem sh28 : ShOk Tryd.prog 28 .fn := (by kernel_rfl : (match Tryd.prog.underlying 28 with | some (.func ..) => true | _ => false) = true)
theorem in28 : InOk Tryd.prog 28 (some ([.nilFunc], 8)) := InOk.mk (zv := .nilFunc) (n := 1) (by kernel_rfl) rfl
theorem sh29 : ShOk Tryd.prog 29 .fn := (by kernel_rfl : (match Tryd.prog.underlying 29 with | some (.func ..) => true | _ => false) = true)
theorem in29 : InOk Tryd.prog 29 (some ([.nilFunc], 8)) := InOk.mk (zv := .nilFunc) (n := 1) (by kernel_rfl) rfl
theorem sh30 : ShOk Tryd.prog 30 .fn := (by kernel_rfl : (match Tryd.prog.underlying 30 with | some (.func ..) => true | _ => false) = true)
theorem in30 : InOk Tryd.prog 30 (some ([.nilFunc], 8)) := InOk.mk (zv := .nilFunc) (n := 1) (by kernel_rfl) rfl
theorem sh31 : ShOk Tryd.prog 31 .fn := (by kernel_rfl : (match Tryd.prog.underlying 31 with | some (.func ..) => true | _ => false) = true)
theorem in31 : InOk Tryd.prog 31 (some ([.nilFunc], 8)) := InOk.mk (zv := .nilFunc) (n := 1) (by kernel_rfl) rfl
theorem sh32 : ShOk Tryd.prog 32 .fn := (by kernel_rfl : (match Tryd.prog.underlying 32 with | some (.func ..) => true | _ => false) = true)
theorem in32 : InOk Tryd.prog 32 (some ([.nilFunc], 8)) := InOk.mk (zv := .nilFunc) (n := 1) (by kernel_rfl) rfl
theorem sh33 : ShOk Tryd.prog 33 .fn := (by kernel_rfl : (match Tryd.prog.underlying 33 with | some (.func ..) => true | _ => false) = true)
theorem in33 : InOk Tryd.prog 33 (some ([.nilFunc], 8)) := InOk.mk (zv := .nilFunc) (n := 1) (by kernel_rfl) rfl
theorem sh34 : ShOk Tryd.prog 34 (.slice 4) := (by kernel_rfl : Tryd.prog.underlying 34 = some (.slice 4))
theorem in34 : InOk Tryd.prog 34 (some ([.slice none 0 0], 24)) := InOk.mk (zv := .slice none 0 0) (n := 1) (by kernel_rfl) rfl
theorem sh35 : ShOk Tryd.prog 35 .fn := (by kernel_rfl : (match Tryd.prog.underlying 35 with | some (.func ..) => true | _ => false) = true)
theorem in35 : InOk Tryd.prog 35 (some ([.nilFunc], 8)) := InOk.mk (zv := .nilFunc) (n := 1) (by kernel_rfl) rfl
theorem sh36 : ShOk Tryd.prog 36 .fn := (by kernel_rfl : (match Tryd.prog.underlying 36 with | some (.func ..) => true | _ => false) = true)
theorem in36 : InOk Tryd.prog 36 (some ([.nilFunc], 8)) := InOk.mk (zv := .nilFunc) (n := 1) (by kernel_rfl) rfl
theorem sh37 : ShOk Tryd.prog 37 .fn := (by kernel_rfl : (match Tryd.prog.underlying 37 with | some (.func ..) => true | _ => false) = true)
theorem in37 : InOk Tryd.prog 37 (some ([.nilFunc], 8)) := InOk.mk (zv := .nilFunc) (n := 1) (by kernel_rfl) rfl
theorem sh38 : ShOk Tryd.prog 38 (.slice 46) := (by kernel_rfl : Tryd.prog.underlying 38 = some (.slice 46))
theorem in38 : InOk Tryd.prog 38 (some ([.slice none 0 0], 24)) := InOk.mk (zv := .slice none 0 0) (n := 1) (by kernel_rfl) rfl
theorem sh39 : ShOk Tryd.prog 39 .fn := (by kernel_rfl : (match Tryd.prog.underlying 39 with | some (.func ..) => true | _ => false) = true)
theorem in39 : InOk Tryd.prog 39 (some ([.nilFunc], 8)) := InOk.mk (zv := .nilFunc) (n := 1) (by kernel_rfl) rfl
theorem sh40 : ShOk Tryd.prog 40 (.slice 51) := (by kernel_rfl : Tryd.prog.underlying 40 = some (.slice 51))
theorem in40 : InOk Tryd.prog 40 (some ([.slice none 0 0], 24)) := InOk.mk (zv := .slice none 0 0) (n := 1) (by kernel_rfl) rfl
theorem sh41 : ShOk Tryd.prog 41 (.slice 53) := (by kernel_rfl : Tryd.prog.underlying 41 = some (.slice 53))
theorem in41 : InOk Tryd.prog 41 (some ([.slice none 0 0], 24)) := InOk.mk (zv := .slice none 0 0) (n := 1) (by kernel_rfl) rfl
theorem sh42 : ShOk Tryd.prog 42 (.slice 89) := (by kernel_rfl : Tryd.prog.underlying 42 = some (.slice 89))
theorem in42 : InOk Tryd.prog 42 (some ([.slice none 0 0], 24)) := InOk.mk (zv := .slice none 0 0) (n := 1) (by kernel_rfl) rfl
theorem sh43 : ShOk Tryd.prog 43 (.st [(0, 24), (1, 9), (2, 3), (3, 3)]) := (by kernel_rfl : (match Tryd.prog.underlying 43 with | some (.struct fields) => some (fields.toList.map fun f => (f.offset, f.type)) | _ => none) = some [(0, 24), (1, 9), (2, 3), (3, 3)])
theorem in43 : InOk Tryd.prog 43 (some ([.int .i64 0, .string ⟨#[]⟩, .int .i64 0, .int .i64 0], 40)) := InOk.mk (zv := .agg #[.int .i64 0, .string ⟨#[]⟩, .int .i64 0, .int .i64 0]) (n := 4) (by kernel_rfl) rfl
theorem sh44 : ShOk Tryd.prog 44 (.st [(0, 24), (1, 9), (2, 3), (3, 3)]) := (by kernel_rfl : (match Tryd.prog.underlying 44 with | some (.struct fields) => some (fields.toList.map fun f => (f.offset, f.type)) | _ => none) = some [(0, 24), (1, 9), (2, 3), (3, 3)])
theorem in44 : InOk Tryd.prog 44 (some ([.int .i64 0, .string ⟨#[]⟩, .int .i64 0, .int .i64 0], 40)) := InOk.mk (zv := .agg #[.int .i64 0, .string ⟨#[]⟩, .int .i64 0, .int .i64 0]) (n := 4) (by kernel_rfl) rfl
theorem sh45 : ShOk Tryd.prog 45 (.st [(0, 9), (1, 3), (2, 40), (3, 40), (4, 9), (5, 41), (6, 3), (7, 3), (8, 4), (9, 3), (10, 42), (11, 4), (12, 44)]) := (by kernel_rfl : (match Tryd.prog.underlying 45 with | some (.struct fields) => some (fields.toList.map fun f => (f.offset, f.type)) | _ => none) = some [(0, 9), (1, 3), (2, 40), (3, 40), (4, 9), (5, 41), (6, 3), (7, 3), (8, 4), (9, 3), (10, 42), (11, 4), (12, 44)])
theorem in45 : InOk Tryd.prog 45 (some ([.string ⟨#[]⟩, .int .i64 0, .slice none 0 0, .slice none 0 0, .string ⟨#[]⟩, .slice none 0 0, .int .i64 0, .int .i64 0, .bool false, .int .i64 0, .slice none 0 0, .bool false, .int .i64 0, .string ⟨#[]⟩, .int .i64 0, .int .i64 0], 216)) := InOk.mk (zv := .agg #[.string ⟨#[]⟩, .int .i64 0, .slice none 0 0, .slice none 0 0, .string ⟨#[]⟩, .slice none 0 0, .int .i64 0, .int .i64 0, .bool false, .int .i64 0, .slice none 0 0, .bool false, .int .i64 0, .string ⟨#[]⟩, .int .i64 0, .int .i64 0]) (n := 16) (by kernel_rfl) rfl
theorem sh46 : ShOk Tryd.prog 46 (.st [(0, 9), (1, 3), (2, 40), (3, 40), (4, 9), (5, 41), (6, 3), (7, 3), (8, 4), (9, 3), (10, 42), (11, 4), (12, 44)]) := (by kernel_rfl : (match Tryd.prog.underlying 46 with | some (.struct fields) => some (fields.toList.map fun f => (f.offset, f.type)) | _ => none) = some [(0, 9), (1, 3), (2, 40), (3, 40), (4, 9), (5, 41), (6, 3), (7, 3), (8, 4), (9, 3), (10, 42), (11, 4), (12, 44)])
theorem in46 : InOk Tryd.prog 46 (some ([.string ⟨#[]⟩, .int .i64 0, .slice none 0 0, .slice none 0 0, .string ⟨#[]⟩, .slice none 0 0, .int .i64 0, .int .i64 0, .bool false, .int .i64 0, .slice none 0 0, .bool false, .int .i64 0, .string ⟨#[]⟩, .int .i64 0, .int .i64 0], 216)) := InOk.mk (zv := .agg #[.string ⟨#[]⟩, .int .i64 0, .slice none 0 0, .slice none 0 0, .string ⟨#[]⟩, .slice none 0 0, .int .i64 0, .int .i64 0, .bool false, .int .i64 0, .slice none 0 0, .bool false, .int .i64 0, .string ⟨#[]⟩, .int .i64 0, .int .i64 0]) (n := 16) (by kernel_rfl) rfl
theorem sh48 : ShOk Tryd.prog 48 .fn := (by kernel_rfl : (match Tryd.prog.underlying 48 with | some (.func ..) => true | _ => false) = true)
theorem in48 : InOk Tryd.prog 48 (some ([.nilFunc], 8)) := InOk.mk (zv := .nilFunc) (n := 1) (by kernel_rfl) rfl
theorem sh49 : ShOk Tryd.prog 49 .fn := (by kernel_rfl : (match Tryd.prog.underlying 49 with | some (.func ..) => true | _ => false) = true)
theorem in49 : InOk Tryd.prog 49 (some ([.nilFunc], 8)) := InOk.mk (zv := .nilFunc) (n := 1) (by kernel_rfl) rfl
theorem sh50 : ShOk Tryd.prog 50 (.st [(0, 9), (1, 9)]) := (by kernel_rfl : (match Tryd.prog.underlying 50 with | some (.struct fields) => some (fields.toList.map fun f => (f.offset, f.type)) | _ => none) = some [(0, 9), (1, 9)])
theorem in50 : InOk Tryd.prog 50 (some ([.string ⟨#[]⟩, .string ⟨#[]⟩], 32)) := InOk.mk (zv := .agg #[.string ⟨#[]⟩, .string ⟨#[]⟩]) (n := 2) (by kernel_rfl) rfl
theorem sh51 : ShOk Tryd.prog 51 (.st [(0, 9), (1, 9)]) := (by kernel_rfl : (match Tryd.prog.underlying 51 with | some (.struct fields) => some (fields.toList.map fun f => (f.offset, f.type)) | _ => none) = some [(0, 9), (1, 9)])
theorem in51 : InOk Tryd.prog 51 (some ([.string ⟨#[]⟩, .string ⟨#[]⟩], 32)) := InOk.mk (zv := .agg #[.string ⟨#[]⟩, .string ⟨#[]⟩]) (n := 2) (by kernel_rfl) rfl
theorem sh52 : ShOk Tryd.prog 52 (.st [(0, 9), (1, 44)]) := (by kernel_rfl : (match Tryd.prog.underlying 52 with | some (.struct fields) => some (fields.toList.map fun f => (f.offset, f.type)) | _ => none) = some [(0, 9), (1, 44)])
theorem in52 : InOk Tryd.prog 52 (some ([.string ⟨#[]⟩, .int .i64 0, .string ⟨#[]⟩, .int .i64 0, .int .i64 0], 56)) := InOk.mk (zv := .agg #[.string ⟨#[]⟩, .int .i64 0, .string ⟨#[]⟩, .int .i64 0, .int .i64 0]) (n := 5) (by kernel_rfl) rfl
theorem sh53 : ShOk Tryd.prog 53 (.st [(0, 9), (1, 44)]) := (by kernel_rfl : (match Tryd.prog.underlying 53 with | some (.struct fields) => some (fields.toList.map fun f => (f.offset, f.type)) | _ => none) = some [(0, 9), (1, 44)])
theorem in53 : InOk Tryd.prog 53 (some ([.string ⟨#[]⟩, .int .i64 0, .string ⟨#[]⟩, .int .i64 0, .int .i64 0], 56)) := InOk.mk (zv := .agg #[.string ⟨#[]⟩, .int .i64 0, .string ⟨#[]⟩, .int .i64 0, .int .i64 0]) (n := 5) (by kernel_rfl) rfl
theorem sh54 : ShOk Tryd.prog 54 .fn := (by kernel_rfl : (match Tryd.prog.underlying 54 with | some (.func ..) => true | _ => false) = true)
theorem in54 : InOk Tryd.prog 54 (some ([.nilFunc], 8)) := InOk.mk (zv := .nilFunc) (n := 1) (by kernel_rfl) rfl
theorem sh55 : ShOk Tryd.prog 55 (.ptr 57) := (by kernel_rfl : Tryd.prog.underlying 55 = some (.pointer 57))
theorem in55 : InOk Tryd.prog 55 (some ([.pointer none], 8)) := InOk.mk (zv := .pointer none) (n := 1) (by kernel_rfl) rfl
theorem sh56 : ShOk Tryd.prog 56 (.slice 60) := (by kernel_rfl : Tryd.prog.underlying 56 = some (.slice 60))
theorem in56 : InOk Tryd.prog 56 (some ([.slice none 0 0], 24)) := InOk.mk (zv := .slice none 0 0) (n := 1) (by kernel_rfl) rfl
theorem sh57 : ShOk Tryd.prog 57 (.slice 60) := (by kernel_rfl : Tryd.prog.underlying 57 = some (.slice 60))
theorem in57 : InOk Tryd.prog 57 (some ([.slice none 0 0], 24)) := InOk.mk (zv := .slice none 0 0) (n := 1) (by kernel_rfl) rfl
theorem sh58 : ShOk Tryd.prog 58 .fn := (by kernel_rfl : (match Tryd.prog.underlying 58 with | some (.func ..) => true | _ => false) = true)
theorem in58 : InOk Tryd.prog 58 (some ([.nilFunc], 8)) := InOk.mk (zv := .nilFunc) (n := 1) (by kernel_rfl) rfl
theorem sh59 : ShOk Tryd.prog 59 (.st [(0, 3), (1, 3)]) := (by kernel_rfl : (match Tryd.prog.underlying 59 with | some (.struct fields) => some (fields.toList.map fun f => (f.offset, f.type)) | _ => none) = some [(0, 3), (1, 3)])
theorem in59 : InOk Tryd.prog 59 (some ([.int .i64 0, .int .i64 0], 16)) := InOk.mk (zv := .agg #[.int .i64 0, .int .i64 0]) (n := 2) (by kernel_rfl) rfl
theorem sh60 : ShOk Tryd.prog 60 (.st [(0, 3), (1, 3)]) := (by kernel_rfl : (match Tryd.prog.underlying 60 with | some (.struct fields) => some (fields.toList.map fun f => (f.offset, f.type)) | _ => none) = some [(0, 3), (1, 3)])
theorem in60 : InOk Tryd.prog 60 (some ([.int .i64 0, .int .i64 0], 16)) := InOk.mk (zv := .agg #[.int .i64 0, .int .i64 0]) (n := 2) (by kernel_rfl) rfl
theorem sh61 : ShOk Tryd.prog 61 .fn := (by kernel_rfl : (match Tryd.prog.underlying 61 with | some (.func ..) => true | _ => false) = true)
theorem in61 : InOk Tryd.prog 61 (some ([.nilFunc], 8)) := InOk.mk (zv := .nilFunc) (n := 1) (by kernel_rfl) rfl
theorem sh62 : ShOk Tryd.prog 62 .fn := (by kernel_rfl : (match Tryd.prog.underlying 62 with | some (.func ..) => true | _ => false) = true)
theorem in62 : InOk Tryd.prog 62 (some ([.nilFunc], 8)) := InOk.mk (zv := .nilFunc) (n := 1) (by kernel_rfl) rfl
theorem sh63 : ShOk Tryd.prog 63 .fn := (by kernel_rfl : (match Tryd.prog.underlying 63 with | some (.func ..) => true | _ => false) = true)
theorem in63 : InOk Tryd.prog 63 (some ([.nilFunc], 8)) := InOk.mk (zv := .nilFunc) (n := 1) (by kernel_rfl) rfl
theorem sh65 : ShOk Tryd.prog 65 .fn := (by kernel_rfl : (match Tryd.prog.underlying 65 with | some (.func ..) => true | _ => false) = true)
theorem in65 : InOk Tryd.prog 65 (some ([.nilFunc], 8)) := InOk.mk (zv := .nilFunc) (n := 1) (by kernel_rfl) rfl
theorem sh66 : ShOk Tryd.prog 66 .fn := (by kernel_rfl : (match Tryd.prog.underlying 66 with | some (.func ..) => true | _ => false) = true)
theorem in66 : InOk Tryd.prog 66 (some ([.nilFunc], 8)) := InOk.mk (zv := .nilFunc) (n := 1) (by kernel_rfl) rfl
theorem sh67 : ShOk Tryd.prog 67 .fn := (by kernel_rfl : (match Tryd.prog.underlying 67 with | some (.func ..) => true | _ => false) = true)
theorem in67 : InOk Tryd.prog 67 (some ([.nilFunc], 8)) := InOk.mk (zv := .nilFunc) (n := 1) (by kernel_rfl) rfl
theorem sh68 : ShOk Tryd.prog 68 .fn := (by kernel_rfl : (match Tryd.prog.underlying 68 with | some (.func ..) => true | _ => false) = true)
theorem in68 : InOk Tryd.prog 68 (some ([.nilFunc], 8)) := InOk.mk (zv := .nilFunc) (n := 1) (by kernel_rfl) rfl
theorem sh69 : ShOk Tryd.prog 69 .fn := (by kernel_rfl : (match Tryd.prog.underlying 69 with | some (.func ..) => true | _ => false) = true)
theorem in69 : InOk Tryd.prog 69 (some ([.nilFunc], 8)) := InOk.mk (zv := .nilFunc) (n := 1) (by kernel_rfl) rfl
theorem sh71 : ShOk Tryd.prog 71 .fn := (by kernel_rfl : (match Tryd.prog.underlying 71 with | some (.func ..) => true | _ => false) = true)
theorem in71 : InOk Tryd.prog 71 (some ([.nilFunc], 8)) := InOk.mk (zv := .nilFunc) (n := 1) (by kernel_rfl) rfl
theorem sh72 : ShOk Tryd.prog 72 .fn := (by kernel_rfl : (match Tryd.prog.underlying 72 with | some (.func ..) => true | _ => false) = true)
theorem in72 : InOk Tryd.prog 72 (some ([.nilFunc], 8)) := InOk.mk (zv := .nilFunc) (n := 1) (by kernel_rfl) rfl
theorem sh73 : ShOk Tryd.prog 73 .fn := (by kernel_rfl : (match Tryd.prog.underlying 73 with | some (.func ..) => true | _ => false) = true)
theorem in73 : InOk Tryd.prog 73 (some ([.nilFunc], 8)) := InOk.mk (zv := .nilFunc) (n := 1) (by kernel_rfl) rfl
theorem sh74 : ShOk Tryd.prog 74 .fn := (by kernel_rfl : (match Tryd.prog.underlying 74 with | some (.func ..) => true | _ => false) = true)
theorem in74 : InOk Tryd.prog 74 (some ([.nilFunc], 8)) := InOk.mk (zv := .nilFunc) (n := 1) (by kernel_rfl) rfl
theorem sh75 : ShOk Tryd.prog 75 .fn := (by kernel_rfl : (match Tryd.prog.underlying 75 with | some (.func ..) => true | _ => false) = true)
theorem in75 : InOk Tryd.prog 75 (some ([.nilFunc], 8)) := InOk.mk (zv := .nilFunc) (n := 1) (by kernel_rfl) rfl
theorem sh76 : ShOk Tryd.prog 76 .iface := (by kernel_rfl : (match Tryd.prog.underlying 76 with | some (.interface _) => true | _ => false) = true)
theorem in76 : InOk Tryd.prog 76 (some ([.nilIface], 16)) := InOk.mk (zv := .nilIface) (n := 1) (by kernel_rfl) rfl
theorem sh77 : ShOk Tryd.prog 77 .iface := (by kernel_rfl : (match Tryd.prog.underlying 77 with | some (.interface _) => true | _ => false) = true)
theorem in77 : InOk Tryd.prog 77 (some ([.nilIface], 16)) := InOk.mk (zv := .nilIface) (n := 1) (by kernel_rfl) rfl
theorem sh78 : ShOk Tryd.prog 78 .fn := (by kernel_rfl : (match Tryd.prog.underlying 78 with | some (.func ..) => true | _ => false) = true)
theorem in78 : InOk Tryd.prog 78 (some ([.nilFunc], 8)) := InOk.mk (zv := .nilFunc) (n := 1) (by kernel_rfl) rfl
theorem sh79 : ShOk Tryd.prog 79 .fn := (by kernel_rfl : (match Tryd.prog.underlying 79 with | some (.func ..) => true | _ => false) = true)
theorem in79 : InOk Tryd.prog 79 (some ([.nilFunc], 8)) := InOk.mk (zv := .nilFunc) (n := 1) (by kernel_rfl) rfl
theorem sh80 : ShOk Tryd.prog 80 .fn := (by kernel_rfl : (match Tryd.prog.underlying 80 with | some (.func ..) => true | _ => false) = true)
theorem in80 : InOk Tryd.prog 80 (some ([.nilFunc], 8)) := InOk.mk (zv := .nilFunc) (n := 1) (by kernel_rfl) rfl
theorem sh81 : ShOk Tryd.prog 81 .fn := (by kernel_rfl : (match Tryd.prog.underlying 81 with | some (.func ..) => true | _ => false) = true)
theorem in81 : InOk Tryd.prog 81 (some ([.nilFunc], 8)) := InOk.mk (zv := .nilFunc) (n := 1) (by kernel_rfl) rfl
theorem sh82 : ShOk Tryd.prog 82 .fn := (by kernel_rfl : (match Tryd.prog.underlying 82 with | some (.func ..) => true | _ => false) = true)
theorem in82 : InOk Tryd.prog 82 (some ([.nilFunc], 8)) := InOk.mk (zv := .nilFunc) (n := 1) (by kernel_rfl) rfl
theorem sh83 : ShOk Tryd.prog 83 (.int .u64) := (by kernel_rfl : Tryd.prog.underlying 83 = some (.int .u64))
theorem in83 : InOk Tryd.prog 83 (some ([.int .u64 0], 8)) := InOk.mk (zv := .int .u64 0) (n := 1) (by kernel_rfl) rfl
theorem sh84 : ShOk Tryd.prog 84 .fn := (by kernel_rfl : (match Tryd.prog.underlying 84 with | some (.func ..) => true | _ => false) = true)
theorem in84 : InOk Tryd.prog 84 (some ([.nilFunc], 8)) := InOk.mk (zv := .nilFunc) (n := 1) (by kernel_rfl) rfl
theorem sh85 : ShOk Tryd.prog 85 .fn := (by kernel_rfl : (match Tryd.prog.underlying 85 with | some (.func ..) => true | _ => false) = true)
theorem in85 : InOk Tryd.prog 85 (some ([.nilFunc], 8)) := InOk.mk (zv := .nilFunc) (n := 1) (by kernel_rfl) rfl
theorem sh86 : ShOk Tryd.prog 86 (.slice 156) := (by kernel_rfl : Tryd.prog.underlying 86 = some (.slice 156))
theorem in86 : InOk Tryd.prog 86 (some ([.slice none 0 0], 24)) := InOk.mk (zv := .slice none 0 0) (n := 1) (by kernel_rfl) rfl
theorem sh87 : ShOk Tryd.prog 87 .fn := (by kernel_rfl : (match Tryd.prog.underlying 87 with | some (.func ..) => true | _ => false) = true)
theorem in87 : InOk Tryd.prog 87 (some ([.nilFunc], 8)) := InOk.mk (zv := .nilFunc) (n := 1) (by kernel_rfl) rfl
theorem sh88 : ShOk Tryd.prog 88 (.st [(0, 86), (1, 3)]) := (by kernel_rfl : (match Tryd.prog.underlying 88 with | some (.struct fields) => some (fields.toList.map fun f => (f.offset, f.type)) | _ => none) = some [(0, 86), (1, 3)])
theorem in88 : InOk Tryd.prog 88 (some ([.slice none 0 0, .int .i64 0], 32)) := InOk.mk (zv := .agg #[.slice none 0 0, .int .i64 0]) (n := 2) (by kernel_rfl) rfl
theorem sh89 : ShOk Tryd.prog 89 (.st [(0, 86), (1, 3)]) := (by kernel_rfl : (match Tryd.prog.underlying 89 with | some (.struct fields) => some (fields.toList.map fun f => (f.offset, f.type)) | _ => none) = some [(0, 86), (1, 3)])
theorem in89 : InOk Tryd.prog 89 (some ([.slice none 0 0, .int .i64 0], 32)) := InOk.mk (zv := .agg #[.slice none 0 0, .int .i64 0]) (n := 2) (by kernel_rfl) rfl
theorem sh90 : ShOk Tryd.prog 90 (.st [(0, 9), (1, 40)]) := (by kernel_rfl : (match Tryd.prog.underlying 90 with | some (.struct fields) => some (fields.toList.map fun f => (f.offset, f.type)) | _ => none) = some [(0, 9), (1, 40)])
theorem in90 : InOk Tryd.prog 90 (some ([.string ⟨#[]⟩, .slice none 0 0], 40)) := InOk.mk (zv := .agg #[.string ⟨#[]⟩, .slice none 0 0]) (n := 2) (by kernel_rfl) rfl
theorem sh91 : ShOk Tryd.prog 91 (.st [(0, 9), (1, 40)]) := (by kernel_rfl : (match Tryd.prog.underlying 91 with | some (.struct fields) => some (fields.toList.map fun f => (f.offset, f.type)) | _ => none) = some [(0, 9), (1, 40)])
theorem in91 : InOk Tryd.prog 91 (some ([.string ⟨#[]⟩, .slice none 0 0], 40)) := InOk.mk (zv := .agg #[.string ⟨#[]⟩, .slice none 0 0]) (n := 2) (by kernel_rfl) rfl
theorem sh93 : ShOk Tryd.prog 93 .fn := (by kernel_rfl : (match Tryd.prog.underlying 93 with | some (.func ..) => true | _ => false) = true)
theorem in93 : InOk Tryd.prog 93 (some ([.nilFunc], 8)) := InOk.mk (zv := .nilFunc) (n := 1) (by kernel_rfl) rfl
theorem sh95 : ShOk Tryd.prog 95 .fn := (by kernel_rfl : (match Tryd.prog.underlying 95 with | some (.func ..) => true | _ => false) = true)
theorem in95 : InOk Tryd.prog 95 (some ([.nilFunc], 8)) := InOk.mk (zv := .nilFunc) (n := 1) (by kernel_rfl) rfl
theorem sh96 : ShOk Tryd.prog 96 .fn := (by kernel_rfl : (match Tryd.prog.underlying 96 with | some (.func ..) => true | _ => false) = true)
theorem in96 : InOk Tryd.prog 96 (some ([.nilFunc], 8)) := InOk.mk (zv := .nilFunc) (n := 1) (by kernel_rfl) rfl
theorem sh98 : ShOk Tryd.prog 98 .fn := (by kernel_rfl : (match Tryd.prog.underlying 98 with | some (.func ..) => true | _ => false) = true)
theorem in98 : InOk Tryd.prog 98 (some ([.nilFunc], 8)) := InOk.mk (zv := .nilFunc) (n := 1) (by kernel_rfl) rfl
theorem sh99 : ShOk Tryd.prog 99 .fn := (by kernel_rfl : (match Tryd.prog.underlying 99 with | some (.func ..) => true | _ => false) = true)
theorem in99 : InOk Tryd.prog 99 (some ([.nilFunc], 8)) := InOk.mk (zv := .nilFunc) (n := 1) (by kernel_rfl) rfl
theorem sh100 : ShOk Tryd.prog 100 (.slice 9) := (by kernel_rfl : Tryd.prog.underlying 100 = some (.slice 9))
theorem in100 : InOk Tryd.prog 100 (some ([.slice none 0 0], 24)) := InOk.mk (zv := .slice none 0 0) (n := 1) (by kernel_rfl) rfl
theorem sh101 : ShOk Tryd.prog 101 .fn := (by kernel_rfl : (match Tryd.prog.underlying 101 with | some (.func ..) => true | _ => false) = true)
theorem in101 : InOk Tryd.prog 101 (some ([.nilFunc], 8)) := InOk.mk (zv := .nilFunc) (n := 1) (by kernel_rfl) rfl
theorem sh102 : ShOk Tryd.prog 102 .fn := (by kernel_rfl : (match Tryd.prog.underlying 102 with | some (.func ..) => true | _ => false) = true)
theorem in102 : InOk Tryd.prog 102 (some ([.nilFunc], 8)) := InOk.mk (zv := .nilFunc) (n := 1) (by kernel_rfl) rfl
theorem sh103 : ShOk Tryd.prog 103 .fn := (by kernel_rfl : (match Tryd.prog.underlying 103 with | some (.func ..) => true | _ => false) = true)
theorem in103 : InOk Tryd.prog 103 (some ([.nilFunc], 8)) := InOk.mk (zv := .nilFunc) (n := 1) (by kernel_rfl) rfl
theorem sh104 : ShOk Tryd.prog 104 .fn := (by kernel_rfl : (match Tryd.prog.underlying 104 with | some (.func ..) => true | _ => false) = true)
theorem in104 : InOk Tryd.prog 104 (some ([.nilFunc], 8)) := InOk.mk (zv := .nilFunc) (n := 1) (by kernel_rfl) rfl
theorem sh105 : ShOk Tryd.prog 105 .fn := (by kernel_rfl : (match Tryd.prog.underlying 105 with | some (.func ..) => true | _ => false) = true)
theorem in105 : InOk Tryd.prog 105 (some ([.nilFunc], 8)) := InOk.mk (zv := .nilFunc) (n := 1) (by kernel_rfl) rfl
theorem sh106 : ShOk Tryd.prog 106 .fn := (by kernel_rfl : (match Tryd.prog.underlying 106 with | some (.func ..) => true | _ => false) = true)
theorem in106 : InOk Tryd.prog 106 (some ([.nilFunc], 8)) := InOk.mk (zv := .nilFunc) (n := 1) (by kernel_rfl) rfl
theorem sh107 : ShOk Tryd.prog 107 .fn := (by kernel_rfl : (match Tryd.prog.underlying 107 with | some (.func ..) => true | _ => false) = true)
theorem in107 : InOk Tryd.prog 107 (some ([.nilFunc], 8)) := InOk.mk (zv := .nilFunc) (n := 1) (by kernel_rfl) rfl
theorem sh108 : ShOk Tryd.prog 108 .fn := (by kernel_rfl : (match Tryd.prog.underlying 108 with | some (.func ..) => true | _ => false) = true)
theorem in108 : InOk Tryd.prog 108 (some ([.nilFunc], 8)) := InOk.mk (zv := .nilFunc) (n := 1) (by kernel_rfl) rfl
theorem sh109 : ShOk Tryd.prog 109 .fn := (by kernel_rfl : (match Tryd.prog.underlying 109 with | some (.func ..) => true | _ => false) = true)
theorem in109 : InOk Tryd.prog 109 (some ([.nilFunc], 8)) := InOk.mk (zv := .nilFunc) (n := 1) (by kernel_rfl) rfl
theorem sh110 : ShOk Tryd.prog 110 (.int .i64) := (by kernel_rfl : Tryd.prog.underlying 110 = some (.int .i64))
theorem in110 : InOk Tryd.prog 110 (some ([.int .i64 0], 8)) := InOk.mk (zv := .int .i64 0) (n := 1) (by kernel_rfl) rfl
theorem sh112 : ShOk Tryd.prog 112 .fn := (by kernel_rfl : (match Tryd.prog.underlying 112 with | some (.func ..) => true | _ => false) = true)
theorem in112 : InOk Tryd.prog 112 (some ([.nilFunc], 8)) := InOk.mk (zv := .nilFunc) (n := 1) (by kernel_rfl) rfl
theorem sh113 : ShOk Tryd.prog 113 .fn := (by kernel_rfl : (match Tryd.prog.underlying 113 with | some (.func ..) => true | _ => false) = true)
theorem in113 : InOk Tryd.prog 113 (some ([.nilFunc], 8)) := InOk.mk (zv := .nilFunc) (n := 1) (by kernel_rfl) rfl
theorem sh114 : ShOk Tryd.prog 114 .fn := (by kernel_rfl : (match Tryd.prog.underlying 114 with | some (.func ..) => true | _ => false) = true)
theorem in114 : InOk Tryd.prog 114 (some ([.nilFunc], 8)) := InOk.mk (zv := .nilFunc) (n := 1) (by kernel_rfl) rfl
theorem sh115 : ShOk Tryd.prog 115 .fn := (by kernel_rfl : (match Tryd.prog.underlying 115 with | some (.func ..) => true | _ => false) = true)
theorem in115 : InOk Tryd.prog 115 (some ([.nilFunc], 8)) := InOk.mk (zv := .nilFunc) (n := 1) (by kernel_rfl) rfl
theorem sh116 : ShOk Tryd.prog 116 .fn := (by kernel_rfl : (match Tryd.prog.underlying 116 with | some (.func ..) => true | _ => false) = true)
theorem in116 : InOk Tryd.prog 116 (some ([.nilFunc], 8)) := InOk.mk (zv := .nilFunc) (n := 1) (by kernel_rfl) rfl
theorem sh117 : ShOk Tryd.prog 117 (.int .u32) := (by kernel_rfl : Tryd.prog.underlying 117 = some (.int .u32))
theorem in117 : InOk Tryd.prog 117 (some ([.int .u32 0], 4)) := InOk.mk (zv := .int .u32 0) (n := 1) (by kernel_rfl) rfl
theorem sh118 : ShOk Tryd.prog 118 .fn := (by kernel_rfl : (match Tryd.prog.underlying 118 with | some (.func ..) => true | _ => false) = true)
theorem in118 : InOk Tryd.prog 118 (some ([.nilFunc], 8)) := InOk.mk (zv := .nilFunc) (n := 1) (by kernel_rfl) rfl
theorem sh119 : ShOk Tryd.prog 119 (.int .u64) := (by kernel_rfl : Tryd.prog.underlying 119 = some (.int .u64))
theorem in119 : InOk Tryd.prog 119 (some ([.int .u64 0], 8)) := InOk.mk (zv := .int .u64 0) (n := 1) (by kernel_rfl) rfl
theorem sh120 : ShOk Tryd.prog 120 .fn := (by kernel_rfl : (match Tryd.prog.underlying 120 with | some (.func ..) => true | _ => false) = true)
theorem in120 : InOk Tryd.prog 120 (some ([.nilFunc], 8)) := InOk.mk (zv := .nilFunc) (n := 1) (by kernel_rfl) rfl
theorem sh121 : ShOk Tryd.prog 121 (.int .u64) := (by kernel_rfl : Tryd.prog.underlying 121 = some (.int .u64))
theorem in121 : InOk Tryd.prog 121 (some ([.int .u64 0], 8)) := InOk.mk (zv := .int .u64 0) (n := 1) (by kernel_rfl) rfl
theorem sh122 : ShOk Tryd.prog 122 .fn := (by kernel_rfl : (match Tryd.prog.underlying 122 with | some (.func ..) => true | _ => false) = true)
theorem in122 : InOk Tryd.prog 122 (some ([.nilFunc], 8)) := InOk.mk (zv := .nilFunc) (n := 1) (by kernel_rfl) rfl
theorem sh123 : ShOk Tryd.prog 123 .fn := (by kernel_rfl : (match Tryd.prog.underlying 123 with | some (.func ..) => true | _ => false) = true)
theorem in123 : InOk Tryd.prog 123 (some ([.nilFunc], 8)) := InOk.mk (zv := .nilFunc) (n := 1) (by kernel_rfl) rfl
theorem sh124 : ShOk Tryd.prog 124 .fn := (by kernel_rfl : (match Tryd.prog.underlying 124 with | some (.func ..) => true | _ => false) = true)
theorem in124 : InOk Tryd.prog 124 (some ([.nilFunc], 8)) := InOk.mk (zv := .nilFunc) (n := 1) (by kernel_rfl) rfl
theorem sh125 : ShOk Tryd.prog 125 (.ptr 3) := (by kernel_rfl : Tryd.prog.underlying 125 = some (.pointer 3))
theorem in125 : InOk Tryd.prog 125 (some ([.pointer none], 8)) := InOk.mk (zv := .pointer none) (n := 1) (by kernel_rfl) rfl
theorem sh126 : ShOk Tryd.prog 126 .fn := (by kernel_rfl : (match Tryd.prog.underlying 126 with | some (.func ..) => true | _ => false) = true)
theorem in126 : InOk Tryd.prog 126 (some ([.nilFunc], 8)) := InOk.mk (zv := .nilFunc) (n := 1) (by kernel_rfl) rfl
theorem sh127 : ShOk Tryd.prog 127 .fn := (by kernel_rfl : (match Tryd.prog.underlying 127 with | some (.func ..) => true | _ => false) = true)
theorem in127 : InOk Tryd.prog 127 (some ([.nilFunc], 8)) := InOk.mk (zv := .nilFunc) (n := 1) (by kernel_rfl) rfl
theorem sh128 : ShOk Tryd.prog 128 .fn := (by kernel_rfl : (match Tryd.prog.underlying 128 with | some (.func ..) => true | _ => false) = true)
theorem in128 : InOk Tryd.prog 128 (some ([.nilFunc], 8)) := InOk.mk (zv := .nilFunc) (n := 1) (by kernel_rfl) rfl
theorem sh129 : ShOk Tryd.prog 129 .fn := (by kernel_rfl : (match Tryd.prog.underlying 129 with | some (.func ..) => true | _ => false) = true)
theorem in129 : InOk Tryd.prog 129 (some ([.nilFunc], 8)) := InOk.mk (zv := .nilFunc) (n := 1) (by kernel_rfl) rfl
theorem sh131 : ShOk Tryd.prog 131 .fn := (by kernel_rfl : (match Tryd.prog.underlying 131 with | some (.func ..) => true | _ => false) = true)
theorem in131 : InOk Tryd.prog 131 (some ([.nilFunc], 8)) := InOk.mk (zv := .nilFunc) (n := 1) (by kernel_rfl) rfl
theorem sh132 : ShOk Tryd.prog 132 (.ptr 121) := (by kernel_rfl : Tryd.prog.underlying 132 = some (.pointer 121))
theorem in132 : InOk Tryd.prog 132 (some ([.pointer none], 8)) := InOk.mk (zv := .pointer none) (n := 1) (by kernel_rfl) rfl
theorem sh134 : ShOk Tryd.prog 134 .fn := (by kernel_rfl : (match Tryd.prog.underlying 134 with | some (.func ..) => true | _ => false) = true)
theorem in134 : InOk Tryd.prog 134 (some ([.nilFunc], 8)) := InOk.mk (zv := .nilFunc) (n := 1) (by kernel_rfl) rfl
theorem sh136 : ShOk Tryd.prog 136 .fn := (by kernel_rfl : (match Tryd.prog.underlying 136 with | some (.func ..) => true | _ => false) = true)
theorem in136 : InOk Tryd.prog 136 (some ([.nilFunc], 8)) := InOk.mk (zv := .nilFunc) (n := 1) (by kernel_rfl) rfl
theorem sh137 : ShOk Tryd.prog 137 (.arr 256 5) := (by kernel_rfl : Tryd.prog.underlying 137 = some (.array 256 5))
theorem in137 : InOk Tryd.prog 137 (some ([.int .u8 0, .int .u8 0, .int .u8 0, .int .u8 0, .int .u8 0, .int .u8 0, .int .u8 0, .int .u8 0, .int .u8 0, .int .u8 0, .int .u8 0, .int .u8 0, .int .u8 0, .int .u8 0, .int .u8 0, .int .u8 0, .int .u8 0, .int .u8 0, .int .u8 0, .int .u8 0, .int .u8 0, .int .u8 0, .int .u8 0, .int .u8 0, .int .u8 0, .int .u8 0, .int .u8 0, .int .u8 0, .int .u8 0, .int .u8 0, .int .u8 0, .int .u8 0, .int .u8 0, .int .u8 0, .int .u8 0, .int .u8 0, .int .u8 0, .int .u8 0, .int .u8 0, .int .u8 0, .int .u8 0, .int .u8 0, .int .u8 0, .int .u8 0, .int .u8 0, .int .u8 0, .int .u8 0, .int .u8 0, .int .u8 0, .int .u8 0, .int .u8 0, .int .u8 0, .int .u8 0, .int .u8 0, .int .u8 0, .int .u8 0, .int .u8 0, .int .u8 0, .int .u8 0, .int .u8 0, .int .u8 0, .int .u8 0, .int .u8 0, .int .u8 0, .int .u8 0, .int .u8 0, .int .u8 0, .int .u8 0, .int .u8 0, .int .u8 0, .int .u8 0, .int .u8 0, .int .u8 0, .int .u8 0, .int .u8 0, .int .u8 0, .int .u8 0, .int .u8 0, .int .u8 0, .int .u8 0, .int .u8 0, .int .u8 0, .int .u8 0, .int .u8 0, .int .u8 0, .int .u8 0, .int .u8 0, .int .u8 0, .int .u8 0, .int .u8 0, .int .u8 0, .int .u8 0, .int .u8 0, .int .u8 0, .int .u8 0, .int .u8 0, .int .u8 0, .int .u8 0, .int .u8 0, .int .u8 0, .int .u8 0, .int .u8 0, .int .u8 0, .int .u8 0, .int .u8 0, .int .u8 0, .int .u8 0, .int .u8 0, .int .u8 0, .int .u8 0, .int .u8 0, .int .u8 0, .int .u8 0, .int .u8 0, .int .u8 0, .int .u8 0, .int .u8 0, .int .u8 0, .int .u8 0, .int .u8 0, .int .u8 0, .int .u8 0, .int .u8 0, .int .u8 0, .int .u8 0, .int .u8 0, .int .u8 0, .int .u8 0, .int .u8 0, .int .u8 0, .int .u8 0, .int .u8 0, .int .u8 0, .int .u8 0, .int .u8 0, .int .u8 0, .int .u8 0, .int .u8 0, .int .u8 0, .int .u8 0, .int .u8 0, .int .u8 0, .int .u8 0, .int .u8 0, .int .u8 0, .int .u8 0, .int .u8 0, .int .u8 0, .int .u8 0, .int .u8 0, .int .u8 0, .int .u8 0, .int .u8 0, .int .u8 0, .int .u8 0, .int .u8 0, .int .u8 0, .int .u8 0, .int .u8 0, .int .u8 0, .int .u8 0, .int .u8 0, .int .u8 0, .int .u8 0, .int .u8 0, .int .u8 0, .int .u8 0, .int .u8 0, .int .u8 0, .int .u8 0, .int .u8 0, .int .u8 0, .int .u8 0, .int .u8 0, .int .u8 0, .int .u8 0, .int .u8 0, .int .u8 0, .int .u8 0, .int .u8 0, .int .u8 0, .int .u8 0, .int .u8 0, .int .u8 0, .int .u8 0, .int .u8 0, .int .u8 0, .int .u8 0, .int .u8 0, .int .u8 0, .int .u8 0, .int .u8 0, .int .u8 0, .int .u8 0, .int .u8 0, .int .u8 0, .int .u8 0, .int .u8 0, .int .u8 0, .int .u8 0, .int .u8 0, .int .u8 0, .int .u8 0, .int .u8 0, .int .u8 0, .int .u8 0, .int .u8 0, .int .u8 0, .int .u8 0, .int .u8 0, .int .u8 0, .int .u8 0, .int .u8 0, .int .u8 0, .int .u8 0, .int .u8 0, .int .u8 0, .int .u8 0, .int .u8 0, .int .u8 0, .int .u8 0, .int .u8 0, .int .u8 0, .int .u8 0, .int .u8 0, .int .u8 0, .int .u8 0, .int .u8 0, .int .u8 0, .int .u8 0, .int .u8 0, .int .u8 0, .int .u8 0, .int .u8 0, .int .u8 0, .int .u8 0, .int .u8 0, .int .u8 0, .int .u8 0, .int .u8 0, .int .u8 0, .int .u8 0, .int .u8 0, .int .u8 0, .int .u8 0, .int .u8 0, .int .u8 0, .int .u8 0, .int .u8 0, .int .u8 0, .int .u8 0, .int .u8 0, .int .u8 0, .int .u8 0, .int .u8 0, .int .u8 0], 256)) := InOk.mk (zv := .agg #[.int .u8 0, .int .u8 0, .int .u8 0, .int .u8 0, .int .u8 0, .int .u8 0, .int .u8 0, .int .u8 0, .int .u8 0, .int .u8 0, .int .u8 0, .int .u8 0, .int .u8 0, .int .u8 0, .int .u8 0, .int .u8 0, .int .u8 0, .int .u8 0, .int .u8 0, .int .u8 0, .int .u8 0, .int .u8 0, .int .u8 0, .int .u8 0, .int .u8 0, .int .u8 0, .int .u8 0, .int .u8 0, .int .u8 0, .int .u8 0, .int .u8 0, .int .u8 0, .int .u8 0, .int .u8 0, .int .u8 0, .int .u8 0, .int .u8 0, .int .u8 0, .int .u8 0, .int .u8 0, .int .u8 0, .int .u8 0, .int .u8 0, .int .u8 0, .int .u8 0, .int .u8 0, .int .u8 0, .int .u8 0, .int .u8 0, .int .u8 0, .int .u8 0, .int .u8 0, .int .u8 0, .int .u8 0, .int .u8 0, .int .u8 0, .int .u8 0, .int .u8 0, .int .u8 0, .int .u8 0, .int .u8 0, .int .u8 0, .int .u8 0, .int .u8 0, .int .u8 0, .int .u8 0, .int .u8 0, .int .u8 0, .int .u8 0, .int .u8 0, .int .u8 0, .int .u8 0, .int .u8 0, .int .u8 0, .int .u8 0, .int .u8 0, .int .u8 0, .int .u8 0, .int .u8 0, .int .u8 0, .int .u8 0, .int .u8 0, .int .u8 0, .int .u8 0, .int .u8 0, .int .u8 0, .int .u8 0, .int .u8 0, .int .u8 0, .int .u8 0, .int .u8 0, .int .u8 0, .int .u8 0, .int .u8 0, .int .u8 0, .int .u8 0, .int .u8 0, .int .u8 0, .int .u8 0, .int .u8 0, .int .u8 0, .int .u8 0, .int .u8 0, .int .u8 0, .int .u8 0, .int .u8 0, .int .u8 0, .int .u8 0, .int .u8 0, .int .u8 0, .int .u8 0, .int .u8 0, .int .u8 0, .int .u8 0, .int .u8 0, .int .u8 0, .int .u8 0, .int .u8 0, .int .u8 0, .int .u8 0, .int .u8 0, .int .u8 0, .int .u8 0, .int .u8 0, .int .u8 0, .int .u8 0, .int .u8 0, .int .u8 0, .int .u8 0, .int .u8 0, .int .u8 0, .int .u8 0, .int .u8 0, .int .u8 0, .int .u8 0, .int .u8 0, .int .u8 0, .int .u8 0, .int .u8 0, .int .u8 0, .int .u8 0, .int .u8 0, .int .u8 0, .int .u8 0, .int .u8 0, .int .u8 0, .int .u8 0, .int .u8 0, .int .u8 0, .int .u8 0, .int .u8 0, .int .u8 0, .int .u8 0, .int .u8 0, .int .u8 0, .int .u8 0, .int .u8 0, .int .u8 0, .int .u8 0, .int .u8 0, .int .u8 0, .int .u8 0, .int .u8 0, .int .u8 0, .int .u8 0, .int .u8 0, .int .u8 0, .int .u8 0, .int .u8 0, .int .u8 0, .int .u8 0, .int .u8 0, .int .u8 0, .int .u8 0, .int .u8 0, .int .u8 0, .int .u8 0, .int .u8 0, .int .u8 0, .int .u8 0, .int .u8 0, .int .u8 0, .int .u8 0, .int .u8 0, .int .u8 0, .int .u8 0, .int .u8 0, .int .u8 0, .int .u8 0, .int .u8 0, .int .u8 0, .int .u8 0, .int .u8 0, .int .u8 0, .int .u8 0, .int .u8 0, .int .u8 0, .int .u8 0, .int .u8 0, .int .u8 0, .int .u8 0, .int .u8 0, .int .u8 0, .int .u8 0, .int .u8 0, .int .u8 0, .int .u8 0, .int .u8 0, .int .u8 0, .int .u8 0, .int .u8 0, .int .u8 0, .int .u8 0, .int .u8 0, .int .u8 0, .int .u8 0, .int .u8 0, .int .u8 0, .int .u8 0, .int .u8 0, .int .u8 0, .int .u8 0, .int .u8 0, .int .u8 0, .int .u8 0, .int .u8 0, .int .u8 0, .int .u8 0, .int .u8 0, .int .u8 0, .int .u8 0, .int .u8 0, .int .u8 0, .int .u8 0, .int .u8 0, .int .u8 0, .int .u8 0, .int .u8 0, .int .u8 0, .int .u8 0, .int .u8 0, .int .u8 0, .int .u8 0, .int .u8 0, .int .u8 0, .int .u8 0, .int .u8 0, .int .u8 0, .int .u8 0, .int .u8 0, .int .u8 0, .int .u8 0, .int .u8 0, .int .u8 0, .int .u8 0, .int .u8 0]) (n := 256) (by kernel_rfl) rfl
theorem sh138 : ShOk Tryd.prog 138 (.st [(0, 5), (1, 5)]) := (by kernel_rfl : (match Tryd.prog.underlying 138 with | some (.struct fields) => some (fields.toList.map fun f => (f.offset, f.type)) | _ => none) = some [(0, 5), (1, 5)])
theorem in138 : InOk Tryd.prog 138 (some ([.int .u8 0, .int .u8 0], 2)) := InOk.mk (zv := .agg #[.int .u8 0, .int .u8 0]) (n := 2) (by kernel_rfl) rfl
theorem sh139 : ShOk Tryd.prog 139 (.st [(0, 5), (1, 5)]) := (by kernel_rfl : (match Tryd.prog.underlying 139 with | some (.struct fields) => some (fields.toList.map fun f => (f.offset, f.type)) | _ => none) = some [(0, 5), (1, 5)])
theorem in139 : InOk Tryd.prog 139 (some ([.int .u8 0, .int .u8 0], 2)) := InOk.mk (zv := .agg #[.int .u8 0, .int .u8 0]) (n := 2) (by kernel_rfl) rfl
theorem sh140 : ShOk Tryd.prog 140 (.arr 16 139) := (by kernel_rfl : Tryd.prog.underlying 140 = some (.array 16 139))
theorem in140 : InOk Tryd.prog 140 (some ([.int .u8 0, .int .u8 0, .int .u8 0, .int .u8 0, .int .u8 0, .int .u8 0, .int .u8 0, .int .u8 0, .int .u8 0, .int .u8 0, .int .u8 0, .int .u8 0, .int .u8 0, .int .u8 0, .int .u8 0, .int .u8 0, .int .u8 0, .int .u8 0, .int .u8 0, .int .u8 0, .int .u8 0, .int .u8 0, .int .u8 0, .int .u8 0, .int .u8 0, .int .u8 0, .int .u8 0, .int .u8 0, .int .u8 0, .int .u8 0, .int .u8 0, .int .u8 0], 32)) := InOk.mk (zv := .agg #[.int .u8 0, .int .u8 0, .int .u8 0, .int .u8 0, .int .u8 0, .int .u8 0, .int .u8 0, .int .u8 0, .int .u8 0, .int .u8 0, .int .u8 0, .int .u8 0, .int .u8 0, .int .u8 0, .int .u8 0, .int .u8 0, .int .u8 0, .int .u8 0, .int .u8 0, .int .u8 0, .int .u8 0, .int .u8 0, .int .u8 0, .int .u8 0, .int .u8 0, .int .u8 0, .int .u8 0, .int .u8 0, .int .u8 0, .int .u8 0, .int .u8 0, .int .u8 0]) (n := 32) (by kernel_rfl) rfl
theorem sh141 : ShOk Tryd.prog 141 .fn := (by kernel_rfl : (match Tryd.prog.underlying 141 with | some (.func ..) => true | _ => false) = true)
theorem in141 : InOk Tryd.prog 141 (some ([.nilFunc], 8)) := InOk.mk (zv := .nilFunc) (n := 1) (by kernel_rfl) rfl
theorem sh142 : ShOk Tryd.prog 142 (.st [(0, 17), (1, 17), (2, 17), (3, 9)]) := (by kernel_rfl : (match Tryd.prog.underlying 142 with | some (.struct fields) => some (fields.toList.map fun f => (f.offset, f.type)) | _ => none) = some [(0, 17), (1, 17), (2, 17), (3, 9)])
theorem in142 : InOk Tryd.prog 142 (some ([.pointer none, .pointer none, .pointer none, .string ⟨#[]⟩], 40)) := InOk.mk (zv := .agg #[.pointer none, .pointer none, .pointer none, .string ⟨#[]⟩]) (n := 4) (by kernel_rfl) rfl
theorem sh143 : ShOk Tryd.prog 143 (.st [(0, 17), (1, 17), (2, 17), (3, 9)]) := (by kernel_rfl : (match Tryd.prog.underlying 143 with | some (.struct fields) => some (fields.toList.map fun f => (f.offset, f.type)) | _ => none) = some [(0, 17), (1, 17), (2, 17), (3, 9)])
theorem in143 : InOk Tryd.prog 143 (some ([.pointer none, .pointer none, .pointer none, .string ⟨#[]⟩], 40)) := InOk.mk (zv := .agg #[.pointer none, .pointer none, .pointer none, .string ⟨#[]⟩]) (n := 4) (by kernel_rfl) rfl
theorem sh144 : ShOk Tryd.prog 144 (.arr 0 16) := (by kernel_rfl : Tryd.prog.underlying 144 = some (.array 0 16))
theorem in144 : InOk Tryd.prog 144 (some ([], 0)) := InOk.mk (zv := .agg #[]) (n := 0) (by kernel_rfl) rfl
theorem sh145 : ShOk Tryd.prog 145 (.st [(0, 144)]) := (by kernel_rfl : (match Tryd.prog.underlying 145 with | some (.struct fields) => some (fields.toList.map fun f => (f.offset, f.type)) | _ => none) = some [(0, 144)])
theorem in145 : InOk Tryd.prog 145 (some ([], 0)) := InOk.mk (zv := .agg #[]) (n := 0) (by kernel_rfl) rfl
theorem sh146 : ShOk Tryd.prog 146 (.st [(0, 144)]) := (by kernel_rfl : (match Tryd.prog.underlying 146 with | some (.struct fields) => some (fields.toList.map fun f => (f.offset, f.type)) | _ => none) = some [(0, 144)])
theorem in146 : InOk Tryd.prog 146 (some ([], 0)) := InOk.mk (zv := .agg #[]) (n := 0) (by kernel_rfl) rfl
theorem sh147 : ShOk Tryd.prog 147 (.int .u8) := (by kernel_rfl : Tryd.prog.underlying 147 = some (.int .u8))
theorem in147 : InOk Tryd.prog 147 (some ([.int .u8 0], 1)) := InOk.mk (zv := .int .u8 0) (n := 1) (by kernel_rfl) rfl
theorem sh148 : ShOk Tryd.prog 148 (.int .u8) := (by kernel_rfl : Tryd.prog.underlying 148 = some (.int .u8))
theorem in148 : InOk Tryd.prog 148 (some ([.int .u8 0], 1)) := InOk.mk (zv := .int .u8 0) (n := 1) (by kernel_rfl) rfl
theorem sh149 : ShOk Tryd.prog 149 .fn := (by kernel_rfl : (match Tryd.prog.underlying 149 with | some (.func ..) => true | _ => false) = true)
theorem in149 : InOk Tryd.prog 149 (some ([.nilFunc], 8)) := InOk.mk (zv := .nilFunc) (n := 1) (by kernel_rfl) rfl
theorem sh150 : ShOk Tryd.prog 150 (.ptr 5) := (by kernel_rfl : Tryd.prog.underlying 150 = some (.pointer 5))
theorem in150 : InOk Tryd.prog 150 (some ([.pointer none], 8)) := InOk.mk (zv := .pointer none) (n := 1) (by kernel_rfl) rfl
theorem sh151 : ShOk Tryd.prog 151 (.int .i32) := (by kernel_rfl : Tryd.prog.underlying 151 = some (.int .i32))
theorem in151 : InOk Tryd.prog 151 (some ([.int .i32 0], 4)) := InOk.mk (zv := .int .i32 0) (n := 1) (by kernel_rfl) rfl
theorem sh152 : ShOk Tryd.prog 152 (.int .i32) := (by kernel_rfl : Tryd.prog.underlying 152 = some (.int .i32))
theorem in152 : InOk Tryd.prog 152 (some ([.int .i32 0], 4)) := InOk.mk (zv := .int .i32 0) (n := 1) (by kernel_rfl) rfl
theorem sh153 : ShOk Tryd.prog 153 (.st [(0, 12), (1, 12), (2, 117), (3, 147), (4, 5), (5, 5), (6, 148), (7, 149), (8, 150), (9, 151), (10, 152)]) := (by kernel_rfl : (match Tryd.prog.underlying 153 with | some (.struct fields) => some (fields.toList.map fun f => (f.offset, f.type)) | _ => none) = some [(0, 12), (1, 12), (2, 117), (3, 147), (4, 5), (5, 5), (6, 148), (7, 149), (8, 150), (9, 151), (10, 152)])
theorem in153 : InOk Tryd.prog 153 (some ([.int .u64 0, .int .u64 0, .int .u32 0, .int .u8 0, .int .u8 0, .int .u8 0, .int .u8 0, .nilFunc, .pointer none, .int .i32 0, .int .i32 0], 48)) := InOk.mk (zv := .agg #[.int .u64 0, .int .u64 0, .int .u32 0, .int .u8 0, .int .u8 0, .int .u8 0, .int .u8 0, .nilFunc, .pointer none, .int .i32 0, .int .i32 0]) (n := 11) (by kernel_rfl) rfl
theorem sh154 : ShOk Tryd.prog 154 (.st [(0, 12), (1, 12), (2, 117), (3, 147), (4, 5), (5, 5), (6, 148), (7, 149), (8, 150), (9, 151), (10, 152)]) := (by kernel_rfl : (match Tryd.prog.underlying 154 with | some (.struct fields) => some (fields.toList.map fun f => (f.offset, f.type)) | _ => none) = some [(0, 12), (1, 12), (2, 117), (3, 147), (4, 5), (5, 5), (6, 148), (7, 149), (8, 150), (9, 151), (10, 152)])
theorem in154 : InOk Tryd.prog 154 (some ([.int .u64 0, .int .u64 0, .int .u32 0, .int .u8 0, .int .u8 0, .int .u8 0, .int .u8 0, .nilFunc, .pointer none, .int .i32 0, .int .i32 0], 48)) := InOk.mk (zv := .agg #[.int .u64 0, .int .u64 0, .int .u32 0, .int .u8 0, .int .u8 0, .int .u8 0, .int .u8 0, .nilFunc, .pointer none, .int .i32 0, .int .i32 0]) (n := 11) (by kernel_rfl) rfl
theorem sh155 : ShOk Tryd.prog 155 (.st [(0, 3), (1, 9)]) := (by kernel_rfl : (match Tryd.prog.underlying 155 with | some (.struct fields) => some (fields.toList.map fun f => (f.offset, f.type)) | _ => none) = some [(0, 3), (1, 9)])
theorem in155 : InOk Tryd.prog 155 (some ([.int .i64 0, .string ⟨#[]⟩], 24)) := InOk.mk (zv := .agg #[.int .i64 0, .string ⟨#[]⟩]) (n := 2) (by kernel_rfl) rfl
theorem sh156 : ShOk Tryd.prog 156 (.st [(0, 3), (1, 9)]) := (by kernel_rfl : (match Tryd.prog.underlying 156 with | some (.struct fields) => some (fields.toList.map fun f => (f.offset, f.type)) | _ => none) = some [(0, 3), (1, 9)])
theorem in156 : InOk Tryd.prog 156 (some ([.int .i64 0, .string ⟨#[]⟩], 24)) := InOk.mk (zv := .agg #[.int .i64 0, .string ⟨#[]⟩]) (n := 2) (by kernel_rfl) rfl
def shL : List Sh := [.other, .fn, (.int .i64), (.int .i64), .bool, (.int .u8), (.int .u8), (.st [(0, 2), (1, 3), (2, 4), (3, 6)]), (.st [(0, 2), (1, 3), (2, 4), (3, 6)]), .str, .str, .str, (.int .u64), (.st [(0, 9), (1, 12)]), (.st [(0, 9), (1, 12)]), (.ptr 143), (.ptr 146), (.ptr 154), (.st [(0, 17)]), (.st [(0, 17)]), .iface, (.int .i32), (.slice 23), (.slice 3), (.int .i64), .other, .fn, .fn, .fn, .fn, .fn, .fn, .fn, .fn, (.slice 4), .fn, .fn, .fn, (.slice 46), .fn, (.slice 51), (.slice 53), (.slice 89), (.st [(0, 24), (1, 9), (2, 3), (3, 3)]), (.st [(0, 24), (1, 9), (2, 3), (3, 3)]), (.st [(0, 9), (1, 3), (2, 40), (3, 40), (4, 9), (5, 41), (6, 3), (7, 3), (8, 4), (9, 3), (10, 42), (11, 4), (12, 44)]), (.st [(0, 9), (1, 3), (2, 40), (3, 40), (4, 9), (5, 41), (6, 3), (7, 3), (8, 4), (9, 3), (10, 42), (11, 4), (12, 44)]), .other, .fn, .fn, (.st [(0, 9), (1, 9)]), (.st [(0, 9), (1, 9)]), (.st [(0, 9), (1, 44)]), (.st [(0, 9), (1, 44)]), .fn, (.ptr 57), (.slice 60), (.slice 60), .fn, (.st [(0, 3), (1, 3)]), (.st [(0, 3), (1, 3)]), .fn, .fn, .fn, .other, .fn, .fn, .fn, .fn, .fn, .other, .fn, .fn, .fn, .fn, .fn, .iface, .iface, .fn, .fn, .fn, .fn, .fn, (.int .u64), .fn, .fn, (.slice 156), .fn, (.st [(0, 86), (1, 3)]), (.st [(0, 86), (1, 3)]), (.st [(0, 9), (1, 40)]), (.st [(0, 9), (1, 40)]), .other, .fn, .other, .fn, .fn, .other, .fn, .fn, (.slice 9), .fn, .fn, .fn, .fn, .fn, .fn, .fn, .fn, .fn, (.int .i64), .other, .fn, .fn, .fn, .fn, .fn, (.int .u32), .fn, (.int .u64), .fn, (.int .u64), .fn, .fn, .fn, (.ptr 3), .fn, .fn, .fn, .fn, .other, .fn, (.ptr 121), .other, .fn, .other, .fn, (.arr 256 5), (.st [(0, 5), (1, 5)]), (.st [(0, 5), (1, 5)]), (.arr 16 139), .fn, (.st [(0, 17), (1, 17), (2, 17), (3, 9)]), (.st [(0, 17), (1, 17), (2, 17), (3, 9)]), (.arr 0 16), (.st [(0, 144)]), (.st [(0, 144)]), (.int .u8), (.int .u8), .fn, (.ptr 5), (.int .i32), (.int .i32), (.st [(0, 12), (1, 12), (2, 117), (3, 147), (4, 5), (5, 5), (6, 148), (7, 149), (8, 150), (9, 151), (10, 152)]), (.st [(0, 12), (1, 12), (2, 117), (3, 147), (4, 5), (5, 5), (6, 148), (7, 149), (8, 150), (9, 151), (10, 152)]), (.st [(0, 3), (1, 9)]), (.st [(0, 3), (1, 9)]), .other]
def inL : List (Option (List Value × Nat)) := [none, some ([.nilFunc], 8), some ([.int .i64 0], 8), some ([.int .i64 0], 8), some ([.bool false], 1), some ([.int .u8 0], 1), some ([.int .u8 0], 1), some ([.int .i64 0, .int .i64 0, .bool false, .int .u8 0], 24), some ([.int .i64 0, .int .i64 0, .bool false, .int .u8 0], 24), some ([.string ⟨#[]⟩], 16), some ([.string ⟨#[]⟩], 16), some ([.string ⟨#[]⟩], 16), some ([.int .u64 0], 8), some ([.string ⟨#[]⟩, .int .u64 0], 24), some ([.string ⟨#[]⟩, .int .u64 0], 24), some ([.pointer none], 8), some ([.pointer none], 8), some ([.pointer none], 8), some ([.pointer none], 8), some ([.pointer none], 8), some ([.nilIface], 16), some ([.int .i32 0], 4), some ([.slice none 0 0], 24), some ([.slice none 0 0], 24), some ([.int .i64 0], 8), none, some ([.nilFunc], 8), some ([.nilFunc], 8), some ([.nilFunc], 8), some ([.nilFunc], 8), some ([.nilFunc], 8), some ([.nilFunc], 8), some ([.nilFunc], 8), some ([.nilFunc], 8), some ([.slice none 0 0], 24), some ([.nilFunc], 8), some ([.nilFunc], 8), some ([.nilFunc], 8), some ([.slice none 0 0], 24), some ([.nilFunc], 8), some ([.slice none 0 0], 24), some ([.slice none 0 0], 24), some ([.slice none 0 0], 24), some ([.int .i64 0, .string ⟨#[]⟩, .int .i64 0, .int .i64 0], 40), some ([.int .i64 0, .string ⟨#[]⟩, .int .i64 0, .int .i64 0], 40), some ([.string ⟨#[]⟩, .int .i64 0, .slice none 0 0, .slice none 0 0, .string ⟨#[]⟩, .slice none 0 0, .int .i64 0, .int .i64 0, .bool false, .int .i64 0, .slice none 0 0, .bool false, .int .i64 0, .string ⟨#[]⟩, .int .i64 0, .int .i64 0], 216), some ([.string ⟨#[]⟩, .int .i64 0, .slice none 0 0, .slice none 0 0, .string ⟨#[]⟩, .slice none 0 0, .int .i64 0, .int .i64 0, .bool false, .int .i64 0, .slice none 0 0, .bool false, .int .i64 0, .string ⟨#[]⟩, .int .i64 0, .int .i64 0], 216), none, some ([.nilFunc], 8), some ([.nilFunc], 8), some ([.string ⟨#[]⟩, .string ⟨#[]⟩], 32), some ([.string ⟨#[]⟩, .string ⟨#[]⟩], 32), some ([.string ⟨#[]⟩, .int .i64 0, .string ⟨#[]⟩, .int .i64 0, .int .i64 0], 56), some ([.string ⟨#[]⟩, .int .i64 0, .string ⟨#[]⟩, .int .i64 0, .int .i64 0], 56), some ([.nilFunc], 8), some ([.pointer none], 8), some ([.slice none 0 0], 24), some ([.slice none 0 0], 24), some ([.nilFunc], 8), some ([.int .i64 0, .int .i64 0], 16), some ([.int .i64 0, .int .i64 0], 16), some ([.nilFunc], 8), some ([.nilFunc], 8), some ([.nilFunc], 8), none, some ([.nilFunc], 8), some ([.nilFunc], 8), some ([.nilFunc], 8), some ([.nilFunc], 8), some ([.nilFunc], 8), none, some ([.nilFunc], 8), some ([.nilFunc], 8), some ([.nilFunc], 8), some ([.nilFunc], 8), some ([.nilFunc], 8), some ([.nilIface], 16), some ([.nilIface], 16), some ([.nilFunc], 8), some ([.nilFunc], 8), some ([.nilFunc], 8), some ([.nilFunc], 8), some ([.nilFunc], 8), some ([.int .u64 0], 8), some ([.nilFunc], 8), some ([.nilFunc], 8), some ([.slice none 0 0], 24), some ([.nilFunc], 8), some ([.slice none 0 0, .int .i64 0], 32), some ([.slice none 0 0, .int .i64 0], 32), some ([.string ⟨#[]⟩, .slice none 0 0], 40), some ([.string ⟨#[]⟩, .slice none 0 0], 40), none, some ([.nilFunc], 8), none, some ([.nilFunc], 8), some ([.nilFunc], 8), none, some ([.nilFunc], 8), some ([.nilFunc], 8), some ([.slice none 0 0], 24), some ([.nilFunc], 8), some ([.nilFunc], 8), some ([.nilFunc], 8), some ([.nilFunc], 8), some ([.nilFunc], 8), some ([.nilFunc], 8), some ([.nilFunc], 8), some ([.nilFunc], 8), some ([.nilFunc], 8), some ([.int .i64 0], 8), none, some ([.nilFunc], 8), some ([.nilFunc], 8), some ([.nilFunc], 8), some ([.nilFunc], 8), some ([.nilFunc], 8), some ([.int .u32 0], 4), some ([.nilFunc], 8), some ([.int .u64 0], 8), some ([.nilFunc], 8), some ([.int .u64 0], 8), some ([.nilFunc], 8), some ([.nilFunc], 8), some ([.nilFunc], 8), some ([.pointer none], 8), some ([.nilFunc], 8), some ([.nilFunc], 8), some ([.nilFunc], 8), some ([.nilFunc], 8), none, some ([.nilFunc], 8), some ([.pointer none], 8), none, some ([.nilFunc], 8), none, some ([.nilFunc], 8), some ([.int .u8 0, .int .u8 0, .int .u8 0, .int .u8 0, .int .u8 0, .int .u8 0, .int .u8 0, .int .u8 0, .int .u8 0, .int .u8 0, .int .u8 0, .int .u8 0, .int .u8 0, .int .u8 0, .int .u8 0, .int .u8 0, .int .u8 0, .int .u8 0, .int .u8 0, .int .u8 0, .int .u8 0, .int .u8 0, .int .u8 0, .int .u8 0, .int .u8 0, .int .u8 0, .int .u8 0, .int .u8 0, .int .u8 0, .int .u8 0, .int .u8 0, .int .u8 0, .int .u8 0, .int .u8 0, .int .u8 0, .int .u8 0, .int .u8 0, .int .u8 0, .int .u8 0, .int .u8 0, .int .u8 0, .int .u8 0, .int .u8 0, .int .u8 0, .int .u8 0, .int .u8 0, .int .u8 0, .int .u8 0, .int .u8 0, .int .u8 0, .int .u8 0, .int .u8 0, .int .u8 0, .int .u8 0, .int .u8 0, .int .u8 0, .int .u8 0, .int .u8 0, .int .u8 0, .int .u8 0, .int .u8 0, .int .u8 0, .int .u8 0, .int .u8 0, .int .u8 0, .int .u8 0, .int .u8 0, .int .u8 0, .int .u8 0, .int .u8 0, .int .u8 0, .int .u8 0, .int .u8 0, .int .u8 0, .int .u8 0, .int .u8 0, .int .u8 0, .int .u8 0, .int .u8 0, .int .u8 0, .int .u8 0, .int .u8 0, .int .u8 0, .int .u8 0, .int .u8 0, .int .u8 0, .int .u8 0, .int .u8 0, .int .u8 0, .int .u8 0, .int .u8 0, .int .u8 0, .int .u8 0, .int .u8 0, .int .u8 0, .int .u8 0, .int .u8 0, .int .u8 0, .int .u8 0, .int .u8 0, .int .u8 0, .int .u8 0, .int .u8 0, .int .u8 0, .int .u8 0, .int .u8 0, .int .u8 0, .int .u8 0, .int .u8 0, .int .u8 0, .int .u8 0, .int .u8 0, .int .u8 0, .int .u8 0, .int .u8 0, .int .u8 0, .int .u8 0, .int .u8 0, .int .u8 0, .int .u8 0, .int .u8 0, .int .u8 0, .int .u8 0, .int .u8 0, .int .u8 0, .int .u8 0, .int .u8 0, .int .u8 0, .int .u8 0, .int .u8 0, .int .u8 0, .int .u8 0, .int .u8 0, .int .u8 0, .int .u8 0, .int .u8 0, .int .u8 0, .int .u8 0, .int .u8 0, .int .u8 0, .int .u8 0, .int .u8 0, .int .u8 0, .int .u8 0, .int .u8 0, .int .u8 0, .int .u8 0, .int .u8 0, .int .u8 0, .int .u8 0, .int .u8 0, .int .u8 0, .int .u8 0, .int .u8 0, .int .u8 0, .int .u8 0, .int .u8 0, .int .u8 0, .int .u8 0, .int .u8 0, .int .u8 0, .int .u8 0, .int .u8 0, .int .u8 0, .int .u8 0, .int .u8 0, .int .u8 0, .int .u8 0, .int .u8 0, .int .u8 0, .int .u8 0, .int .u8 0, .int .u8 0, .int .u8 0, .int .u8 0, .int .u8 0, .int .u8 0, .int .u8 0, .int .u8 0, .int .u8 0, .int .u8 0, .int .u8 0, .int .u8 0, .int .u8 0, .int .u8 0, .int .u8 0, .int .u8 0, .int .u8 0, .int .u8 0, .int .u8 0, .int .u8 0, .int .u8 0, .int .u8 0, .int .u8 0, .int .u8 0, .int .u8 0, .int .u8 0, .int .u8 0, .int .u8 0, .int .u8 0, .int .u8 0, .int .u8 0, .int .u8 0, .int .u8 0, .int .u8 0, .int .u8 0, .int .u8 0, .int .u8 0, .int .u8 0, .int .u8 0, .int .u8 0, .int .u8 0, .int .u8 0, .int .u8 0, .int .u8 0, .int .u8 0, .int .u8 0, .int .u8 0, .int .u8 0, .int .u8 0, .int .u8 0, .int .u8 0, .int .u8 0, .int .u8 0, .int .u8 0, .int .u8 0, .int .u8 0, .int .u8 0, .int .u8 0, .int .u8 0, .int .u8 0, .int .u8 0, .int .u8 0, .int .u8 0, .int .u8 0, .int .u8 0, .int .u8 0, .int .u8 0, .int .u8 0, .int .u8 0, .int .u8 0, .int .u8 0, .int .u8 0, .int .u8 0, .int .u8 0, .int .u8 0, .int .u8 0, .int .u8 0, .int .u8 0, .int .u8 0, .int .u8 0, .int .u8 0, .int .u8 0, .int .u8 0, .int .u8 0, .int .u8 0], 256), some ([.int .u8 0, .int .u8 0], 2), some ([.int .u8 0, .int .u8 0], 2), some ([.int .u8 0, .int .u8 0, .int .u8 0, .int .u8 0, .int .u8 0, .int .u8 0, .int .u8 0, .int .u8 0, .int .u8 0, .int .u8 0, .int .u8 0, .int .u8 0, .int .u8 0, .int .u8 0, .int .u8 0, .int .u8 0, .int .u8 0, .int .u8 0, .int .u8 0, .int .u8 0, .int .u8 0, .int .u8 0, .int .u8 0, .int .u8 0, .int .u8 0, .int .u8 0, .int .u8 0, .int .u8 0, .int .u8 0, .int .u8 0, .int .u8 0, .int .u8 0], 32), some ([.nilFunc], 8), some ([.pointer none, .pointer none, .pointer none, .string ⟨#[]⟩], 40), some ([.pointer none, .pointer none, .pointer none, .string ⟨#[]⟩], 40), some ([], 0), some ([], 0), some ([], 0), some ([.int .u8 0], 1), some ([.int .u8 0], 1), some ([.nilFunc], 8), some ([.pointer none], 8), some ([.int .i32 0], 4), some ([.int .i32 0], 4), some ([.int .u64 0, .int .u64 0, .int .u32 0, .int .u8 0, .int .u8 0, .int .u8 0, .int .u8 0, .nilFunc, .pointer none, .int .i32 0, .int .i32 0], 48), some ([.int .u64 0, .int .u64 0, .int .u32 0, .int .u8 0, .int .u8 0, .int .u8 0, .int .u8 0, .nilFunc, .pointer none, .int .i32 0, .int .i32 0], 48), some ([.int .i64 0, .string ⟨#[]⟩], 24), some ([.int .i64 0, .string ⟨#[]⟩], 24), none]
theorem shAll : AllSh Tryd.prog 0 shL := (.cons trivial (.cons sh1 (.cons sh2 (.cons sh3 (.cons sh4 (.cons sh5 (.cons sh6 (.cons sh7 (.cons sh8 (.cons sh9 (.cons sh10 (.cons sh11 (.cons sh12 (.cons sh13 (.cons sh14 (.cons sh15 (.cons sh16 (.cons sh17 (.cons sh18 (.cons sh19 (.cons sh20 (.cons sh21 (.cons sh22 (.cons sh23 (.cons sh24 (.cons trivial (.cons sh26 (.cons sh27 (.cons sh28 (.cons sh29 (.cons sh30 (.cons sh31 (.cons sh32 (.cons sh33 (.cons sh34 (.cons sh35 (.cons sh36 (.cons sh37 (.cons sh38 (.cons sh39 (.cons sh40 (.cons sh41 (.cons sh42 (.cons sh43 (.cons sh44 (.cons sh45 (.cons sh46 (.cons trivial (.cons sh48 (.cons sh49 (.cons sh50 (.cons sh51 (.cons sh52 (.cons sh53 (.cons sh54 (.cons sh55 (.cons sh56 (.cons sh57 (.cons sh58 (.cons sh59 (.cons sh60 (.cons sh61 (.cons sh62 (.cons sh63 (.cons trivial (.cons sh65 (.cons sh66 (.cons sh67 (.cons sh68 (.cons sh69 (.cons trivial (.cons sh71 (.cons sh72 (.cons sh73 (.cons sh74 (.cons sh75 (.cons sh76 (.cons sh77 (.cons sh78 (.cons sh79 (.cons sh80 (.cons sh81 (.cons sh82 (.cons sh83 (.cons sh84 (.cons sh85 (.cons sh86 (.cons sh87 (.cons sh88 (.cons sh89 (.cons sh90 (.cons sh91 (.cons trivial (.cons sh93 (.cons trivial (.cons sh95 (.cons sh96 (.cons trivial (.cons sh98 (.cons sh99 (.cons sh100 (.cons sh101 (.cons sh102 (.cons sh103 (.cons sh104 (.cons sh105 (.cons sh106 (.cons sh107 (.cons sh108 (.cons sh109 (.cons sh110 (.cons trivial (.cons sh112 (.cons sh113 (.cons sh114 (.cons sh115 (.cons sh116 (.cons sh117 (.cons sh118 (.cons sh119 (.cons sh120 (.cons sh121 (.cons sh122 (.cons sh123 (.cons sh124 (.cons sh125 (.cons sh126 (.cons sh127 (.cons sh128 (.cons sh129 (.cons trivial (.cons sh131 (.cons sh132 (.cons trivial (.cons sh134 (.cons trivial (.cons sh136 (.cons sh137 (.cons sh138 (.cons sh139 (.cons sh140 (.cons sh141 (.cons sh142 (.cons sh143 (.cons sh144 (.cons sh145 (.cons sh146 (.cons sh147 (.cons sh148 (.cons sh149 (.cons sh150 (.cons sh151 (.cons sh152 (.cons sh153 (.cons sh154 (.cons sh155 (.cons sh156 (.cons trivial .nil))))))))))))))))))))))))))))))))))))))))))))))))))))))))))))))))))))))))))))))))))))))))))))))))))))))))))))))))))))))))))))))))))))))))))))))))))))))))))))))
theorem inAll : AllIn Tryd.prog 0 inL := (.cons trivial (.cons in1 (.cons in2 (.cons in3 (.cons in4 (.cons in5 (.cons in6 (.cons in7 (.cons in8 (.cons in9 (.cons in10 (.cons in11 (.cons in12 (.cons in13 (.cons in14 (.cons in15 (.cons in16 (.cons in17 (.cons in18 (.cons in19 (.cons in20 (.cons in21 (.cons in22 (.cons in23 (.cons in24 (.cons trivial (.cons in26 (.cons in27 (.cons in28 (.cons in29 (.cons in30 (.cons in31 (.cons in32 (.cons in33 (.cons in34 (.cons in35 (.cons in36 (.cons in37 (.cons in38 (.cons in39 (.cons in40 (.cons in41 (.cons in42 (.cons in43 (.cons in44 (.cons in45 (.cons in46 (.cons trivial (.cons in48 (.cons in49 (.cons in50 (.cons in51 (.cons in52 (.cons in53 (.cons in54 (.cons in55 (.cons in56 (.cons in57 (.cons in58 (.cons in59 (.cons in60 (.cons in61 (.cons in62 (.cons in63 (.cons trivial (.cons in65 (.cons in66 (.cons in67 (.cons in68 (.cons in69 (.cons trivial (.cons in71 (.cons in72 (.cons in73 (.cons in74 (.cons in75 (.cons in76 (.cons in77 (.cons in78 (.cons in79 (.cons in80 (.cons in81 (.cons in82 (.cons in83 (.cons in84 (.cons in85 (.cons in86 (.cons in87 (.cons in88 (.cons in89 (.cons in90 (.cons in91 (.cons trivial (.cons in93 (.cons trivial (.cons in95 (.cons in96 (.cons trivial (.cons in98 (.cons in99 (.cons in100 (.cons in101 (.cons in102 (.cons in103 (.cons in104 (.cons in105 (.cons in106 (.cons in107 (.cons in108 (.cons in109 (.cons in110 (.cons trivial (.cons in112 (.cons in113 (.cons in114 (.cons in115 (.cons in116 (.cons in117 (.cons in118 (.cons in119 (.cons in120 (.cons in121 (.cons in122 (.cons in123 (.cons in124 (.cons in125 (.cons in126 (.cons in127 (.cons in128 (.cons in129 (.cons trivial (.cons in131 (.cons in132 (.cons trivial (.cons in134 (.cons trivial (.cons in136 (.cons in137 (.cons in138 (.cons in139 (.cons in140 (.cons in141 (.cons in142 (.cons in143 (.cons in144 (.cons in145 (.cons in146 (.cons in147 (.cons in148 (.cons in149 (.cons in150 (.cons in151 (.cons in152 (.cons in153 (.cons in154 (.cons in155 (.cons in156 (.cons trivial .nil))))))))))))))))))))))))))))))))))))))))))))))))))))))))))))))))))))))))))))))))))))))))))))))))))))))))))))))))))))))))))))))))))))))))))))))))))))))))))))))
def tab : Tab Tryd.prog where
  sh := fun t => shL.getD t .other
  info := fun t => inL.getD t none
  sh_ok := fun t => by have := shAll.get t; rw [Nat.zero_add] at this; exact this
  info_ok := fun t z b h => by
    have := inAll.get t
    rw [Nat.zero_add] at this
    rw [show inL.getD t none = some (z, b) from h] at this
    exact this
end Go.Proofs.YtfnmcpgajjkemaaDoor
