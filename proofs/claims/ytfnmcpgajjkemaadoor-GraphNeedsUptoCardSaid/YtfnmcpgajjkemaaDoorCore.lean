/- The symbolic walk, part 1: the state (frame list, heap items, immutable part), its moves, and the rules of control. -/
import Derived.WalkKit
import Derived.WalkSpells
import Derived.OrdersHeld
import Derived.Shelf.Abstract
namespace Go.Proofs.YtfnmcpgajjkemaaDoor.SW
open Go Go.RowKit

/-- The part of memory that stays: some blocks, and the streams. -/
structure Imm where
  at_ : Nat → Option Obj
  os : Os
  tape : Nat → Question → Nat
  output : Array (Nat × ByteArray)

structure Imm.le (I J : Imm) : Prop where
  at_ : ∀ b o, I.at_ b = some o → J.at_ b = some o
  os : J.os = I.os
  tape : J.tape = I.tape
  output : J.output = I.output
theorem Imm.le.refl (I : Imm) : I.le I := ⟨fun _ _ h => h, rfl, rfl, rfl⟩
theorem Imm.le.trans {I J K : Imm} (h : I.le J) (k : J.le K) : I.le K := ⟨fun b o x => k.at_ b o (h.at_ b o x), k.os.trans h.os, k.tape.trans h.tape, k.output.trans h.output⟩
def Imm.add (I : Imm) (b : Nat) (o : Obj) : Imm := { I with at_ := fun k => if k = b then some o else I.at_ k }
theorem Imm.le_add {I : Imm} {b : Nat} {o : Obj} (h : I.at_ b = none) : I.le (I.add b o) := by
  refine ⟨fun k p hk => ?_, rfl, rfl, rfl⟩
  simp only [Imm.add]
  split
  · subst_vars; rw [h] at hk; cases hk
  · exact hk
theorem Imm.add_at (I : Imm) (b : Nat) (o : Obj) : (I.add b o).at_ b = some o := by simp [Imm.add]
/-- All that stands in a world. -/
def Imm.of (w : World) : Imm := ⟨fun b => w.heap[b]?, w.os, w.tape, w.output⟩

/-- A piece of memory that is owned: its blocks, and what is said of them. -/
structure Itm where
  fp : List Nat
  ok : (Nat → Option Obj) → Prop
  loc : ∀ h h' : Nat → Option Obj, (∀ b, b ∈ fp → h' b = h b) → ok h → ok h'
def fps (l : List Itm) : List Nat := l.flatMap Itm.fp
theorem fps_cons (x : Itm) (l : List Itm) : fps (x :: l) = x.fp ++ fps l := rfl
theorem fps_append (l m : List Itm) : fps (l ++ m) = fps l ++ fps m := by simp [fps]

/-- What holds of a world: the immutable part stands in it, and the items, apart from it and from one another. -/
structure St (I : Imm) (w : World) (l : List Itm) : Prop where
  os : w.os = I.os
  tape : w.tape = I.tape
  output : w.output = I.output
  imm : ∀ b o, I.at_ b = some o → w.heap[b]? = some o
  nodup : (fps l).Nodup
  apart : ∀ b, b ∈ fps l → I.at_ b = none
  bound : ∀ b, b ∈ fps l → b < w.heap.size
  ok : ∀ it, it ∈ l → it.ok (fun b => w.heap[b]?)

theorem St.of (w : World) : St (Imm.of w) w [] :=
  ⟨rfl, rfl, rfl, fun _ _ h => h, by simp [fps], by simp [fps], by simp [fps], by simp⟩

section moves
variable {I : Imm} {w w' : World} {x y : Itm} {l m : List Itm}

theorem St.drew (h : St I w l) : St I w.drew l := ⟨h.os, h.tape, h.output, h.imm, h.nodup, h.apart, h.bound, h.ok⟩
theorem St.drawn (h : St I w l) (n : Nat) : St I { w with drawn := n } l := ⟨h.os, h.tape, h.output, h.imm, h.nodup, h.apart, h.bound, h.ok⟩

/-- The same items in another order. -/
theorem St.perm (h : St I w l) (hp : l.Perm m) : St I w m := by
  have hf : (fps l).Perm (fps m) := hp.flatMap_right _
  exact ⟨h.os, h.tape, h.output, h.imm, hf.nodup_iff.1 h.nodup, fun b hb => h.apart b (hf.mem_iff.2 hb), fun b hb => h.bound b (hf.mem_iff.2 hb), fun it hi => h.ok it (hp.mem_iff.2 hi)⟩
theorem St.drop (h : St I w (x :: l)) : St I w l := by
  have := h.nodup; rw [fps_cons] at this
  exact ⟨h.os, h.tape, h.output, h.imm, (List.nodup_append.1 this).2.1, fun b hb => h.apart b (by rw [fps_cons]; exact List.mem_append_right _ hb), fun b hb => h.bound b (by rw [fps_cons]; exact List.mem_append_right _ hb), fun it hi => h.ok it (List.mem_cons_of_mem _ hi)⟩
theorem St.sublist (hs : List.Sublist m l) (h : St I w l) : St I w m := by
  have hf : List.Sublist (fps m) (fps l) := by
    clear h
    induction hs with
    | slnil => exact List.Sublist.refl _
    | cons a _ ih => rw [fps_cons]; exact ih.trans (List.sublist_append_right _ _)
    | cons_cons a _ ih => rw [fps_cons, fps_cons]; exact List.Sublist.append (List.Sublist.refl _) ih
  exact ⟨h.os, h.tape, h.output, h.imm, hf.nodup h.nodup, fun b hb => h.apart b (hf.subset hb), fun b hb => h.bound b (hf.subset hb), fun it hi => h.ok it (hs.subset hi)⟩

/-- The first item changes, and blocks may be new; all else stands. -/
theorem St.change (h : St I w (x :: l)) (hos : w'.os = w.os) (htape : w'.tape = w.tape) (hout : w'.output = w.output) (hsz : w.heap.size ≤ w'.heap.size)
    (hb : ∀ b, b < w.heap.size → b ∉ x.fp → w'.heap[b]? = w.heap[b]?) (hn : y.fp.Nodup)
    (hf : ∀ b, b ∈ y.fp → b ∈ x.fp ∨ (w.heap.size ≤ b ∧ b < w'.heap.size)) (hok : y.ok (fun b => w'.heap[b]?)) : St I w' (y :: l) := by
  have hnd := h.nodup
  rw [fps_cons, List.nodup_append] at hnd
  have himm : ∀ b o, I.at_ b = some o → b < w.heap.size := fun b o hi => by
    have := h.imm b o hi
    exact (Array.getElem?_eq_some_iff.1 this).1
  have hx : ∀ b, b ∈ x.fp → b ∈ fps (x :: l) := fun b hb => by rw [fps_cons]; exact List.mem_append_left _ hb
  have hl : ∀ b, b ∈ fps l → b ∈ fps (x :: l) := fun b hb => by rw [fps_cons]; exact List.mem_append_right _ hb
  refine ⟨hos.trans h.os, htape.trans h.tape, hout.trans h.output, fun b o hi => ?_, ?_, ?_, ?_, ?_⟩
  · rw [hb b (himm b o hi) (fun hx' => by have := h.apart b (hx b hx'); rw [hi] at this; cases this)]
    exact h.imm b o hi
  · rw [fps_cons, List.nodup_append]
    refine ⟨hn, hnd.2.1, fun a ha b hb' => ?_⟩
    rcases hf a ha with h1 | ⟨h1, _⟩
    · exact hnd.2.2 a h1 b hb'
    · have := h.bound b (hl b hb')
      omega
  · intro b hb'
    rw [fps_cons, List.mem_append] at hb'
    rcases hb' with h1 | h1
    · rcases hf b h1 with h2 | ⟨h2, _⟩
      · exact h.apart b (hx b h2)
      · cases hi : I.at_ b with
        | none => rfl
        | some o => have := himm b o hi; omega
    · exact h.apart b (hl b h1)
  · intro b hb'
    rw [fps_cons, List.mem_append] at hb'
    rcases hb' with h1 | h1
    · rcases hf b h1 with h2 | ⟨_, h2⟩
      · have := h.bound b (hx b h2); omega
      · exact h2
    · have := h.bound b (hl b h1); omega
  · intro it hit
    rcases List.mem_cons.1 hit with rfl | hit
    · exact hok
    · refine it.loc _ _ (fun b hb' => ?_) (h.ok it (List.mem_cons_of_mem _ hit))
      have hbl : b ∈ fps l := List.mem_flatMap.2 ⟨it, hit, hb'⟩
      refine hb b (h.bound b (hl b hbl)) (fun hx' => ?_)
      exact hnd.2.2 b hx' b hbl rfl

/-- A new item, out of new blocks alone. -/
theorem St.fresh (h : St I w l) (hos : w'.os = w.os) (htape : w'.tape = w.tape) (hout : w'.output = w.output) (hsz : w.heap.size ≤ w'.heap.size)
    (hb : ∀ b, b < w.heap.size → w'.heap[b]? = w.heap[b]?) (hn : y.fp.Nodup)
    (hf : ∀ b, b ∈ y.fp → w.heap.size ≤ b ∧ b < w'.heap.size) (hok : y.ok (fun b => w'.heap[b]?)) : St I w' (y :: l) := by
  have h0 : St I w (⟨[], fun _ => True, fun _ _ _ h => h⟩ :: l) := ⟨h.os, h.tape, h.output, h.imm, h.nodup, h.apart, h.bound, fun it hi => by
    rcases List.mem_cons.1 hi with rfl | hi
    · trivial
    · exact h.ok it hi⟩
  exact h0.change hos htape hout hsz (fun b hb' _ => hb b hb') hn (fun b hb' => .inr (hf b hb')) hok

/-- A block whose content is known. -/
def blk (b : Nat) (o : Obj) : Itm := ⟨[b], fun h => h b = some o, fun h h' e k => by rw [e b (by simp)]; exact k⟩
theorem St.at_blk {b : Nat} {o : Obj} (h : St I w (blk b o :: l)) : w.heap[b]? = some o := h.ok _ (List.mem_cons_self ..)
theorem St.new (h : St I w l) (o : Obj) : St I (w.alloc o) (blk w.heap.size o :: l) := by
  refine h.fresh rfl rfl rfl (by simp) (fun b hb => Below.heap_alloc _ _ _ hb) (by simp [blk]) (fun b hb => ?_) ?_
  · simp [blk] at hb; subst hb; simp
  · show (w.alloc o).heap[w.heap.size]? = some o
    show (w.heap.push o)[w.heap.size]? = some o
    simp
theorem St.set {b : Nat} {c : Array Value} {T : TypeId} (h : St I w (blk b (.cells c T (0, 0)) :: l)) (i : Nat) (v : Value) :
    St I (w.setCell ⟨b, i, none⟩ v) (blk b (.cells (c.setIfInBounds i v) T (0, 0)) :: l) := by
  refine h.change rfl rfl rfl (by simp [World.setCell]) (fun k _ hne => Below.heap_setCell _ _ _ _ (by simpa [blk] using hne)) (by simp [blk]) (fun k hk => .inl hk) ?_
  have := h.at_blk
  show (w.setCell ⟨b, i, none⟩ v).heap[b]? = _
  simp only [World.setCell, Array.getElem?_modify, if_true, this, Option.map_some]
  rfl
/-- An item is given to the immutable part. -/
theorem St.freeze {b : Nat} {o : Obj} (h : St I w (blk b o :: l)) : St (I.add b o) w l ∧ I.le (I.add b o) := by
  have hn : I.at_ b = none := h.apart b (by simp [fps_cons, blk])
  refine ⟨?_, Imm.le_add hn⟩
  have hd := h.drop
  have hnd := h.nodup
  rw [fps_cons, List.nodup_append] at hnd
  refine ⟨h.os, h.tape, h.output, fun k p hk => ?_, hd.nodup, fun k hk => ?_, hd.bound, hd.ok⟩
  · simp only [Imm.add] at hk
    split at hk
    · cases hk; subst_vars; exact h.at_blk
    · exact h.imm k p hk
  · simp only [Imm.add]
    rw [if_neg]
    · exact hd.apart k hk
    · rintro rfl; exact hnd.2.2 k (by simp [blk]) k hk rfl
end moves

/-! ### The frame -/
theorem beq_ne {a b : Nat} (h : a ≠ b) : Nat.beq a b = false := by
  cases e : Nat.beq a b with
  | false => rfl
  | true => exact absurd (Nat.eq_of_beq_eq_true e) h
theorem ne_beq {a b : Nat} (h : Nat.beq a b = false) : a ≠ b := Nat.ne_of_beq_eq_false h
def look : List (Nat × Value) → Nat → Option Value
  | [], _ => none
  | (j, v) :: t, i => bif Nat.beq j i then some v else look t i
def ev (fr : List (Nat × Value)) : Operand → Option Value
  | .tmp t => look fr t
  | .const v => some v
  | .global g => some (.pointer (some ⟨g, 0, none⟩))
  | .func f => some (.func (.func f) #[] #[])
def evs (fr : List (Nat × Value)) : List Operand → Option (List Value)
  | [] => some []
  | x :: r => match ev fr x, evs fr r with
    | some v, some vs => some (v :: vs)
    | _, _ => none
structure Fr (a : Act) (n : Nat) (fr : List (Nat × Value)) : Prop where
  size : a.tmps.size = n
  defers : a.defers = []
  at_ : ∀ i v, look fr i = some v → a.tmps.getD i undef = v
theorem Fr.eval {a : Act} {n : Nat} {fr : List (Nat × Value)} (h : Fr a n fr) {x : Operand} {v : Value} (hx : ev fr x = some v) : a.eval x = v := by
  cases x with
  | tmp t => exact h.at_ t v hx
  | const u => exact Option.some.inj hx
  | global g => exact Option.some.inj hx
  | func f => exact Option.some.inj hx
theorem Fr.evals {a : Act} {n : Nat} {fr : List (Nat × Value)} (h : Fr a n fr) : ∀ {xs : List Operand} {vs : List Value}, evs fr xs = some vs → xs.map a.eval = vs
  | [], vs, hx => by cases hx; rfl
  | x :: r, vs, hx => by
    simp only [evs] at hx
    cases h1 : ev fr x with
    | none => rw [h1] at hx; cases hx
    | some v =>
      cases h2 : evs fr r with
      | none => rw [h1, h2] at hx; cases hx
      | some us => rw [h1, h2] at hx; cases hx; simp [h.eval h1, h.evals h2]
theorem Fr.put {a : Act} {n : Nat} {fr : List (Nat × Value)} (h : Fr a n fr) {d : Nat} (hd : Nat.blt d n = true) (v : Value) : Fr (a.put (some d) v) n ((d, v) :: fr) := by
  have hd' : d < n := by simpa [Nat.blt_eq] using hd
  refine ⟨by simp [Act.put, h.size], h.defers, fun i u hi => ?_⟩
  simp only [look] at hi
  by_cases e : d = i
  · subst e
    simp at hi
    subst hi
    simp [Act.put, h.size, hd']
  · have : Nat.beq d i = false := beq_ne e
    rw [this] at hi
    have := h.at_ i u hi
    simpa [Act.put, Array.getElem?_setIfInBounds_ne e] using this
theorem Fr.put_none {a : Act} {n : Nat} {fr : List (Nat × Value)} (h : Fr a n fr) (v : Value) : Fr (a.put none v) n fr := h
/-- Less is known. -/
def FrLe (fr fr' : List (Nat × Value)) : Prop := ∀ i v, look fr' i = some v → look fr i = some v
theorem FrLe.nil (fr : List (Nat × Value)) : FrLe fr [] := fun i v h => by cases h
theorem FrLe.cons {fr fr' : List (Nat × Value)} {i : Nat} {v : Value} (h : look fr i = some v) (k : FrLe fr fr') : FrLe fr ((i, v) :: fr') := fun j u hj => by
  simp only [look] at hj
  cases e : Nat.beq i j with
  | true => rw [e] at hj; cases hj; have : i = j := by simpa using e
            subst this; exact h
  | false => rw [e] at hj; exact k j u hj
theorem Fr.weak {a : Act} {n : Nat} {fr fr' : List (Nat × Value)} (h : Fr a n fr) (k : FrLe fr fr') : Fr a n fr' := ⟨h.size, h.defers, fun i v hi => h.at_ i v (k i v hi)⟩

/-! ### The one judgement -/
def KK (n : Nat) (I : Imm) (fr : List (Nat × Value)) (l : List Itm) (K : Act → World → Prop) : Prop := ∀ a w, Fr a n fr → St I w l → K a w

section rules
variable {P : Program} {n : Nat} {I : Imm} {fr fr' : List (Nat × Value)} {l m : List Itm} {K K' : Act → World → Prop} {Q : Exit → Act → World → Prop}

theorem KK.mono (h : KK n I fr l K) (hk : ∀ a w, K a w → K' a w) : KK n I fr l K' := fun a w ha hw => hk _ _ (h a w ha hw)
theorem K_fr (hf : FrLe fr fr') (h : KK n I fr' l K) : KK n I fr l K := fun a w ha hw => h a w (ha.weak hf) hw
theorem K_perm (hp : l.Perm m) (h : KK n I fr m K) : KK n I fr l K := fun a w ha hw => h a w ha (hw.perm hp)
theorem K_f1 {a b : Itm} (h : KK n I fr (b :: a :: l) K) : KK n I fr (a :: b :: l) K := K_perm (.swap _ _ _) h
theorem K_f2 {a b c : Itm} (h : KK n I fr (c :: a :: b :: l) K) : KK n I fr (a :: b :: c :: l) K := K_perm (((List.Perm.swap _ _ _).cons _).trans (.swap _ _ _)) h
theorem K_f3 {a b c d : Itm} (h : KK n I fr (d :: a :: b :: c :: l) K) : KK n I fr (a :: b :: c :: d :: l) K := K_perm (((((List.Perm.swap _ _ _).cons _).trans (.swap _ _ _)).cons _).trans (.swap _ _ _)) h
theorem K_f4 {a b c d e : Itm} (h : KK n I fr (e :: a :: b :: c :: d :: l) K) : KK n I fr (a :: b :: c :: d :: e :: l) K := K_perm (((((((List.Perm.swap _ _ _).cons _).trans (.swap _ _ _)).cons _).trans (.swap _ _ _)).cons _).trans (.swap _ _ _)) h
theorem K_drop {x : Itm} (h : KK n I fr l K) : KK n I fr (x :: l) K := fun a w ha hw => h a w ha hw.drop
theorem K_freeze {b : Nat} {o : Obj} (h : ∀ J, I.le J → J.at_ b = some o → KK n J fr l K) : KK n I fr (blk b o :: l) K := fun a w ha hw =>
  h _ hw.freeze.2 (Imm.add_at I b o) a w ha hw.freeze.1
theorem K_seq {x y : Code} (h : KK n I fr l (x.wp P (Exit.then (y.wp P Q) Q))) : KK n I fr l ((Code.seq x y).wp P Q) := fun a w ha hw => wp_seq (h a w ha hw)
/-- What is known between two statements is said by the prover. -/
theorem K_cut {x y : Code} (A : Act → World → Prop) (h : KK n I fr l (x.wp P (Exit.then A Q))) (k : ∀ a w, A a w → y.wp P Q a w) : KK n I fr l ((Code.seq x y).wp P Q) :=
  fun a w ha hw => wp_seq (Code.wp_mono (fun e a w q => by cases e <;> first | exact k _ _ q | exact q) (h a w ha hw))
theorem K_then {y : Code} (h : KK n I fr l (y.wp P Q)) : KK n I fr l (Exit.then (y.wp P Q) Q .normal) := h
theorem K_thenA {A : Act → World → Prop} (h : KK n I fr l A) : KK n I fr l (Exit.then A Q .normal) := h
theorem K_then_ret (h : KK n I fr l (Q .ret)) : KK n I fr l (Exit.then K Q .ret) := h
theorem K_then_exit {i : Nat} (h : KK n I fr l (Q (.exit i))) : KK n I fr l (Exit.then K Q (.exit i)) := h
theorem K_then_panic {c : List PanicEntry} (h : KK n I fr l (Q (.panic c))) : KK n I fr l (Exit.then K Q (.panic c)) := h
theorem K_block {i : Nat} {c : Code} (h : KK n I fr l (c.wp P (Exit.inBlock i Q))) : KK n I fr l ((Code.block i c).wp P Q) := fun a w ha hw => wp_block (h a w ha hw)
theorem K_in (h : KK n I fr l (Q .normal)) {i : Nat} : KK n I fr l (Exit.inBlock i Q .normal) := h
theorem K_in_ret {i : Nat} (h : KK n I fr l (Q .ret)) : KK n I fr l (Exit.inBlock i Q .ret) := h
theorem K_in_panic {i : Nat} {c : List PanicEntry} (h : KK n I fr l (Q (.panic c))) : KK n I fr l (Exit.inBlock i Q (.panic c)) := h
theorem K_in_exit {i : Nat} (h : KK n I fr l (Q .normal)) : KK n I fr l (Exit.inBlock i Q (.exit i)) := fun a w ha hw => by
  show if i = i then _ else _
  rw [if_pos rfl]; exact h a w ha hw
theorem K_in_past {i j : Nat} (hne : Nat.beq j i = false) (h : KK n I fr l (Q (.exit j))) : KK n I fr l (Exit.inBlock i Q (.exit j)) := fun a w ha hw => by
  show if j = i then _ else _
  rw [if_neg (fun e => by subst e; simp at hne)]; exact h a w ha hw
theorem K_exit {i : Nat} (h : KK n I fr l (Q (.exit i))) : KK n I fr l ((Code.exit i).wp P Q) := fun a w ha hw => wp_exit (h a w ha hw)
theorem K_skip (h : KK n I fr l (Q .normal)) : KK n I fr l (Code.skip.wp P Q) := fun a w ha hw => wp_skip (h a w ha hw)
theorem K_ret (h : KK n I fr l (Q .ret)) : KK n I fr l (Code.ret.wp P Q) := fun a w ha hw => wp_ret (h a w ha hw)
theorem K_cond {c : Operand} {x y : Code} {b : Bool} (hc : ev fr c = some (.bool b)) (ht : b = true → KK n I fr l (x.wp P Q)) (hf : b = false → KK n I fr l (y.wp P Q)) :
    KK n I fr l ((Code.cond c x y).wp P Q) := fun a w ha hw => wp_cond_split (ha.eval hc) (fun h => ht h a w ha hw) (fun h => hf h a w ha hw)
theorem K_region {id : Nat} {os : List Oper} (h : KK n I fr l (wpList P os.toArray Q os)) : KK n I fr l ((Code.region id os.toArray false).wp P Q) := fun a w ha hw => wp_region_lit (h a w ha hw)
theorem K_nil {ops : Array Oper} (h : KK n I fr l (Q .normal)) : KK n I fr l (wpList P ops Q []) := h
theorem K_false {c : Code} (h : False) : KK n I fr l (c.wp P Q) := h.elim
/-- A loop, by an invariant over states of the prover's own. -/
theorem K_loop {σ : Type} {c : Code} (Inv : σ → Act → World → Prop) (μ : σ → Nat) (h0 : KK n I fr l (fun a w => ∃ s, Inv s a w))
    (round : ∀ s a w, Inv s a w → c.wp P (Exit.then (fun a' w' => ∃ s', Inv s' a' w' ∧ μ s' < μ s) Q) a w) : KK n I fr l ((Code.loop c).wp P Q) := by
  intro a w ha hw
  obtain ⟨s0, hs0⟩ := h0 a w ha hw
  intro b k cs
  have key : ∀ m s a w, μ s = m → Inv s a w → ∃ e a' w', Q e a' w' ∧ Arrives P (lone (b.at a (.code c :: .inLoop c :: k)) cs w) b k cs e a' w' := by
    intro m
    induction m using Nat.strongRecOn with
    | _ m ih =>
      intro s a w hm hi
      obtain ⟨e, a1, w1, hq, harr⟩ := round s a w hi b (.inLoop c :: k) cs
      cases e with
      | normal =>
        obtain ⟨s', hi', hlt⟩ := hq
        obtain ⟨e2, a2, w2, hq2, harr2⟩ := ih (μ s') (hm ▸ hlt) s' a1 w1 rfl hi'
        exact ⟨e2, a2, w2, hq2, .of_steps (Steps.trans harr (.one step_inLoop)) harr2⟩
      | exit id => exact ⟨_, a1, w1, hq, .pass (x := .inLoop c) rfl (fun _ _ => .inl (by simp)) harr⟩
      | goto l => exact ⟨_, a1, w1, hq, .pass (x := .inLoop c) rfl (fun _ _ => .inl (by simp)) harr⟩
      | ret => exact ⟨_, a1, w1, hq, .pass (x := .inLoop c) rfl (fun _ _ => .inl (by simp)) harr⟩
      | panic ch => exact ⟨_, a1, w1, hq, .pass (x := .inLoop c) rfl (fun _ _ => .inl (by simp)) harr⟩
      | outgrown => exact ⟨_, a1, w1, hq, .pass (x := .inLoop c) rfl (fun _ _ => .inl (by simp)) harr⟩
  obtain ⟨e, a', w', hq, harr⟩ := key _ s0 a w rfl hs0
  exact ⟨e, a', w', hq, .of_steps (.one step_loop) harr⟩
end rules
end Go.Proofs.YtfnmcpgajjkemaaDoor.SW
