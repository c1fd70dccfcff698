/- Plain: what a need's text means. Printed by wip/gen/g25.py. -/
import Derived.Test.YtfnmcpgajjkemaaDoorG24
namespace Go.Proofs.YtfnmcpgajjkemaaDoor
open Go Go.RowKit Go.Proofs.YtfnmcpgajjkemaaDoor.SW
set_option maxRecDepth 100000
set_option maxHeartbeats 400000
theorem index_none1 {c : UInt8} : ∀ {l : List UInt8}, c ∉ l → Lib.index l [c] = -1
  | [], _ => rfl
  | b :: l, h => by
    have h1 : ¬ c = b := fun e => h (e ▸ List.mem_cons_self ..)
    have ih := index_none1 (c := c) (l := l) (fun hm => h (List.mem_cons_of_mem _ hm))
    unfold Lib.index
    rw [if_neg (by simp [List.isPrefixOf, h1]), ih]; rfl
theorem index_some1 {c : UInt8} {post : List UInt8} : ∀ {pre : List UInt8}, c ∉ pre → Lib.index (pre ++ c :: post) [c] = (pre.length : Int)
  | [], _ => by
    show Lib.index (c :: post) [c] = 0
    unfold Lib.index
    rw [if_pos (by simp [List.isPrefixOf])]
  | b :: pre, h => by
    have h1 : ¬ c = b := fun e => h (e ▸ List.mem_cons_self ..)
    have ih := index_some1 (c := c) (post := post) (pre := pre) (fun hm => h (List.mem_cons_of_mem _ hm))
    show Lib.index (b :: (pre ++ c :: post)) [c] = _
    unfold Lib.index
    have h2 : (((pre.length : Nat) : Int) == -1) = false := by rw [beq_eq_false_iff_ne]; omega
    rw [if_neg (by simp [List.isPrefixOf, h1]), ih, h2]
    simp
theorem cut_none1 {c : UInt8} {l : List UInt8} (h : c ∉ l) : Lib.cut l [c] = (l, [], false) := by
  unfold Lib.cut
  rw [if_neg (by rw [index_none1 h]; decide)]
theorem cut_some1 {c : UInt8} {pre post : List UInt8} (h : c ∉ pre) : Lib.cut (pre ++ c :: post) [c] = (pre, post, true) := by
  unfold Lib.cut
  rw [index_some1 h, if_pos (by omega)]
  simp
theorem ba_of {l : List UInt8} {s : ByteArray} (h : l = s.data.toList) : (⟨l.toArray⟩ : ByteArray) = s := by subst h; simp
theorem cutS_none {s : ByteArray} {c : UInt8} (h : c ∉ s.data.toList) : cutS s (chB c) = (s, ⟨#[]⟩, false) := by
  unfold cutS
  rw [show (chB c).data.toList = [c] from rfl, cut_none1 h]
theorem cutS_some {a b : ByteArray} {c : UInt8} (h : c ∉ a.data.toList) : cutS (a ++ (chB c ++ b)) (chB c) = (a, b, true) := by
  unfold cutS
  rw [show (chB c).data.toList = [c] from rfl, data_app, data_app, show (chB c).data.toList ++ b.data.toList = c :: b.data.toList from rfl, cut_some1 h]
theorem indexByte_none : ∀ {l : List UInt8} {c : UInt8}, c ∉ l → Lib.indexByte l c = -1
  | [], _, _ => rfl
  | b :: l, c, h => by
    have h1 : (b == c) = false := by rw [beq_eq_false_iff_ne]; exact fun e => h (e ▸ List.mem_cons_self ..)
    unfold Lib.indexByte
    rw [h1, indexByte_none (fun hm => h (List.mem_cons_of_mem _ hm))]
    rfl
theorem sufS_app (a : ByteArray) (c : UInt8) : sufS (a ++ chB c) (chB c) = true := by
  unfold sufS Lib.hasSuffix
  rw [List.isSuffixOf_iff_suffix, data_app]
  exact List.suffix_append _ _
theorem trimS_app (a : ByteArray) (c : UInt8) : trimS (a ++ chB c) (chB c) = a := by
  unfold trimS Lib.trimSuffix
  have h := sufS_app a c
  unfold sufS at h
  rw [if_pos h]
  refine ba_of ?_
  rw [data_app, show (chB c).data.toList = [c] from rfl, List.length_append]
  simp
theorem splitS_none {a : ByteArray} {c : UInt8} (h : c ∉ a.data.toList) : splitS a (chB c) = [a] := by
  unfold splitS
  refine Lib.splitB_miss _ _ _ _ ?_
  exact index_none1 h
theorem bytes_mem {s : ByteArray} {c : UInt8} (h : c ∈ s.data.toList) : ∃ i, i < s.size ∧ byteAt s i = (c.toNat : Int) := by
  obtain ⟨i, hi, he⟩ := List.mem_iff_getElem.1 h
  refine ⟨i, by have : s.size = s.data.toList.length := by rw [Array.length_toList]; rfl
                omega, ?_⟩
  unfold byteAt
  rw [List.getD_eq_getElem?_getD, List.getElem?_eq_getElem hi, Option.getD_some, he]
/-- A job's name of small letters. -/
structure Low (job : ByteArray) : Prop where
  pos : 0 < job.size
  len : job.size ≤ 64
  low : ∀ i, i < job.size → 97 ≤ byteAt job i ∧ byteAt job i ≤ 122
theorem Low.not_mem {job : ByteArray} (h : Low job) {c : UInt8} (hc : c.toNat < 97 ∨ 122 < c.toNat) : c ∉ job.data.toList := fun hm => by
  obtain ⟨i, hi, he⟩ := bytes_mem hm
  have := h.low i hi
  omega
theorem Low.name {job : ByteArray} (h : Low job) : nameP job = true := by
  unfold nameP madeP
  have h1 : ∀ i, i < job.size → namedP (byteAt job i) = true := fun i hi => by
    have := h.low i hi
    unfold namedP
    rw [letterP_iff.2 (.inl this)]; rfl
  rw [decide_eq_true (⟨h.pos, h.len, h1⟩ : 0 < job.size ∧ job.size ≤ 64 ∧ ∀ i, i < job.size → namedP (byteAt job i) = true), decide_eq_false (by have := h.low 0 h.pos; omega)]
  rfl
theorem readP_job {job : ByteArray} (h : Low job) : readP job = some (job, []) := by
  unfold readP
  rw [cutS_none (h.not_mem (c := 91) (.inl (by decide)))]
  simp only
  rw [if_neg (by rw [h.name]; decide), if_pos trivial]
/-- A need's text with one value. -/
def needT (job name value : ByteArray) : ByteArray := job ++ chB 91 ++ name ++ chB 61 ++ value ++ chB 93
structure Plain1 (name value : ByteArray) : Prop where
  name : name = ⟨#[65]⟩ ∨ name = ⟨#[111, 115]⟩
  comma : (44 : UInt8) ∉ value.data.toList
  shut : (93 : UInt8) ∉ value.data.toList
theorem readP_pair {job name value : ByteArray} (h : Low job) (hp : Plain1 name value) : readP (needT job name value) = some (job, [(name, value)]) := by
  have e1 : needT job name value = job ++ (chB 91 ++ ((name ++ (chB 61 ++ value)) ++ chB 93)) := by unfold needT; simp only [ByteArray.append_assoc]
  have hn : ∀ c : UInt8, c ∉ value.data.toList → c ≠ 61 → c ≠ 65 → c ≠ 111 → c ≠ 115 → c ∉ (name ++ (chB 61 ++ value)).data.toList := fun c h1 h2 h3 h4 h5 hm => by
    rw [data_app, data_app, List.mem_append, List.mem_append] at hm
    rcases hm with hm | hm | hm
    · rcases hp.name with rfl | rfl
      · simp at hm; exact h3 hm
      · simp at hm; rcases hm with hm | hm
        · exact h4 hm
        · exact h5 hm
    · simp at hm; exact h2 hm
    · exact h1 hm
  have hx := hn 44 hp.comma (by decide) (by decide) (by decide) (by decide)
  have hy := hn 93 hp.shut (by decide) (by decide) (by decide) (by decide)
  have hq : (61 : UInt8) ∉ name.data.toList := by rcases hp.name with rfl | rfl <;> decide
  have hv : varNameP name = true := by rcases hp.name with rfl | rfl <;> decide +kernel
  have hpair : cutS (name ++ (chB 61 ++ value)) (chB 61) = (name, value, true) := cutS_some hq
  unfold readP
  rw [e1, cutS_some (h.not_mem (c := 91) (.inl (by decide)))]
  simp only
  have hb : hasB (name ++ (chB 61 ++ value)) 93 = false := by
    unfold hasB
    rw [indexByte_none hy]; rfl
  rw [if_neg (by rw [h.name]; decide), if_neg (by decide), if_neg (by rw [sufS_app]; decide), trimS_app, if_neg (by rw [hb]; decide), splitS_none hx]
  rw [if_pos (fun i hi => by
    have : i = 0 := by simpa using hi
    subst this
    show pairOk (name ++ (chB 61 ++ value)) = true
    unfold pairOk
    rw [hpair, hv]; rfl)]
  simp only [List.map_cons, List.map_nil, pairOf, hpair]
theorem compact_rise {xs : List Int} (h : xs.Pairwise (· < ·)) : Lib.compact xs = xs := by
  unfold Lib.compact Lib.compactUpTo
  have hk : ∀ j, j ∈ List.range xs.length → Lib.keeps xs.toArray j = true := fun j hj => by
    have hj' : j < xs.length := by simpa using hj
    unfold Lib.keeps
    refine decide_eq_true ?_
    rcases Nat.eq_zero_or_pos j with h0 | h0
    · exact .inl h0
    · right
      have := List.pairwise_iff_getElem.1 h (j - 1) j (by omega) hj' (by omega)
      rw [getElem!_pos xs.toArray j (by simpa using hj'), getElem!_pos xs.toArray (j - 1) (by simp; omega)]
      simp only [List.getElem_toArray]
      omega
  rw [List.filter_eq_self.2 hk]
  refine List.ext_getElem (by simp) fun i h1 h2 => ?_
  simp [h2]
theorem sort_rise {xs : List Int} (h : xs.Pairwise (· < ·)) : (xs.mergeSort fun x y => decide (x ≤ y)) = xs := List.mergeSort_of_pairwise (h.imp fun hab => decide_eq_true (by omega))
/-- The instance that needs a job. -/
abbrev zzName : ByteArray := ⟨#[122, 122, 45, 116, 104, 105, 115, 45, 111, 110, 101]⟩
abbrev hereS : ByteArray := ⟨#[104, 101, 114, 101]⟩
def hereF : FaultV := ⟨0, hereS, 7, 8⟩
def loneP (text : ByteArray) : InstP := ⟨zzName, [], [⟨text, hereF⟩], 0, true, fault0⟩
/-- An instance that needs nothing. -/
def bare (p : InstP) : InstP := { p with has := true, needs := [] }
section
variable {insts : List InstP} {text job : ByteArray} {ps : List (ByteArray × ByteArray)}
theorem ofP_zz {j : ByteArray} (h : Low j) : ofP j zzName = false := by
  unfold ofP
  rw [Bool.or_eq_false_iff]
  refine ⟨decide_eq_false (fun e => h.not_mem (c := 45) (.inl (by decide)) (by rw [← e]; decide)), ?_⟩
  unfold preS Lib.hasPrefix
  refine Bool.eq_false_iff.2 fun hp => ?_
  rw [List.isPrefixOf_iff_prefix, data_app] at hp
  have hm : (91 : UInt8) ∈ zzName.data.toList := hp.subset (by simp)
  revert hm; decide
theorem needed_nil : neededR insts [] = ([], fault0) := by
  unfold neededR
  simp only [List.findSome?_nil, List.flatMap_nil, List.mergeSort_nil]
  rfl
/-- What comes of all of them and of one more that needs a job. -/
theorem build_need (hb : ∀ i, i < insts.length → (insts.getD i ip0).has = true ∧ (insts.getD i ip0).needs = []) (hl : Low job) (hr : readP text = some (job, ps)) :
    ((allP (ofQ insts job) insts.length).length = 0 → buildP (insts ++ [loneP text]) = ([], { hereF with code := 161 })) ∧
    ((allP (ofQ insts job) insts.length).length ≠ 0 → (allP (meansQ insts job ps) insts.length).length = 0 → (buildP (insts ++ [loneP text])).2.code = 162) ∧
    ((allP (ofQ insts job) insts.length).length ≠ 0 → (allP (meansQ insts job ps) insts.length).length ≠ 0 → ∃ pr : List (List Int), pr.length = insts.length ∧ buildP (insts ++ [loneP text]) = (pr ++ [allP (meansQ insts job ps) insts.length], fault0)) := by
  have hlen : (insts ++ [loneP text]).length = insts.length + 1 := by simp
  have h1 : allP (ofQ (insts ++ [loneP text]) job) (insts ++ [loneP text]).length = allP (ofQ insts job) insts.length := by
    rw [hlen]
    exact allP_snoc (fun k hk => by unfold ofQ; rw [snoc_get hk]) (by unfold ofQ; rw [snoc_last]; exact ofP_zz hl)
  have h2 : allP (meansQ (insts ++ [loneP text]) job ps) (insts ++ [loneP text]).length = allP (meansQ insts job ps) insts.length := by
    rw [hlen]
    exact allP_snoc (fun k hk => by unfold meansQ; rw [snoc_get hk]) (by unfold meansQ meansP; rw [snoc_last]; show (ofP job zzName && _) = false; rw [ofP_zz hl]; rfl)
  have hp : ∀ is : List InstP, ∀ i, i < insts.length → predsOf (insts ++ [loneP text]) i = ([], fault0) := fun _ i hi => by
    unfold predsOf
    rw [snoc_get hi, if_pos (hb i hi).1, (hb i hi).2, needed_nil]
  have hp0 : ∀ i, i < insts.length → predsOf insts i = ([], fault0) := fun i hi => by
    unfold predsOf
    rw [if_pos (hb i hi).1, (hb i hi).2, needed_nil]
  have hlast : predsOf (insts ++ [loneP text]) insts.length = neededR (insts ++ [loneP text]) [⟨text, hereF⟩] := by
    unfold predsOf
    rw [snoc_last]
    rfl
  have herr : needErr (insts ++ [loneP text]) ⟨text, hereF⟩ = if (allP (ofQ insts job) insts.length).length = 0 then some { hereF with code := 161 } else if (allP (meansQ insts job ps) insts.length).length = 0 then some { hereF with code := 162 } else none := by
    unfold needErr
    simp only [hr, h1, h2]
  have hbad : ∀ f : FaultV, f.code ≠ 0 → needErr (insts ++ [loneP text]) ⟨text, hereF⟩ = some f → buildP (insts ++ [loneP text]) = ([], f) := fun f hf he => by
    have hl2 : predsOf (insts ++ [loneP text]) insts.length = ([], f) := by
      rw [hlast]
      unfold neededR
      simp only [List.findSome?_cons, he]
    unfold buildP
    rw [range_hit (k := insts.length) (y := f) (fun i hi => by unfold predErr; rw [hp insts i hi]; rfl) (by omega) (by unfold predErr; rw [hl2, if_neg hf])]
  refine ⟨fun h0 => hbad { hereF with code := 161 } (by decide) (by rw [herr, if_pos h0]), fun h0 h3 => by rw [hbad { hereF with code := 162 } (by decide) (by rw [herr, if_neg h0, if_pos h3])], fun h0 h3 => ?_⟩
  have hnone : needErr (insts ++ [loneP text]) ⟨text, hereF⟩ = none := by rw [herr, if_neg h0, if_neg h3]
  have hnl : needL (insts ++ [loneP text]) ⟨text, hereF⟩ = allP (meansQ insts job ps) insts.length := by
    unfold needL
    simp only [hr, h2]
  have hl2 : predsOf (insts ++ [loneP text]) insts.length = (allP (meansQ insts job ps) insts.length, fault0) := by
    rw [hlast]
    unfold neededR
    simp only [List.findSome?_cons, hnone, List.findSome?_nil, List.flatMap_cons, List.flatMap_nil, hnl, List.append_nil]
    rw [sort_rise (allP_rise _ _), compact_rise (allP_rise _ _)]
  have hz : (buildP insts).2.code = 0 := by
    have hg : ∀ i, i < insts.length → (predsL insts).getD i [] = [] := fun i hi => by rw [predsL_get hi, hp0 i hi]
    have hf : formOk (predsL insts) := formOk_of fun i hi => by
      rw [predsL_len] at hi
      rw [hg i hi]
      exact ⟨List.Pairwise.nil, fun p hp' => by cases hp'⟩
    rw [buildP_of (fun i hi => by rw [hp0 i hi]; rfl) (orderRes_full hf (by rw [ranksL_len, predsL_len]) (order_full hf (fun _ => 0) fun x h0 hx p hp' => by
      rw [predsL_len] at hx
      rw [hg x.toNat (by omega)] at hp'
      cases hp'))]
    rfl
  have := order_more (x := loneP text) hz (fun i hi => by rw [hp insts i hi, hp0 i hi]) (by rw [hl2]; rfl) (by rw [hl2]; exact ⟨allP_rise _ _, fun p hp' => by obtain ⟨k, hk, _, rfl⟩ := allP_mem.1 hp'; omega⟩)
  rw [hl2] at this
  exact ⟨predsL insts, predsL_len, this⟩
end
/-- By the law's own look: does a name begin with a job's and a bracket? -/
theorem preS_iff {name job : ByteArray} : preS name (job ++ ⟨#[91]⟩) = true ↔ job.size < name.size ∧ name.extract 0 (job.size + 1) = job ++ chB 91 := by
  unfold preS Lib.hasPrefix
  rw [List.isPrefixOf_iff_prefix, data_app]
  have hs : ∀ s : ByteArray, s.size = s.data.toList.length := fun s => by rw [Array.length_toList]; rfl
  have he : (name.extract 0 (job.size + 1)).data.toList = name.data.toList.take (job.size + 1) := Lib.extract_from_zero _ _
  constructor
  · intro h
    have hl := h.length_le
    rw [List.length_append, List.length_cons, List.length_nil] at hl
    refine ⟨by have h5 := hs name; have h6 := hs job; omega, ?_⟩
    rw [List.prefix_iff_eq_take] at h
    refine ByteArray.ext (Array.toList_inj.1 ?_)
    rw [he, data_app]
    rw [List.length_append] at h
    rw [show job.size + 1 = job.data.toList.length + [(91 : UInt8)].length from by rw [hs]; rfl]
    exact h.symm
  · rintro ⟨h1, h2⟩
    have h3 := congrArg (fun s : ByteArray => s.data.toList) h2
    simp only [he, data_app] at h3
    rw [show ([(91 : UInt8)]) = (chB 91).data.toList from rfl]
    show job.data.toList ++ (chB 91).data.toList <+: _
    rw [← h3]
    exact List.take_prefix _ _
end Go.Proofs.YtfnmcpgajjkemaaDoor
