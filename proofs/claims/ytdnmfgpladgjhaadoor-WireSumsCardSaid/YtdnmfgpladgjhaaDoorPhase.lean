/- Drawn regions in phases: the operations from n0 to n are walked each by itself, in whatever order; behind them all, the next phase. -/
import Derived.Test.YtdnmfgpladgjhaaDoorHead
namespace Go.Proofs.YtdnmfgpladgjhaaDoor
open Go Go.RowKit Go.Proofs.YtdnmfgpladgjhaaDoor.Gf
set_option linter.unusedVariables false
set_option linter.unusedSimpArgs false

def depsAt (ops : Array Oper) (t : Nat) : List Nat := match ops[t]? with
  | some o => depsOf o
  | none => []
/-- All that an operation waits for. -/
def anc (ops : Array Oper) (t : Nat) : List Nat := ((List.range t).reverse).foldl (fun m j => if m.contains j then m ++ depsAt ops j else m) (depsAt ops t)
/-- All behind n wait for all before n. -/
def restAll (ops : Array Oper) (n : Nat) : Bool := (List.range ops.size).all fun t => decide (t < n) || (List.range n).all (anc ops t).contains
def planOkP (ops : Array Oper) (plan : List (Nat × List Nat)) (n0 n size : Nat) : Bool :=
  decide (n0 ≤ n) && decide (n ≤ ops.size) && (plan.length == n) && ((List.range ops.size).all fun i => (depsAt ops i).all fun j => decide (j < i)) && (List.range n).all fun i => decide (i < n0) ||
    match ops[i]?, plan[i]? with
    | some o, some p =>
      o.dst == some p.1 && decide (p.1 < size) && (match o.op with | .select .. => false | _ => true)
        && p.2 == (depsOf o).filter (fun j => decide (n0 ≤ j))
        && (List.range n).all fun j => decide (j < n0) || ((j == i || dstIn plan j != p.1) && (p.2.contains j || !((o.looksAt ops).contains (dstIn plan j))))
    | _, _ => false

section
variable {R : World → World → Prop} {P : Program} {ops : Array Oper} {plan : List (Nat × List Nat)} {Φ : Nat → Value → World → Prop} {n0 : Nat}

theorem planOkP_le {n size : Nat} (h : planOkP ops plan n0 n size = true) : n0 ≤ n ∧ n ≤ ops.size := by
  unfold planOkP at h
  simp only [Bool.and_eq_true, decide_eq_true_eq] at h
  exact ⟨h.1.1.1.1, h.1.1.1.2⟩
theorem planOkP_lt {n size : Nat} (h : planOkP ops plan n0 n size = true) {i : Nat} {o : Oper} (ho : ops[i]? = some o) : ∀ j ∈ depsOf o, j < i := by
  unfold planOkP at h
  simp only [Bool.and_eq_true, decide_eq_true_eq, List.all_eq_true, List.mem_range] at h
  have := h.1.2 i (Array.getElem?_eq_some_iff.1 ho).1
  simpa [depsAt, ho] using this
theorem planOkP_spec {n size : Nat} (h : planOkP ops plan n0 n size = true) {i : Nat} (h0 : n0 ≤ i) (hi : i < n) :
    ∃ o p, ops[i]? = some o ∧ plan[i]? = some p ∧ o.dst = some p.1 ∧ p.1 = dstIn plan i ∧ p.1 < size ∧ (∀ cs b, o.op ≠ .select cs b) ∧ p.2 = (depsOf o).filter (fun j => decide (n0 ≤ j)) ∧
      (∀ j, n0 ≤ j → j < n → j ≠ i → dstIn plan j ≠ p.1) ∧ (∀ j, n0 ≤ j → j < n → j ∉ p.2 → dstIn plan j ∉ o.looksAt ops) := by
  unfold planOkP at h
  rw [Bool.and_eq_true, List.all_eq_true] at h
  have hh := h.2 i (List.mem_range.2 hi)
  rw [Bool.or_eq_true, decide_eq_true_eq] at hh
  have hh := hh.resolve_left (by omega)
  split at hh
  · rename_i o p ho hp
    simp only [Bool.and_eq_true, beq_iff_eq, decide_eq_true_eq, List.all_eq_true, List.mem_range, Bool.or_eq_true, bne_iff_ne, Bool.not_eq_true', List.contains_eq_mem, decide_eq_false_iff_not] at hh
    obtain ⟨⟨⟨⟨h1, h2⟩, h3⟩, h4⟩, h6⟩ := hh
    refine ⟨o, p, ho, hp, h1, by simp [dstIn, hp], h2, fun cs b e => by simp [e] at h3, h4, fun j h0 hj hne => ?_, fun j h0 hj hn => ?_⟩
    · exact ((h6 j hj).resolve_left (by omega)).1.resolve_left hne
    · exact ((h6 j hj).resolve_left (by omega)).2.resolve_left hn
  · cases hh

theorem anc_listed {listed : Array Bool} (hc : ∀ j oj, ops[j]? = some oj → listed.getD j false = true → ∀ e ∈ oj.after, Region.binds .any e = true → listed.getD e.on false = true) {t : Nat}
    (ht : ∀ j ∈ depsAt ops t, listed.getD j false = true) : ∀ j ∈ anc ops t, listed.getD j false = true := by
  unfold anc
  generalize (List.range t).reverse = l
  generalize depsAt ops t = m at ht
  induction l generalizing m with
  | nil => exact ht
  | cons x l ih =>
    rw [List.foldl_cons]
    refine ih _ ?_
    split
    · rename_i hx
      intro j hj
      rcases List.mem_append.1 hj with hj | hj
      · exact ht j hj
      · have hlx := ht x (by simpa using hx)
        unfold depsAt at hj
        split at hj
        · rename_i o ho
          obtain ⟨e, he, rfl⟩ := List.mem_map.1 hj
          obtain ⟨he1, he2⟩ := List.mem_filter.1 he
          exact hc x o ho hlx e (by simpa using he1) he2
        · cases hj
    · exact ht

structure EachInvP (n0 : Nat) (R : World → World → Prop) (ops : Array Oper) (plan : List (Nat × List Nat)) (Φ : Nat → Value → World → Prop) (a0 : Act) (w0 : World) (listed : Array Bool) (a : Act) (w : World) : Prop where
  defers : a.defers = a0.defers
  size : a.tmps.size = a0.tmps.size
  len : listed.size = ops.size
  base : ∀ j, j < n0 → listed.getD j false = true
  old : ∀ t, (∀ j, n0 ≤ j → listed.getD j false = true → dstIn plan j ≠ t) → a.tmps[t]? = a0.tmps[t]?
  new : ∀ j, n0 ≤ j → listed.getD j false = true → Φ j (a.tmps.getD (dstIn plan j) undef) w
  below : R w0 w

theorem wpAny_phase0 (hpre : PreW R) {Q : Exit → Act → World → Prop} {a0 : Act} {w0 : World} (n : Nat) (hok : planOkP ops plan n0 n a0.tmps.size = true) (hrest : restAll ops n = true)
    (hstab : ∀ j u w1 w2, R w1 w2 → Φ j u w1 → Φ j u w2)
    (hops : eachOpR R P ops plan Φ a0 w0 ((ops.toList.take n).drop n0) (plan.drop n0) n0)
    (hend : ∀ w', Pk (R w0 w') → eachDep plan Φ w' (fun a' => wpAny P .any ops Q (ops.size - n) (headArr n ops.size) a' w') (List.range' n0 (n - n0)) a0) :
    ∀ (c : Nat) (listed : Array Bool) (a : Act) (w : World), EachInvP n0 R ops plan Φ a0 w0 listed a w → HeadInv .any ops n listed → ((List.range n).countP fun j => !listed.getD j false) = c → wpAny P .any ops Q (c + (ops.size - n)) listed a w := by
  have spec := fun i h0 hi => planOkP_spec (ops := ops) (plan := plan) hok (i := i) h0 hi
  obtain ⟨hn0, hnle⟩ := planOkP_le hok
  have noTail : ∀ (listed : Array Bool), HeadInv .any ops n listed → ∀ i, i < n → listed.getD i false = false → ∀ t, t ∈ Region.ready .any ops listed → t < n := by
    intro listed inv i hi hf t ht
    rcases Nat.lt_or_ge t n with h | h
    · exact h
    · exfalso
      obtain ⟨_, o, ho, hd⟩ := mem_ready.1 ht
      have htl : t < ops.size := (Array.getElem?_eq_some_iff.1 ho).1
      unfold restAll at hrest
      have h1 := List.all_eq_true.1 hrest t (List.mem_range.2 htl)
      rw [Bool.or_eq_true, decide_eq_true_eq] at h1
      have h2 := List.all_eq_true.1 (h1.resolve_left (by omega)) i (List.mem_range.2 hi)
      have h3 := anc_listed inv.closed (t := t) (by
        intro j hj
        simp only [depsAt, ho] at hj
        obtain ⟨e, he, rfl⟩ := List.mem_map.1 hj
        obtain ⟨he1, he2⟩ := List.mem_filter.1 he
        exact hd e (by simpa using he1) he2) i (by simpa using h2)
      rw [h3] at hf; cases hf
  have allOf : ∀ (listed : Array Bool), HeadInv .any ops n listed → (∀ t ∈ Region.ready .any ops listed, n ≤ t) → ∀ i, i < n → listed.getD i false = true := by
    intro listed inv hr i
    induction i using Nat.strongRecOn with
    | _ i ih =>
      intro hi
      by_cases hn : listed.getD i false = true
      · exact hn
      · exfalso
        have hlt : i < listed.size := by rw [inv.size]; omega
        have hos : i < ops.size := by omega
        have ho : ops[i]? = some ops[i] := Array.getElem?_eq_getElem hos
        have : i ∈ Region.ready .any ops listed := mem_ready.2 ⟨by
          simp only [Array.getD_eq_getD_getElem?, Array.getElem?_eq_getElem hlt, Option.getD_some] at hn ⊢
          simpa using hn, ops[i], ho, fun e he hb => by
            have hm : e.on < i := planOkP_lt hok ho _ (List.mem_map.2 ⟨e, List.mem_filter.2 ⟨by simpa using he, hb⟩, rfl⟩)
            exact ih e.on hm (Nat.lt_trans hm hi)⟩
        have := hr i this
        omega
  have listedLt : ∀ (listed : Array Bool), HeadInv .any ops n listed → ∀ j, listed.getD j false = true → j < n := fun listed inv j hj => by
    rcases Nat.lt_or_ge j n with h | h
    · exact h
    · exfalso
      have hjs : j < ops.size := by
        rcases Nat.lt_or_ge j listed.size with h | h
        · rw [← inv.size]; exact h
        · simp [Array.getD_eq_getD_getElem?, Array.getElem?_eq_none h] at hj
      have := getD_both (inv.tail j h hjs)
      rw [this] at hj; cases hj
  have fin : ∀ (listed : Array Bool) (a : Act) (w : World), EachInvP n0 R ops plan Φ a0 w0 listed a w → HeadInv .any ops n listed → (∀ i, i < n → listed.getD i false = true) → wpAny P .any ops Q (0 + (ops.size - n)) listed a w := by
    intro listed a w hI inv hall
    have hmem : ∀ j, j ∈ List.range' n0 (n - n0) ↔ n0 ≤ j ∧ j < n := fun j => by rw [List.mem_range'_1]; omega
    obtain ⟨a', hk, hd, hs, hin, hout⟩ := eachDep_use (plan := plan) (Φ := Φ) (fun t => a.tmps.getD t undef) (List.range' n0 (n - n0)) a0 (hend w ⟨hI.below⟩) (fun j hj => by
      obtain ⟨hj0, hj'⟩ := (hmem j).1 hj
      obtain ⟨o, p, ho, hp, h1, h2, h3, h4, h5, h7, h8⟩ := spec j hj0 hj'
      exact ⟨by rw [← h2]; exact h3, hI.new j hj0 (hall j hj')⟩)
    have : a' = a := by
      obtain ⟨at', ad'⟩ := a'; obtain ⟨at0, ad0⟩ := a
      have h1 : at' = at0 := by
        apply Array.ext_getElem?
        intro t
        by_cases ht : ∃ j ∈ List.range' n0 (n - n0), dstIn plan j = t
        · rw [hin t ht]
          obtain ⟨j, hj, rfl⟩ := ht
          obtain ⟨hj0, hj'⟩ := (hmem j).1 hj
          obtain ⟨o, p, ho, hp, h1, h2, h3, h4, h5, h7, h8⟩ := spec j hj0 hj'
          have hlt : dstIn plan j < at0.size := by have := hI.size; simp only at this; rw [this, ← h2]; exact h3
          simp [Array.getD_eq_getD_getElem?, Array.getElem?_eq_getElem hlt]
        · rw [hout t (fun j hj e => ht ⟨j, hj, e⟩)]
          exact (hI.old t fun j h0 hj e => ht ⟨j, (hmem j).2 ⟨h0, listedLt listed inv j hj⟩, e⟩).symm
      have h2 : ad' = ad0 := by have := hI.defers; simp only at this hd; rw [hd, this]
      subst h1; subst h2; rfl
    subst this
    have hle : listed = headArr n ops.size := by
      apply Array.ext
      · rw [inv.size]; simp [headArr]
      · intro j h1 h2
        have hjs : j < ops.size := by rw [← inv.size]; exact h1
        simp only [headArr, List.getElem_toArray, List.getElem_map, List.getElem_range]
        rcases Nat.lt_or_ge j n with h | h
        · have := hall j h
          simp only [Array.getD_eq_getD_getElem?, Array.getElem?_eq_getElem h1, Option.getD_some] at this
          rw [this]; simp [h]
        · have := getD_both (inv.tail j h hjs)
          simp only [Array.getD_eq_getD_getElem?, Array.getElem?_eq_getElem h1, Option.getD_some] at this
          rw [this]; simp; omega
    rw [Nat.zero_add, hle]
    exact hk
  intro c
  induction c with
  | zero =>
    intro listed a w hI inv hc
    refine fin listed a w hI inv fun i hi => ?_
    have := List.countP_eq_zero.1 hc i (List.mem_range.2 hi)
    simpa using this
  | succ c ih =>
    intro listed a w hI inv hc
    obtain ⟨i0, hi0, hf0⟩ : ∃ i0, i0 < n ∧ listed.getD i0 false = false := by
      have : 0 < (List.range n).countP fun j => !listed.getD j false := by omega
      obtain ⟨x, hx, hp⟩ := List.countP_pos_iff.1 this
      exact ⟨x, List.mem_range.1 hx, by simpa using hp⟩
    rw [show c + 1 + (ops.size - n) = (c + (ops.size - n)) + 1 by omega]
    refine ⟨fun hr => ?_, fun i hi => ?_⟩
    · exfalso
      have := allOf listed inv (fun t ht => by rw [hr] at ht; cases ht) i0 hi0
      rw [hf0] at this; cases this
    obtain ⟨hl, o', ho', hdeps⟩ := mem_ready.1 hi
    have hin := noTail listed inv i0 hi0 hf0 i hi
    have hlt : i < ops.size := by omega
    have hltl : i < listed.size := by rw [hI.len]; exact hlt
    have hlf : listed.getD i false = false := by simpa [Array.getD_eq_getD_getElem?, Array.getElem?_eq_getElem hltl] using hl
    have h0i : n0 ≤ i := by
      rcases Nat.lt_or_ge i n0 with h | h
      · have := hI.base i h; rw [hlf] at this; cases this
      · exact h
    obtain ⟨o, p, ho, hp, h1, h2, h3, h4, h5, h7, h8⟩ := spec i h0i hin
    obtain rfl : o' = o := by rw [ho] at ho'; exact (Option.some.inj ho').symm
    have hst := eachOp_get ((ops.toList.take n).drop n0) (plan.drop n0) n0 (i - n0) o' p hops (by rw [List.getElem?_drop, show n0 + (i - n0) = i by omega, List.getElem?_take_of_lt hin]; simpa using ho) (by rw [List.getElem?_drop, show n0 + (i - n0) = i by omega]; exact hp) w ⟨hI.below⟩
    rw [show n0 + (i - n0) = i by omega] at hst
    have hdl : ∀ j ∈ p.2, n0 ≤ j ∧ listed.getD j false = true := fun j hj => by
      rw [h5] at hj
      obtain ⟨hj1, hj2⟩ := List.mem_filter.1 hj
      obtain ⟨e, he, rfl⟩ := List.mem_map.1 hj1
      obtain ⟨he1, he2⟩ := List.mem_filter.1 he
      exact ⟨by simpa using hj2, hdeps e (by simpa using he1) he2⟩
    obtain ⟨af, hk, hd, hs, hinn, hout⟩ := eachDep_use (plan := plan) (Φ := Φ) (fun t => a.tmps.getD t undef) p.2 a0 hst (fun j hj => by
      obtain ⟨hj0, hjl⟩ := hdl j hj
      obtain ⟨_, q, _, hq, _, hq2, hq3, _⟩ := spec j hj0 (listedLt listed inv j hjl)
      exact ⟨by rw [← hq2]; exact hq3, hI.new j hj0 hjl⟩)
    refine step_use (af := af) ho h1 h4 (by rw [hs]; exact h3) (fun t ht => ?_) hk (fun v w' hpost => ?_)
    · by_cases hx : ∃ j ∈ p.2, dstIn plan j = t
      · rw [hinn t hx]
        obtain ⟨j, hj, rfl⟩ := hx
        obtain ⟨hj0, hjl⟩ := hdl j hj
        obtain ⟨_, q, _, hq, _, hq2, hq3, _⟩ := spec j hj0 (listedLt listed inv j hjl)
        have hlt2 : dstIn plan j < a.tmps.size := by rw [hI.size, ← hq2]; exact hq3
        simp [Array.getD_eq_getD_getElem?, Array.getElem?_eq_getElem hlt2]
      · rw [hout t (fun j hj e => hx ⟨j, hj, e⟩)]
        refine (hI.old t fun j h0 hj e => ?_).symm
        exact h8 j h0 (listedLt listed inv j hj) (fun hm => hx ⟨j, hm, e⟩) (e ▸ ht)
    · obtain ⟨⟨hb⟩, hΦ⟩ := hpost
      have hset : ∀ j, (listed.setIfInBounds i true).getD j false = true → j ≠ i → listed.getD j false = true := fun j hj hne => by
        rwa [getD_set_ne false (Ne.symm hne)] at hj
      have hput : ∀ t, t ≠ p.1 → (a.put o'.dst v).tmps[t]? = a.tmps[t]? := fun t ht => by simp [h1, Act.put, Array.getElem?_setIfInBounds, Ne.symm ht]
      refine ih _ _ _ ⟨?_, ?_, ?_, fun j hj => getD_set_true (hI.base j hj), fun t ht => ?_, fun j h0 hj => ?_, hpre.trans hI.below hb⟩ (inv.set hi hin) (by have := count_one hin hltl hlf; omega)
      · rw [← hI.defers]; simp [h1, Act.put]
      · rw [← hI.size]; simp [h1, Act.put]
      · simp [hI.len]
      · have hti : t ≠ p.1 := fun e => ht i h0i (by simp [Array.getD_eq_getD_getElem?, hltl]) (by rw [← h2]; exact e.symm)
        rw [hput t hti]
        exact hI.old t fun j h0 hj => ht j h0 (getD_set_true hj)
      · by_cases hji : j = i
        · subst hji
          have hlt2 : p.1 < a.tmps.size := by rw [hI.size]; exact h3
          rw [← h2]
          simpa [h1, Act.put, Array.getD_eq_getD_getElem?, hlt2] using hΦ
        · have hj' := hset j hj hji
          have := hstab _ _ _ _ hb (hI.new j h0 hj')
          rwa [Array.getD_eq_getD_getElem?, ← hput _ (h7 j h0 (listedLt listed inv j hj') hji), ← Array.getD_eq_getD_getElem?] at this

theorem headArr_get {n size j : Nat} : (headArr n size).getD j false = decide (j < n ∧ j < size) := by
  unfold headArr
  rw [Array.getD_eq_getD_getElem?]
  simp only [List.getElem?_toArray, List.getElem?_map]
  rcases Nat.lt_or_ge j size with h | h
  · rw [List.getElem?_range h]; simp [h]
  · rw [List.getElem?_eq_none (by simpa using h)]; simp; omega
theorem headArr_count {n0 size : Nat} : ∀ n, n0 ≤ n → n ≤ size → ((List.range n).countP fun j => !(headArr n0 size).getD j false) = n - n0
  | 0, h, _ => by simp
  | n + 1, h, hs => by
    rw [List.range_succ, List.countP_append]
    rcases Nat.lt_or_ge n n0 with hn | hn
    · have h0 : n0 = n + 1 := by omega
      have : ((List.range n).countP fun j => !(headArr n0 size).getD j false) = 0 := List.countP_eq_zero.2 fun j hj => by
        rw [headArr_get]
        have := List.mem_range.1 hj
        simp; omega
      rw [this]
      have h1 : (headArr n0 size).getD n false = true := by rw [headArr_get, decide_eq_true_eq]; omega
      simp only [List.countP_cons, List.countP_nil, h1]
      simp; omega
    · rw [headArr_count n hn (by omega)]
      have h1 : (headArr n0 size).getD n false = false := by rw [headArr_get, decide_eq_false_iff_not]; omega
      have : List.countP (fun j => !(headArr n0 size).getD j false) [n] = 1 := by simp only [List.countP_cons, List.countP_nil, h1]; rfl
      rw [this]; omega

/-- The next phase. -/
theorem wpAny_phase (R : World → World → Prop) (hpre : PreW R) {Q : Exit → Act → World → Prop} {a : Act} {w : World} (n0 n : Nat) (plan : List (Nat × List Nat)) (l : List (Value → World → Prop)) (hok : planOkP ops plan n0 n a.tmps.size = true) (hrest : restAll ops n = true) (hstab : allStable R l)
    (hops : eachOpR R P ops plan (phi l) a w ((ops.toList.take n).drop n0) (plan.drop n0) n0)
    (hend : ∀ w', Pk (R w w') → eachDep plan (phi l) w' (fun a' => wpAny P .any ops Q (ops.size - n) (headArr n ops.size) a' w') (List.range' n0 (n - n0)) a) : wpAny P .any ops Q (ops.size - n0) (headArr n0 ops.size) a w := by
  obtain ⟨hn0, hnle⟩ := planOkP_le hok
  have key := wpAny_phase0 (w0 := w) (Q := Q) hpre n hok hrest (fun j u w1 w2 hb h => phi_stable l hstab j u w1 w2 hb h) hops hend (n - n0) (headArr n0 ops.size) a w
    ⟨rfl, rfl, by simp [headArr], fun j hj => by rw [headArr_get]; simp; omega, fun t _ => rfl, fun j h0 hj => (by rw [headArr_get] at hj; simp at hj; omega), hpre.refl _⟩
    ⟨by simp [headArr], fun j oj ho hl e he hb => (by
      rw [headArr_get] at hl ⊢
      have := planOkP_lt hok ho e.on (List.mem_map.2 ⟨e, List.mem_filter.2 ⟨by simpa using he, hb⟩, rfl⟩)
      simp at hl ⊢; omega), fun t h1 h2 => getD_in (by simpa [headArr] using h2) (by rw [headArr_get]; simp; omega)⟩ (headArr_count n hn0 hnle)
  rw [show n - n0 + (ops.size - n) = ops.size - n0 by omega] at key
  exact key
/-- The first phase. -/
theorem wp_region_phase (R : World → World → Prop) (hpre : PreW R) {id : Nat} {a : Act} {w : World} {Q : Exit → Act → World → Prop} (n : Nat) (plan : List (Nat × List Nat)) (l : List (Value → World → Prop)) (hm : P.follows .mixedOrders = true)
    (hok : planOkP ops plan 0 n a.tmps.size = true) (hrest : restAll ops n = true) (hstab : allStable R l)
    (hops : eachOpR R P ops plan (phi l) a w ((ops.toList.take n).drop 0) (plan.drop 0) 0)
    (hend : ∀ w', Pk (R w w') → eachDep plan (phi l) w' (fun a' => wpAny P .any ops Q (ops.size - n) (headArr n ops.size) a' w') (List.range' 0 (n - 0)) a) : (Code.region id ops true).wp P Q a w := by
  obtain ⟨_, hnle⟩ := planOkP_le hok
  refine wp_region_any hm ?_
  have key := wpAny_phase0 (n0 := 0) (w0 := w) (Q := Q) hpre n hok hrest (fun j u w1 w2 hb h => phi_stable l hstab j u w1 w2 hb h) hops hend n (Array.replicate ops.size false) a { w with drawn := w.drawn + 1 }
    ⟨rfl, rfl, by simp, fun j hj => by omega, fun t _ => rfl, fun j _ hj => (by rw [getD_replicate_false] at hj; cases hj), hpre.drew _⟩
    ⟨by simp, fun j oj _ hl => (by rw [getD_replicate_false] at hl; cases hl), fun t _ ht => getD_in (by simpa using ht) (getD_replicate_false _ _)⟩ (by
      have : ((List.range n).countP fun j => !(Array.replicate ops.size false).getD j false) = (List.range n).length := by
        rw [List.countP_eq_length]
        intro j _
        rw [getD_replicate_false]; rfl
      rw [this, List.length_range])
  rw [show n + (ops.size - n) = ops.size by omega] at key
  exact key
/-- All is listed. -/
theorem wpAny_done {Q : Exit → Act → World → Prop} {a : Act} {w : World} {n : Nat} (hn : n = ops.size) (hr : (Region.ready .any ops (headArr n ops.size)).isEmpty = true) (h : Q .normal a w) : wpAny P .any ops Q (ops.size - n) (headArr n ops.size) a w := by
  have := wpAny_of_seq (P := P) (ops := ops) (Q' := Q) [] n (headArr n ops.size) a w (fun j => by simp [hn]) (by simpa [Region.seqB] using hr) h
  rw [show ops.size - n = 0 by omega]
  exact this
end
end Go.Proofs.YtdnmfgpladgjhaaDoor
