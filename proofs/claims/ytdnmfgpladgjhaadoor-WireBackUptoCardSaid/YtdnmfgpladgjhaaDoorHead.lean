/- Drawn regions whose first n operations are walked each by itself, in whatever order, and whose rest goes on in one order. -/
import Derived.Test.YtdnmfgpladgjhaaDoorReg
import Derived.Test.YtdnmfgpladgjhaaDoorTail
namespace Go.Proofs.YtdnmfgpladgjhaaDoor
open Go Go.RowKit Go.Proofs.YtdnmfgpladgjhaaDoor.Gf
set_option linter.unusedVariables false
set_option linter.unusedSimpArgs false

def planOkN (ops : Array Oper) (plan : List (Nat × List Nat)) (n size : Nat) : Bool :=
  decide (n ≤ ops.size) && (plan.length == n) && (List.range n).all fun i =>
    match ops[i]?, plan[i]? with
    | some o, some p =>
      o.dst == some p.1 && decide (p.1 < size) && (match o.op with | .select .. => false | _ => true)
        && p.2 == depsOf o && p.2.all (fun j => decide (j < i))
        && (List.range n).all fun j => (j == i || dstIn plan j != p.1) && (p.2.contains j || !((o.looksAt ops).contains (dstIn plan j)))
    | _, _ => false
def headArr (n size : Nat) : Array Bool := ((List.range size).map fun j => decide (j < n)).toArray
/-- The rest follows, in one order. -/
def restOk (ops : Array Oper) (n : Nat) : Bool := (decide (n = ops.size) || (decide (n < ops.size) && Region.sinkB .any ops n && Region.chainB .any ops n)) && Region.seqB .any ops (ops.size - n) n (headArr n ops.size)

section
variable {R : World → World → Prop} {P : Program} {ops : Array Oper} {plan : List (Nat × List Nat)} {Φ : Nat → Value → World → Prop}

theorem planOkN_spec {n size : Nat} (h : planOkN ops plan n size = true) {i : Nat} (hi : i < n) :
    ∃ o p, ops[i]? = some o ∧ plan[i]? = some p ∧ o.dst = some p.1 ∧ p.1 = dstIn plan i ∧ p.1 < size ∧ (∀ cs b, o.op ≠ .select cs b) ∧ p.2 = depsOf o ∧ (∀ j ∈ p.2, j < i) ∧
      (∀ j, j < n → j ≠ i → dstIn plan j ≠ p.1) ∧ (∀ j, j < n → j ∉ p.2 → dstIn plan j ∉ o.looksAt ops) := by
  unfold planOkN at h
  rw [Bool.and_eq_true, List.all_eq_true] at h
  have hh := h.2 i (List.mem_range.2 hi)
  split at hh
  · rename_i o p ho hp
    simp only [Bool.and_eq_true, beq_iff_eq, decide_eq_true_eq, List.all_eq_true, List.mem_range, Bool.or_eq_true, bne_iff_ne, Bool.not_eq_true', List.contains_eq_mem, decide_eq_false_iff_not] at hh
    obtain ⟨⟨⟨⟨⟨h1, h2⟩, h3⟩, h4⟩, h5⟩, h6⟩ := hh
    refine ⟨o, p, ho, hp, h1, by simp [dstIn, hp], h2, fun cs b e => by simp [e] at h3, h4, h5, fun j hj hne => (h6 j hj).1.resolve_left hne, fun j hj hn => (h6 j hj).2.resolve_left hn⟩
  · cases hh
theorem planOkN_le {n size : Nat} (h : planOkN ops plan n size = true) : n ≤ ops.size := by
  unfold planOkN at h
  simp only [Bool.and_eq_true, decide_eq_true_eq] at h
  exact h.1.1

theorem count_one {n i : Nat} {listed : Array Bool} (hi : i < n) (hl : i < listed.size) (hf : listed.getD i false = false) :
    ((List.range n).countP fun j => !listed.getD j false) = ((List.range n).countP fun j => !(listed.setIfInBounds i true).getD j false) + 1 := by
  rw [List.countP_eq_length_filter, List.countP_eq_length_filter]
  have hm : i ∈ (List.range n).filter fun j => !listed.getD j false := List.mem_filter.2 ⟨List.mem_range.2 hi, by simp [hf]⟩
  have hnd : ((List.range n).filter fun j => !(listed.setIfInBounds i true).getD j false).Nodup := List.nodup_range.filter _
  have hni : i ∉ (List.range n).filter fun j => !(listed.setIfInBounds i true).getD j false := by
    simp [Array.getD_eq_getD_getElem?, hl]
  have hsub : (i :: (List.range n).filter fun j => !(listed.setIfInBounds i true).getD j false) ⊆ (List.range n).filter fun j => !listed.getD j false := by
    intro x hx
    rcases List.mem_cons.1 hx with rfl | hx
    · exact hm
    · obtain ⟨hx1, hx2⟩ := List.mem_filter.1 hx
      refine List.mem_filter.2 ⟨hx1, ?_⟩
      cases hc : listed.getD x false
      · rfl
      · rw [getD_set_true hc] at hx2; cases hx2
  have hsub2 : ((List.range n).filter fun j => !listed.getD j false) ⊆ (i :: (List.range n).filter fun j => !(listed.setIfInBounds i true).getD j false) := by
    intro x hx
    obtain ⟨hx1, hx2⟩ := List.mem_filter.1 hx
    by_cases hxi : x = i
    · subst hxi; exact List.mem_cons_self ..
    · refine List.mem_cons_of_mem _ (List.mem_filter.2 ⟨hx1, ?_⟩)
      rw [getD_set_ne false (Ne.symm hxi)]; exact hx2
  have a := (List.nodup_cons.2 ⟨hni, hnd⟩).length_le_of_subset hsub
  have hnd2 : ((List.range n).filter fun j => !listed.getD j false).Nodup := List.nodup_range.filter _
  have b := hnd2.length_le_of_subset hsub2
  simp only [List.length_cons] at a b
  omega

theorem wpAny_head (hpre : PreW R) {Q : Exit → Act → World → Prop} {a0 : Act} {w0 : World} (n : Nat) (hok : planOkN ops plan n a0.tmps.size = true) (hrest : restOk ops n = true)
    (hstab : ∀ j u w1 w2, R w1 w2 → Φ j u w1 → Φ j u w2)
    (hops : eachOpR R P ops plan Φ a0 w0 (ops.toList.take n) plan 0)
    (hend : ∀ w', Pk (R w0 w') → eachDep plan Φ w' (fun a' => wpList P ops Q (ops.toList.drop n) a' w') (List.range n) a0) :
    ∀ (c : Nat) (listed : Array Bool) (a : Act) (w : World), EachInv R ops plan Φ a0 w0 listed a w → HeadInv .any ops n listed → ((List.range n).countP fun j => !listed.getD j false) = c → wpAny P .any ops Q (c + (ops.size - n)) listed a w := by
  have spec := fun i hi => planOkN_spec (ops := ops) (plan := plan) hok (i := i) hi
  have hnle := planOkN_le hok
  simp only [restOk, Bool.and_eq_true, Bool.or_eq_true, decide_eq_true_eq] at hrest
  obtain ⟨htail, hseq⟩ := hrest
  have noTail : ∀ (listed : Array Bool), HeadInv .any ops n listed → ∀ i, i < n → listed.getD i false = false → ∀ t, t ∈ Region.ready .any ops listed → t < n := by
    intro listed inv i hi hf t ht
    rcases Nat.lt_or_ge t n with h | h
    · exact h
    · exfalso
      obtain ⟨_, o, ho, _⟩ := mem_ready.1 ht
      have htl : t < ops.size := (Array.getElem?_eq_some_iff.1 ho).1
      rcases htail with he | ⟨⟨hn, hs⟩, hc⟩
      · omega
      · exact tail_waits hs hc hn inv (n - i) i rfl hi (getD_in (by rw [inv.size]; omega) hf) t h ht
  have allOf : ∀ (listed : Array Bool), HeadInv .any ops n listed → (∀ t ∈ Region.ready .any ops listed, n ≤ t) → ∀ i, i < n → listed.getD i false = true := by
    intro listed inv hr i
    induction i using Nat.strongRecOn with
    | _ i ih =>
      intro hi
      by_cases hn : listed.getD i false = true
      · exact hn
      · exfalso
        obtain ⟨o, p, ho, hp, h1, h2, h3, h4, h5, h6, h7, h8⟩ := spec i hi
        have hlt : i < listed.size := by rw [inv.size]; omega
        have : i ∈ Region.ready .any ops listed := mem_ready.2 ⟨by
          simp only [Array.getD_eq_getD_getElem?, Array.getElem?_eq_getElem hlt, Option.getD_some] at hn ⊢
          simpa using hn, o, ho, fun e he hb => by
            have hm : e.on ∈ p.2 := by rw [h5]; exact List.mem_map.2 ⟨e, List.mem_filter.2 ⟨by simpa using he, hb⟩, rfl⟩
            exact ih e.on (h6 _ hm) (Nat.lt_trans (h6 _ hm) hi)⟩
        have := hr i this
        omega
  have fin : ∀ (listed : Array Bool) (a : Act) (w : World), EachInv R ops plan Φ a0 w0 listed a w → HeadInv .any ops n listed → (∀ i, i < n → listed.getD i false = true) → wpAny P .any ops Q (0 + (ops.size - n)) listed a w := by
    intro listed a w hI inv hall
    obtain ⟨a', hk, hd, hs, hin, hout⟩ := eachDep_use (plan := plan) (Φ := Φ) (fun t => a.tmps.getD t undef) (List.range n) a0 (hend w ⟨hI.below⟩) (fun j hj => by
      have hj' := List.mem_range.1 hj
      obtain ⟨o, p, ho, hp, h1, h2, h3, h4, h5, h6, h7, h8⟩ := spec j hj'
      exact ⟨by rw [← h2]; exact h3, hI.new j (hall j hj')⟩)
    have : a' = a := by
      obtain ⟨at', ad'⟩ := a'; obtain ⟨at0, ad0⟩ := a
      have h1 : at' = at0 := by
        apply Array.ext_getElem?
        intro t
        by_cases ht : ∃ j ∈ List.range n, dstIn plan j = t
        · rw [hin t ht]
          obtain ⟨j, hj, rfl⟩ := ht
          obtain ⟨o, p, ho, hp, h1, h2, h3, h4, h5, h6, h7, h8⟩ := spec j (List.mem_range.1 hj)
          have hlt : dstIn plan j < at0.size := by have := hI.size; simp only at this; rw [this, ← h2]; exact h3
          simp [Array.getD_eq_getD_getElem?, Array.getElem?_eq_getElem hlt]
        · rw [hout t (fun j hj e => ht ⟨j, hj, e⟩)]
          refine (hI.old t fun j hj e => ht ⟨j, ?_, e⟩).symm
          refine List.mem_range.2 ?_
          rcases Nat.lt_or_ge j n with h | h
          · exact h
          · exfalso
            have hjs : j < ops.size := by
              rcases Nat.lt_or_ge j listed.size with h | h
              · rw [← inv.size]; exact h
              · simp [Array.getD_eq_getD_getElem?, Array.getElem?_eq_none h] at hj
            have := getD_both (inv.tail j h hjs)
            rw [this] at hj; cases hj
      have h2 : ad' = ad0 := by have := hI.defers; simp only at this hd; rw [hd, this]
      subst h1; subst h2; rfl
    subst this
    have hle : listed = headArr n ops.size := by
      apply Array.ext
      · rw [inv.size]; simp [headArr]
      · intro j h1 h2
        have hjs : j < ops.size := by rw [← inv.size]; exact h1
        simp only [headArr, List.getElem_toArray, List.getElem_map, List.getElem_range]
        rcases Nat.lt_or_ge j n with h | h
        · have := hall j h
          simp only [Array.getD_eq_getD_getElem?, Array.getElem?_eq_getElem h1, Option.getD_some] at this
          rw [this]; simp [h]
        · have := getD_both (inv.tail j h hjs)
          simp only [Array.getD_eq_getD_getElem?, Array.getElem?_eq_getElem h1, Option.getD_some] at this
          rw [this]; simp; omega
    have hdl : (ops.toList.drop n).length = ops.size - n := by simp
    rw [Nat.zero_add, ← hdl]
    exact wpAny_of_seq (ops.toList.drop n) n listed _ w (fun j => by simp [List.getElem?_drop]) (by rw [hdl, hle]; exact hseq) hk
  intro c
  induction c with
  | zero =>
    intro listed a w hI inv hc
    refine fin listed a w hI inv fun i hi => ?_
    have := List.countP_eq_zero.1 hc i (List.mem_range.2 hi)
    simpa using this
  | succ c ih =>
    intro listed a w hI inv hc
    obtain ⟨i0, hi0, hf0⟩ : ∃ i0, i0 < n ∧ listed.getD i0 false = false := by
      have : 0 < (List.range n).countP fun j => !listed.getD j false := by omega
      obtain ⟨x, hx, hp⟩ := List.countP_pos_iff.1 this
      exact ⟨x, List.mem_range.1 hx, by simpa using hp⟩
    rw [show c + 1 + (ops.size - n) = (c + (ops.size - n)) + 1 by omega]
    refine ⟨fun hr => ?_, fun i hi => ?_⟩
    · exfalso
      have := allOf listed inv (fun t ht => by rw [hr] at ht; cases ht) i0 hi0
      rw [hf0] at this; cases this
    obtain ⟨hl, o', ho', hdeps⟩ := mem_ready.1 hi
    have hin := noTail listed inv i0 hi0 hf0 i hi
    have hlt : i < ops.size := by omega
    obtain ⟨o, p, ho, hp, h1, h2, h3, h4, h5, h6, h7, h8⟩ := spec i hin
    obtain rfl : o' = o := by rw [ho] at ho'; exact (Option.some.inj ho').symm
    have hltl : i < listed.size := by rw [hI.len]; exact hlt
    have hlf : listed.getD i false = false := by simpa [Array.getD_eq_getD_getElem?, Array.getElem?_eq_getElem hltl] using hl
    have hst := eachOp_get (ops.toList.take n) plan 0 i o' p hops (by rw [List.getElem?_take_of_lt hin]; simpa using ho) hp w ⟨hI.below⟩
    rw [Nat.zero_add] at hst
    have hdl : ∀ j ∈ p.2, listed.getD j false = true := fun j hj => by
      rw [h5] at hj
      obtain ⟨e, he, rfl⟩ := List.mem_map.1 hj
      obtain ⟨he1, he2⟩ := List.mem_filter.1 he
      exact hdeps e (by simpa using he1) he2
    have listedN : ∀ j, listed.getD j false = true → j < n := fun j hj => by
      rcases Nat.lt_or_ge j n with h | h
      · exact h
      · exfalso
        have hjs : j < ops.size := by
          rcases Nat.lt_or_ge j listed.size with h | h
          · rw [← inv.size]; exact h
          · simp [Array.getD_eq_getD_getElem?, Array.getElem?_eq_none h] at hj
        have := getD_both (inv.tail j h hjs)
        rw [this] at hj; cases hj
    obtain ⟨af, hk, hd, hs, hinn, hout⟩ := eachDep_use (plan := plan) (Φ := Φ) (fun t => a.tmps.getD t undef) p.2 a0 hst (fun j hj => by
      obtain ⟨_, q, _, hq, _, hq2, hq3, _⟩ := spec j (Nat.lt_trans (h6 j hj) hin)
      exact ⟨by rw [← hq2]; exact hq3, hI.new j (hdl j hj)⟩)
    refine step_use (af := af) ho h1 h4 (by rw [hs]; exact h3) (fun t ht => ?_) hk (fun v w' hpost => ?_)
    · by_cases hx : ∃ j ∈ p.2, dstIn plan j = t
      · rw [hinn t hx]
        obtain ⟨j, hj, rfl⟩ := hx
        obtain ⟨_, q, _, hq, _, hq2, hq3, _⟩ := spec j (Nat.lt_trans (h6 j hj) hin)
        have hlt2 : dstIn plan j < a.tmps.size := by rw [hI.size, ← hq2]; exact hq3
        simp [Array.getD_eq_getD_getElem?, Array.getElem?_eq_getElem hlt2]
      · rw [hout t (fun j hj e => hx ⟨j, hj, e⟩)]
        refine (hI.old t fun j hj e => ?_).symm
        exact h8 j (listedN j hj) (fun hm => hx ⟨j, hm, e⟩) (e ▸ ht)
    · obtain ⟨⟨hb⟩, hΦ⟩ := hpost
      have hset : ∀ j, (listed.setIfInBounds i true).getD j false = true → j ≠ i → listed.getD j false = true := fun j hj hne => by
        rwa [getD_set_ne false (Ne.symm hne)] at hj
      have hput : ∀ t, t ≠ p.1 → (a.put o'.dst v).tmps[t]? = a.tmps[t]? := fun t ht => by simp [h1, Act.put, Array.getElem?_setIfInBounds, Ne.symm ht]
      refine ih _ _ _ ⟨?_, ?_, ?_, fun t ht => ?_, fun j hj => ?_, hpre.trans hI.below hb⟩ (inv.set hi hin) (by have := count_one hin hltl hlf; omega)
      · rw [← hI.defers]; simp [h1, Act.put]
      · rw [← hI.size]; simp [h1, Act.put]
      · simp [hI.len]
      · have hti : t ≠ p.1 := fun e => ht i (by simp [Array.getD_eq_getD_getElem?, hltl]) (by rw [← h2]; exact e.symm)
        rw [hput t hti]
        exact hI.old t fun j hj => ht j (getD_set_true hj)
      · by_cases hji : j = i
        · subst hji
          have hlt2 : p.1 < a.tmps.size := by rw [hI.size]; exact h3
          rw [← h2]
          simpa [h1, Act.put, Array.getD_eq_getD_getElem?, hlt2] using hΦ
        · have hj' := hset j hj hji
          have := hstab _ _ _ _ hb (hI.new j hj')
          rwa [Array.getD_eq_getD_getElem?, ← hput _ (h7 j (listedN j hj') hji), ← Array.getD_eq_getD_getElem?] at this

theorem wp_region_head (R : World → World → Prop) (hpre : PreW R) {id : Nat} {a : Act} {w : World} {Q : Exit → Act → World → Prop} (n : Nat) (plan : List (Nat × List Nat)) (l : List (Value → World → Prop)) (hm : P.follows .mixedOrders = true)
    (hok : planOkN ops plan n a.tmps.size = true) (hrest : restOk ops n = true) (hstab : allStable R l)
    (hops : eachOpR R P ops plan (phi l) a w (ops.toList.take n) plan 0)
    (hend : ∀ w', Pk (R w w') → eachDep plan (phi l) w' (fun a' => wpList P ops Q (ops.toList.drop n) a' w') (List.range n) a) : (Code.region id ops true).wp P Q a w := by
  have hnle := planOkN_le hok
  have hsz : n + (ops.size - n) = ops.size := by omega
  refine wp_region_any hm ?_
  have key := wpAny_head (w0 := w) (Q := Q) hpre n hok hrest (fun j u w1 w2 hb h => phi_stable l hstab j u w1 w2 hb h) hops hend n (Array.replicate ops.size false) a { w with drawn := w.drawn + 1 }
    ⟨rfl, rfl, by simp, fun t _ => rfl, fun j hj => (by rw [getD_replicate_false] at hj; cases hj), hpre.drew _⟩
    ⟨by simp, fun j oj _ hl => (by rw [getD_replicate_false] at hl; cases hl), fun t _ ht => getD_in (by simpa using ht) (getD_replicate_false _ _)⟩ (by
      have : ((List.range n).countP fun j => !(Array.replicate ops.size false).getD j false) = (List.range n).length := by
        rw [List.countP_eq_length]
        intro j _
        rw [getD_replicate_false]; rfl
      rw [this, List.length_range])
  rw [hsz] at key
  exact key
end
end Go.Proofs.YtdnmfgpladgjhaaDoor
