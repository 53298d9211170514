/- Drawn regions whose operations only make memory: each operation is walked by itself, once, whatever order is drawn. -/
import Derived.Test.YtdnmfgpladgjhaaDoorMem
import Derived.Orders
import Derived.Deep.RegionHeld3
namespace Go.Proofs.YtdnmfgpladgjhaaDoor
open Go Go.RowKit Go.Proofs.YtdnmfgpladgjhaaDoor.Gf
set_option linter.unusedVariables false
set_option linter.unusedSimpArgs false

def depsOf (o : Oper) : List Nat := (o.after.toList.filter (Region.binds .any)).map (·.on)
def planOf (ops : Array Oper) : List (Nat × List Nat) := ops.toList.map fun o => (o.dst.getD 0, depsOf o)
def dstIn (plan : List (Nat × List Nat)) (j : Nat) : Nat := (plan.map (·.1)).getD j 0

/-- The plan fits: each operation yields into a slot of its own, looks only at slots of operations that it is bound behind, and is bound behind earlier ones. -/
def planOk (ops : Array Oper) (plan : List (Nat × List Nat)) (n : Nat) : Bool :=
  plan.length == ops.size && (List.range ops.size).all fun i =>
    match ops[i]?, plan[i]? with
    | some o, some p =>
      o.dst == some p.1 && decide (p.1 < n) && (match o.op with | .select .. => false | _ => true)
        && p.2 == depsOf o && p.2.all (fun j => decide (j < i))
        && (List.range ops.size).all fun j => (j == i || dstIn plan j != p.1) && (p.2.contains j || !((o.looksAt ops).contains (dstIn plan j)))
    | _, _ => false

def eachDep (plan : List (Nat × List Nat)) (Φ : Nat → Value → World → Prop) (w : World) (k : Act → Prop) : List Nat → Act → Prop
  | [], a => k a
  | j :: js, a => ∀ v, Φ j v w → eachDep plan Φ w k js (a.put (some (dstIn plan j)) v)

def Step (P : Program) (ops : Array Oper) (o : Oper) (d : Nat) (a : Act) (w : World) (post : Value → World → Prop) : Prop :=
  ∀ R : Value → List Deferred → World → Prop, (∀ v w', post v w' → R v a.defers w') →
    if Region.wanted o (yielded ops a.tmps) then o.wp P a w (fun a' w' => R (a'.tmps.getD d undef) a'.defers w') (fun _ _ _ => False) else R undef a.defers w

/-- What may become of a world meanwhile: an order that draws and new memory keep. -/
structure PreW (R : World → World → Prop) : Prop where
  refl : ∀ w, R w w
  trans : ∀ {a b c}, R a b → R b c → R a c
  drew : ∀ w, R w { w with drawn := w.drawn + 1 }
  alloc : ∀ w o, R w (w.alloc o)
def belowR : World → World → Prop := fun w w' => Below w.heap.size w w'
theorem belowPre : PreW belowR where
  refl := fun w => Below.refl _ _
  trans := fun h k => Below.trans h (Below.mono k (Below.size h))
  drew := fun w => (Below.refl _ _).drew
  alloc := fun w o => (Below.refl _ _).alloc (Nat.le_refl _) _

def eachOpR (R : World → World → Prop) (P : Program) (ops : Array Oper) (plan : List (Nat × List Nat)) (Φ : Nat → Value → World → Prop) (a : Act) (w0 : World) : List Oper → List (Nat × List Nat) → Nat → Prop
  | o :: os, p :: ps, i => (∀ w, Pk (R w0 w) → eachDep plan Φ w (fun af => Step P ops o p.1 af w (fun v w' => Pk (R w w') ∧ Φ i v w')) p.2 a)
      ∧ eachOpR R P ops plan Φ a w0 os ps (i + 1)
  | _, _, _ => True

section
variable {R : World → World → Prop} {P : Program} {ops : Array Oper} {plan : List (Nat × List Nat)} {Φ : Nat → Value → World → Prop}

theorem eachOp_get {a : Act} {w0 : World} : ∀ (os : List Oper) (ps : List (Nat × List Nat)) (i k : Nat) (o : Oper) (p : Nat × List Nat), eachOpR R P ops plan Φ a w0 os ps i → os[k]? = some o → ps[k]? = some p →
    ∀ w, Pk (R w0 w) → eachDep plan Φ w (fun af => Step P ops o p.1 af w (fun v w' => Pk (R w w') ∧ Φ (i + k) v w')) p.2 a
  | [], _, _, _, _, _, _, ho, _ => by simp at ho
  | _ :: _, [], _, _, _, _, _, _, hp => by simp at hp
  | o' :: os, p' :: ps, i, 0, o, p, h, ho, hp => by
    simp only [List.getElem?_cons_zero, Option.some.injEq] at ho hp
    subst ho; subst hp
    exact h.1
  | o' :: os, p' :: ps, i, k + 1, o, p, h, ho, hp => by
    have := eachOp_get os ps (i + 1) k o p h.2 (by simpa using ho) (by simpa using hp)
    rwa [show i + 1 + k = i + (k + 1) by omega] at this

/-- A frame that agrees where it must. -/
theorem eachDep_use {w : World} {k : Act → Prop} (u : Nat → Value) : ∀ (js : List Nat) (a : Act), eachDep plan Φ w k js a → (∀ j ∈ js, dstIn plan j < a.tmps.size ∧ Φ j (u (dstIn plan j)) w) →
    ∃ a', k a' ∧ a'.defers = a.defers ∧ a'.tmps.size = a.tmps.size ∧ (∀ t, (∃ j ∈ js, dstIn plan j = t) → a'.tmps[t]? = some (u t)) ∧ (∀ t, (∀ j ∈ js, dstIn plan j ≠ t) → a'.tmps[t]? = a.tmps[t]?)
  | [], a, h, _ => ⟨a, h, rfl, rfl, fun t ⟨j, hj, _⟩ => by simp at hj, fun _ _ => rfl⟩
  | j :: js, a, h, hu => by
    obtain ⟨hlt, hj⟩ := hu j (by simp)
    obtain ⟨a', hk, hd, hs, hin, hout⟩ := eachDep_use u js _ (h _ hj) (fun j' hj' => by
      have := hu j' (by simp [hj'])
      simpa [Act.put] using this)
    refine ⟨a', hk, by simpa [Act.put] using hd, by simpa [Act.put] using hs, fun t ht => ?_, fun t ht => ?_⟩
    · by_cases he : ∃ j' ∈ js, dstIn plan j' = t
      · exact hin t he
      · obtain ⟨j', hj', rfl⟩ := ht
        rw [hout _ (fun j'' hj'' e => he ⟨j'', hj'', e⟩)]
        rcases List.mem_cons.1 hj' with rfl | hj'
        · simp [Act.put, Array.getElem?_setIfInBounds, hlt]
        · exact absurd ⟨j', hj', rfl⟩ he
    · rw [hout t (fun j' hj' => ht j' (by simp [hj']))]
      simp [Act.put, Array.getElem?_setIfInBounds, ht j (by simp)]

theorem step_use {o : Oper} {i d : Nat} {a af : Act} {w : World} {post : Value → World → Prop} {Q : Exit → Act → World → Prop} {K : Act → World → Prop} (hi : ops[i]? = some o)
    (hd : o.dst = some d) (hs : ∀ cs b, o.op ≠ .select cs b) (hlt : d < af.tmps.size)
    (hag : ∀ t ∈ o.looksAt ops, af.tmps[t]? = a.tmps[t]?)
    (h : Step P ops o d af w post) (hK : ∀ v w', post v w' → K (a.put o.dst v) w') : wpOp P ops Q i K a w := by
  have hex : execOp a.eval o = execOp af.eval o := execOp_congr o hs fun x hx => by
    cases x with
    | tmp t =>
      have := hag t (List.mem_append_left _ (List.mem_filterMap.2 ⟨.tmp t, by simpa using hx, rfl⟩))
      simp only [Act.eval, Array.getD_eq_getD_getElem?, this]
    | _ => rfl
  have hwa : Region.wanted o (yielded ops a.tmps) = Region.wanted o (yielded ops af.tmps) := by
    unfold Region.wanted
    cases hg : o.guard with
    | none => rfl
    | some gw =>
      obtain ⟨g, want⟩ := gw
      have hy : yielded ops a.tmps g = yielded ops af.tmps g := by
        unfold yielded
        cases ht : (ops[g]?).bind (·.dst) with
        | none => rfl
        | some t =>
          have := hag t (by simp [Oper.looksAt, hg, ht])
          simp [this]
      simp only [hy]
  have hh := h (fun v ds w' => ds = af.defers ∧ K (a.put o.dst v) w') (fun v w' hp => ⟨rfl, hK v w' hp⟩)
  unfold wpOp
  simp only [hi, hwa]
  split
  · rename_i hw
    simp only [hw, if_true] at hh
    refine .inl ?_
    unfold Oper.wp at *
    rw [hex]
    generalize (execOp af.eval o).run P w = r at *
    have hget : ∀ v, (af.put (some d) v).tmps.getD d undef = v := fun v => by simp [Act.put, Array.getD_eq_getD_getElem?, hlt]
    cases r with
    | ok n w' =>
      cases n <;> simp only [Oper.upon, hd, hget] at hh ⊢
      case value v => exact hh.2
      case skip => exact hh.2
      case defer dd => exact absurd hh.1 (by simp [Act.put])
      case enter f args =>
        refine Calls.mono hh fun e w'' he => ?_
        cases e with
        | returned v => exact (show _ ∧ _ by simpa only [hget] using he).2
        | panicked c => exact he.elim
        | outgrown => obtain ⟨_, _, hf⟩ := he; exact hf.elim
      case row row args => exact Rows.mono hh fun v w'' he => (show _ ∧ _ by simpa only [hget] using he).2
    | halt x w' => cases x <;> simp only [Oper.upon] at hh
  · rename_i hw
    simp only [hw, Bool.false_eq_true, if_false] at hh
    exact hh.2

/-- What is so whatever was listed. -/
structure EachInv (R : World → World → Prop) (ops : Array Oper) (plan : List (Nat × List Nat)) (Φ : Nat → Value → World → Prop) (a0 : Act) (w0 : World) (listed : Array Bool) (a : Act) (w : World) : Prop where
  defers : a.defers = a0.defers
  size : a.tmps.size = a0.tmps.size
  len : listed.size = ops.size
  old : ∀ t, (∀ j, listed.getD j false = true → dstIn plan j ≠ t) → a.tmps[t]? = a0.tmps[t]?
  new : ∀ j, listed.getD j false = true → Φ j (a.tmps.getD (dstIn plan j) undef) w
  below : R w0 w

theorem planOk_spec {n : Nat} (h : planOk ops plan n = true) {i : Nat} (hi : i < ops.size) :
    ∃ o p, ops[i]? = some o ∧ plan[i]? = some p ∧ o.dst = some p.1 ∧ p.1 = dstIn plan i ∧ p.1 < n ∧ (∀ cs b, o.op ≠ .select cs b) ∧ p.2 = depsOf o ∧ (∀ j ∈ p.2, j < i) ∧
      (∀ j, j < ops.size → j ≠ i → dstIn plan j ≠ p.1) ∧ (∀ j, j < ops.size → j ∉ p.2 → dstIn plan j ∉ o.looksAt ops) := by
  unfold planOk at h
  rw [Bool.and_eq_true, List.all_eq_true] at h
  have hh := h.2 i (List.mem_range.2 hi)
  split at hh
  · rename_i o p ho hp
    simp only [Bool.and_eq_true, beq_iff_eq, decide_eq_true_eq, List.all_eq_true, List.mem_range, Bool.or_eq_true, bne_iff_ne, Bool.not_eq_true', List.contains_eq_mem, decide_eq_false_iff_not] at hh
    obtain ⟨⟨⟨⟨⟨h1, h2⟩, h3⟩, h4⟩, h5⟩, h6⟩ := hh
    refine ⟨o, p, ho, hp, h1, by simp [dstIn, hp], h2, fun cs b e => by simp [e] at h3, h4, h5, fun j hj hne => (h6 j hj).1.resolve_left hne, fun j hj hn => (h6 j hj).2.resolve_left hn⟩
  · cases hh

theorem wpAny_each (hpre : PreW R) {Q : Exit → Act → World → Prop} {a0 : Act} {w0 : World} (hok : planOk ops plan a0.tmps.size = true)
    (hstab : ∀ j u w1 w2, R w1 w2 → Φ j u w1 → Φ j u w2)
    (hops : eachOpR R P ops plan Φ a0 w0 ops.toList plan 0)
    (hend : ∀ w', Pk (R w0 w') → eachDep plan Φ w' (fun a' => Q .normal a' w') (List.range ops.size) a0) :
    ∀ (fuel : Nat) (listed : Array Bool) (a : Act) (w : World), EachInv R ops plan Φ a0 w0 listed a w → ((List.range ops.size).countP fun j => !listed.getD j false) ≤ fuel → wpAny P .any ops Q fuel listed a w := by
  have spec := fun i hi => planOk_spec (ops := ops) (plan := plan) hok (i := i) hi
  -- nothing ready: all is listed
  have allOf : ∀ (listed : Array Bool), listed.size = ops.size → Region.ready .any ops listed = [] → ∀ i, i < ops.size → listed.getD i false = true := by
    intro listed hl hr i
    induction i using Nat.strongRecOn with
    | _ i ih =>
      intro hi
      by_cases hn : listed.getD i false = true
      · exact hn
      · exfalso
        obtain ⟨o, p, ho, hp, h1, h2, h3, h4, h5, h6, h7, h8⟩ := spec i hi
        have : i ∈ Region.ready .any ops listed := mem_ready.2 ⟨by
          have hlt : i < listed.size := by omega
          simp only [Array.getD_eq_getD_getElem?, Array.getElem?_eq_getElem hlt, Option.getD_some] at hn ⊢
          simpa using hn, o, ho, fun e he hb => by
            have hm : e.on ∈ p.2 := by rw [h5]; exact List.mem_map.2 ⟨e, List.mem_filter.2 ⟨by simpa using he, hb⟩, rfl⟩
            exact ih e.on (h6 _ hm) (Nat.lt_trans (h6 _ hm) hi)⟩
        rw [hr] at this; cases this
  have fin : ∀ (listed : Array Bool) (a : Act) (w : World), EachInv R ops plan Φ a0 w0 listed a w → Region.ready .any ops listed = [] → Q .normal a w := by
    intro listed a w hI hr
    have hall := allOf listed hI.len hr
    obtain ⟨a', hk, hd, hs, hin, hout⟩ := eachDep_use (plan := plan) (Φ := Φ) (fun t => a.tmps.getD t undef) (List.range ops.size) a0 (hend w ⟨hI.below⟩) (fun j hj => by
      have hj' := List.mem_range.1 hj
      obtain ⟨o, p, ho, hp, h1, h2, h3, h4, h5, h6, h7, h8⟩ := spec j hj'
      exact ⟨by rw [← h2]; exact h3, hI.new j (hall j hj')⟩)
    have : a' = a := by
      obtain ⟨at', ad'⟩ := a'; obtain ⟨at0, ad0⟩ := a
      have h1 : at' = at0 := by
        apply Array.ext_getElem?
        intro t
        by_cases ht : ∃ j ∈ List.range ops.size, dstIn plan j = t
        · rw [hin t ht]
          obtain ⟨j, hj, rfl⟩ := ht
          obtain ⟨o, p, ho, hp, h1, h2, h3, h4, h5, h6, h7, h8⟩ := spec j (List.mem_range.1 hj)
          have hlt : dstIn plan j < at0.size := by have := hI.size; simp only at this; rw [this, ← h2]; exact h3
          simp [Array.getD_eq_getD_getElem?, Array.getElem?_eq_getElem hlt]
        · rw [hout t (fun j hj e => ht ⟨j, hj, e⟩)]
          refine (hI.old t fun j hj e => ht ⟨j, ?_, e⟩).symm
          have hlt : j < listed.size := by
            by_cases h : j < listed.size
            · exact h
            · simp [Array.getD_eq_getD_getElem?, Array.getElem?_eq_none (Nat.not_lt.1 h)] at hj
          exact List.mem_range.2 (by rw [← hI.len]; exact hlt)
      have h2 : ad' = ad0 := by have := hI.defers; simp only at this hd; rw [hd, this]
      subst h1; subst h2; rfl
    rw [← this]; exact hk
  intro fuel
  induction fuel with
  | zero =>
    intro listed a w hI hc
    have hr : Region.ready .any ops listed = [] := by
      cases hrr : Region.ready .any ops listed with
      | nil => rfl
      | cons i is =>
        exfalso
        obtain ⟨hl, o, ho, _⟩ := mem_ready.1 (show i ∈ Region.ready .any ops listed by rw [hrr]; simp)
        have hlt : i < ops.size := (Array.getElem?_eq_some_iff.1 ho).1
        have hc0 := List.countP_eq_zero.1 (Nat.le_zero.1 hc) i (List.mem_range.2 hlt)
        have hlt' : i < listed.size := by rw [hI.len]; exact hlt
        simp [Array.getD_eq_getD_getElem?, Array.getElem?_eq_getElem hlt'] at hl hc0
        rw [hl] at hc0; cases hc0
    exact ⟨hr, fin listed a w hI hr⟩
  | succ fuel ih =>
    intro listed a w hI hc
    refine ⟨fin listed a w hI, fun i hi => ?_⟩
    obtain ⟨hl, o', ho', hdeps⟩ := mem_ready.1 hi
    have hlt : i < ops.size := (Array.getElem?_eq_some_iff.1 ho').1
    obtain ⟨o, p, ho, hp, h1, h2, h3, h4, h5, h6, h7, h8⟩ := spec i hlt
    obtain rfl : o' = o := by rw [ho] at ho'; exact (Option.some.inj ho').symm
    have hltl : i < listed.size := by rw [hI.len]; exact hlt
    have hlf : listed.getD i false = false := by simpa [Array.getD_eq_getD_getElem?, Array.getElem?_eq_getElem hltl] using hl
    have hst := eachOp_get ops.toList plan 0 i o' p hops (by simpa using ho) hp w ⟨hI.below⟩
    rw [Nat.zero_add] at hst
    have hdl : ∀ j ∈ p.2, listed.getD j false = true := fun j hj => by
      rw [h5] at hj
      obtain ⟨e, he, rfl⟩ := List.mem_map.1 hj
      obtain ⟨he1, he2⟩ := List.mem_filter.1 he
      exact hdeps e (by simpa using he1) he2
    obtain ⟨af, hk, hd, hs, hin, hout⟩ := eachDep_use (plan := plan) (Φ := Φ) (fun t => a.tmps.getD t undef) p.2 a0 hst (fun j hj => by
      obtain ⟨_, q, _, hq, _, hq2, hq3, _⟩ := spec j (Nat.lt_trans (h6 j hj) hlt)
      exact ⟨by rw [← hq2]; exact hq3, hI.new j (hdl j hj)⟩)
    refine step_use (af := af) ho h1 h4 (by rw [hs]; exact h3) (fun t ht => ?_) hk (fun v w' hpost => ?_)
    · by_cases hx : ∃ j ∈ p.2, dstIn plan j = t
      · rw [hin t hx]
        obtain ⟨j, hj, rfl⟩ := hx
        obtain ⟨_, q, _, hq, _, hq2, hq3, _⟩ := spec j (Nat.lt_trans (h6 j hj) hlt)
        have hlt2 : dstIn plan j < a.tmps.size := by rw [hI.size, ← hq2]; exact hq3
        simp [Array.getD_eq_getD_getElem?, Array.getElem?_eq_getElem hlt2]
      · rw [hout t (fun j hj e => hx ⟨j, hj, e⟩)]
        refine (hI.old t fun j hj e => ?_).symm
        have hjlt : j < ops.size := by
          by_cases h : j < listed.size
          · rw [← hI.len]; exact h
          · simp [Array.getD_eq_getD_getElem?, Array.getElem?_eq_none (Nat.not_lt.1 h)] at hj
        exact h8 j hjlt (fun hm => hx ⟨j, hm, e⟩) (e ▸ ht)
    · obtain ⟨⟨hb⟩, hΦ⟩ := hpost
      have hset : ∀ j, (listed.setIfInBounds i true).getD j false = true → j ≠ i → listed.getD j false = true := fun j hj hne => by
        rwa [getD_set_ne false (Ne.symm hne)] at hj
      have hput : ∀ t, t ≠ p.1 → (a.put o'.dst v).tmps[t]? = a.tmps[t]? := fun t ht => by simp [h1, Act.put, Array.getElem?_setIfInBounds, Ne.symm ht]
      refine ih _ _ _ ⟨?_, ?_, ?_, fun t ht => ?_, fun j hj => ?_, hpre.trans hI.below hb⟩ ?_
      · rw [← hI.defers]; simp [h1, Act.put]
      · rw [← hI.size]; simp [h1, Act.put]
      · simp [hI.len]
      · have hti : t ≠ p.1 := fun e => ht i (by simp [Array.getD_eq_getD_getElem?, hltl]) (by rw [← h2]; exact e.symm)
        rw [hput t hti]
        exact hI.old t fun j hj => ht j (getD_set_true hj)
      · by_cases hji : j = i
        · subst hji
          have hlt2 : p.1 < a.tmps.size := by rw [hI.size]; exact h3
          rw [← h2]
          simpa [h1, Act.put, Array.getD_eq_getD_getElem?, hlt2] using hΦ
        · have hj' := hset j hj hji
          have hjlt : j < ops.size := by
            by_cases h : j < listed.size
            · rw [← hI.len]; exact h
            · simp [Array.getD_eq_getD_getElem?, Array.getElem?_eq_none (Nat.not_lt.1 h)] at hj'
          have := hstab _ _ _ _ hb (hI.new j hj')
          rwa [Array.getD_eq_getD_getElem?, ← hput _ (h7 j hjlt hji), ← Array.getD_eq_getD_getElem?] at this
      · have : ((List.range ops.size).countP fun j => !(listed.setIfInBounds i true).getD j false) + 1 ≤ (List.range ops.size).countP fun j => !listed.getD j false := by
          rw [List.countP_eq_length_filter, List.countP_eq_length_filter]
          have hm : i ∈ (List.range ops.size).filter fun j => !listed.getD j false := List.mem_filter.2 ⟨List.mem_range.2 hlt, by simp [hlf]⟩
          have hnd : ((List.range ops.size).filter fun j => !(listed.setIfInBounds i true).getD j false).Nodup := List.nodup_range.filter _
          have hni : i ∉ (List.range ops.size).filter fun j => !(listed.setIfInBounds i true).getD j false := by
            simp [Array.getD_eq_getD_getElem?, hltl]
          have hsub : (i :: (List.range ops.size).filter fun j => !(listed.setIfInBounds i true).getD j false) ⊆ (List.range ops.size).filter fun j => !listed.getD j false := by
            intro x hx
            rcases List.mem_cons.1 hx with rfl | hx
            · exact hm
            · obtain ⟨hx1, hx2⟩ := List.mem_filter.1 hx
              refine List.mem_filter.2 ⟨hx1, ?_⟩
              cases hc : listed.getD x false
              · rfl
              · rw [getD_set_true hc] at hx2; cases hx2
          exact (List.nodup_cons.2 ⟨hni, hnd⟩).length_le_of_subset hsub
        omega

theorem wp_region_each (hpre : PreW R) {id : Nat} {a : Act} {w : World} {Q : Exit → Act → World → Prop} (plan : List (Nat × List Nat)) (Φ : Nat → Value → World → Prop) (hm : P.follows .mixedOrders = true) (hok : planOk ops plan a.tmps.size = true)
    (hstab : ∀ j u w1 w2, R w1 w2 → Φ j u w1 → Φ j u w2)
    (hops : eachOpR R P ops plan Φ a w ops.toList plan 0)
    (hend : ∀ w', Pk (R w w') → eachDep plan Φ w' (fun a' => Q .normal a' w') (List.range ops.size) a) : (Code.region id ops true).wp P Q a w := by
  refine wp_region_any hm (wpAny_each hpre (w0 := w) hok hstab hops hend ops.size _ a _ ⟨rfl, rfl, by simp, fun t _ => rfl, fun j hj => ?_, hpre.drew _⟩ ?_)
  · rw [Array.getD_eq_getD_getElem?] at hj
    by_cases hlt : j < ops.size <;> simp [Array.getElem?_replicate, hlt] at hj
  · exact Nat.le_trans (List.countP_le_length) (by simp)

end

/-! ### The values' words, and the tactic -/
def isV (x : Value) (v : Value) (_ : World) : Prop := v = x
def isR (l : List F) (n : Nat) (v : Value) (w : World) : Prop := ∃ (A : Option Addr) (c : Nat), v = .slice A n c ∧ l.length = n ∧ n ≤ c ∧ RB w A l
theorem isV_mk {x : Value} {w : World} : isV x x w := rfl
theorem isV_of {x y : Value} {w : World} (h : y = x) : isV x y w := h

def StableR (R : World → World → Prop) (p : Value → World → Prop) : Prop := ∀ u w1 w2, R w1 w2 → p u w1 → p u w2
theorem isV_stable {R : World → World → Prop} {x : Value} : StableR R (isV x) := fun _ _ _ _ h => h
theorem isR_stable {l : List F} {n : Nat} : StableR belowR (isR l n) := fun _ _ _ hb ⟨A, c, h1, h2, h3, h4⟩ => ⟨A, c, h1, h2, h3, h4.mono hb⟩

def phi (l : List (Value → World → Prop)) (j : Nat) : Value → World → Prop := l.getD j (fun _ _ => True)
def allStable (R : World → World → Prop) : List (Value → World → Prop) → Prop
  | [] => True
  | p :: ps => StableR R p ∧ allStable R ps
theorem phi_stable {R : World → World → Prop} : ∀ (l : List (Value → World → Prop)), allStable R l → ∀ j, StableR R (phi l j)
  | [], _, j => fun _ _ _ _ _ => by simp [phi]
  | p :: ps, h, 0 => h.1
  | p :: ps, h, j + 1 => phi_stable ps h.2 j

section
variable {P : Program} {ops : Array Oper}
theorem wp_region_eachR (R : World → World → Prop) (hpre : PreW R) {id : Nat} {a : Act} {w : World} {Q : Exit → Act → World → Prop} (plan : List (Nat × List Nat)) (l : List (Value → World → Prop)) (hm : P.follows .mixedOrders = true)
    (hok : planOk ops plan a.tmps.size = true) (hstab : allStable R l)
    (hops : eachOpR R P ops plan (phi l) a w ops.toList plan 0)
    (hend : ∀ w', Pk (R w w') → eachDep plan (phi l) w' (fun a' => Q .normal a' w') (List.range ops.size) a) : (Code.region id ops true).wp P Q a w :=
  wp_region_each hpre plan (phi l) hm hok (fun j u w1 w2 hb h => phi_stable l hstab j u w1 w2 hb h) hops hend
theorem wp_region_each' {id : Nat} {a : Act} {w : World} {Q : Exit → Act → World → Prop} (plan : List (Nat × List Nat)) (l : List (Value → World → Prop)) (hm : P.follows .mixedOrders = true)
    (hok : planOk ops plan a.tmps.size = true) (hstab : allStable belowR l)
    (hops : eachOpR belowR P ops plan (phi l) a w ops.toList plan 0)
    (hend : ∀ w', Pk (Below w.heap.size w w') → eachDep plan (phi l) w' (fun a' => Q .normal a' w') (List.range ops.size) a) : (Code.region id ops true).wp P Q a w :=
  wp_region_eachR belowR belowPre plan l hm hok hstab hops hend
end

theorem eachOp_cons {R : World → World → Prop} {P : Program} {ops : Array Oper} {plan : List (Nat × List Nat)} {Φ : Nat → Value → World → Prop} {a : Act} {w0 : World} {o : Oper} {os : List Oper} {d : Nat} {ds : List Nat} {ps : List (Nat × List Nat)} {i : Nat}
    (h1 : ∀ w, Pk (R w0 w) → eachDep plan Φ w (fun af => Step P ops o d af w (fun v w' => Pk (R w w') ∧ Φ i v w')) ds a)
    (h2 : eachOpR R P ops plan Φ a w0 os ps (i + 1)) : eachOpR R P ops plan Φ a w0 (o :: os) ((d, ds) :: ps) i := ⟨h1, h2⟩
theorem eachOp_nil {R : World → World → Prop} {P : Program} {ops : Array Oper} {plan : List (Nat × List Nat)} {Φ : Nat → Value → World → Prop} {a : Act} {w0 : World} {i : Nat} : eachOpR R P ops plan Φ a w0 [] [] i := trivial

end Go.Proofs.YtdnmfgpladgjhaaDoor
