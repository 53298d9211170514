/- The document's Open; WireSums walked. -/
import Derived.Test.YtdnmfgpladgjhaaDoorWH
import Derived.Test.YtdnmfgpladgjhaaDoorSlc
import Derived.Test.YtdnmfgpladgjhaaDoorPhase
namespace Go.Proofs.YtdnmfgpladgjhaaDoor
open Go Go.RowKit Go.Proofs.YtdnmfgpladgjhaaDoor.Gf
set_option linter.unusedVariables false
set_option linter.unusedSimpArgs false

set_option maxRecDepth 100000 in
set_option maxHeartbeats 4000000 in
theorem refOpen_calls (A : Option Addr) (n ca : Nat) (la : List F) (w : World) (hn : la.length = n) (ha : RB w A la) (hc : n ≤ ca) (hl : n ≤ 140737488354000) :
    Calls Tryd.prog 33 #[.slice A n ca] w fun e w' => ∃ v, e = .returned (.tuple #[v, .int .i64 (openN la : Nat)]) ∧ w'.ownsRow w.heap.size 5 1 v (openL la).length (bvs (openL la)) ∧ Below w.heap.size w w' := by
  have HN := Pk.mk hn
  have HA := Pk.mk ha
  clear ha hn
  by_cases h4 : n < 4
  · obtain ⟨ho, hL⟩ := openN_short (l := la) (by rw [HN.out]; exact h4)
    rw [ho, hL]
    clear ho hL HA HN
    go_enter Tryd.func33, Tryd.ntmps33
    go_wp2
    go_ret2
    exact ⟨_, rfl, World.ownsRow_nil _ _ _ _, Below.refl _ _⟩
  · obtain ⟨m, rfl⟩ : ∃ m, n = m + 4 := ⟨n - 4, by omega⟩
    have hm4 : (m : Int) + 4 - 4 = (m : Int) := by omega
    have hlen : (la.take m).length = m := by rw [List.length_take, HN.out]; omega
    have Hlen := Pk.mk (And.intro hlen (show (sealB (la.take m)).length = m + 4 by rw [sealB_length, hlen]))
    clear hlen
    by_cases hs : sealB (la.take m) = la
    · obtain ⟨ho, hL⟩ := openN_good HN.out hs
      rw [ho, hL]
      have hbb : ((bs (sealB (la.take m))).toList == (bs la).toList) = true := by rw [bs_beq, hs, sameB_self]
      clear ho hL hs
      go_enter Tryd.func33, Tryd.ntmps33
      go_wp2_with fail
      apply wp_region_each' [(11, []), (12, []), (13, []), (14, [0, 1, 2]), (15, [3]), (16, [4]), (17, []), (18, [6]), (19, [5, 7])] [isV _, isV _, isV _, isV _, isR (sealB (la.take m)) (m + 4), isV _, isV _, isV _, isV _] (by kernel_rfl) (by kernel_rfl)
      case hstab => repeat' first | (intro _ _ _ _ h; exact h) | exact isR_stable | exact trivial | refine And.intro ?_ ?_ | assumption
      case hops =>
        refine eachOp_cons ?_ ?_
        · intro wz hwz
          simp only [eachDep]
          replace hwz : Pk (Below w.heap.size w wz) := hwz
          have hcb := conv_bytes' (w := wz) ca HN.out (HA.out.mono hwz.out)
          simp only [Step, Act.put, dstIn, List.map_cons, List.getD_cons_zero, List.getD_cons_succ, List.setIfInBounds_toArray, List.set_cons_zero, List.set_cons_succ]
          intro R hR
          rw [if_pos (by rfl)]
          go_simp
          first | exact hR _ _ ⟨⟨Below.refl _ _⟩, isV_mk (w := wz)⟩ | (rw [if_pos (by omega)]; exact hR _ _ ⟨⟨Below.refl _ _⟩, isV_mk (w := wz)⟩)
        refine eachOp_cons ?_ ?_
        · intro wz hwz
          simp only [eachDep]
          replace hwz : Pk (Below w.heap.size w wz) := hwz
          have hcb := conv_bytes' (w := wz) ca HN.out (HA.out.mono hwz.out)
          simp only [Step, Act.put, dstIn, List.map_cons, List.getD_cons_zero, List.getD_cons_succ, List.setIfInBounds_toArray, List.set_cons_zero, List.set_cons_succ]
          intro R hR
          rw [if_pos (by rfl)]
          go_simp
          first | exact hR _ _ ⟨⟨Below.refl _ _⟩, isV_mk (w := wz)⟩ | (rw [if_pos (by omega)]; exact hR _ _ ⟨⟨Below.refl _ _⟩, isV_mk (w := wz)⟩)
        refine eachOp_cons ?_ ?_
        · intro wz hwz
          simp only [eachDep]
          replace hwz : Pk (Below w.heap.size w wz) := hwz
          have hcb := conv_bytes' (w := wz) ca HN.out (HA.out.mono hwz.out)
          simp only [Step, Act.put, dstIn, List.map_cons, List.getD_cons_zero, List.getD_cons_succ, List.setIfInBounds_toArray, List.set_cons_zero, List.set_cons_succ]
          intro R hR
          rw [if_pos (by rfl)]
          go_simp
          first | exact hR _ _ ⟨⟨Below.refl _ _⟩, isV_mk (w := wz)⟩ | (rw [if_pos (by omega)]; exact hR _ _ ⟨⟨Below.refl _ _⟩, isV_mk (w := wz)⟩)
        refine eachOp_cons ?_ ?_
        · intro wz hwz
          simp only [eachDep]
          replace hwz : Pk (Below w.heap.size w wz) := hwz
          have hcb := conv_bytes' (w := wz) ca HN.out (HA.out.mono hwz.out)
          (intro v h; have h2 := (id h : v = _); clear h; subst h2)
          (intro v h; have h2 := (id h : v = _); clear h; subst h2)
          (intro v h; have h2 := (id h : v = _); clear h; subst h2)
          simp only [Step, Act.put, dstIn, List.map_cons, List.getD_cons_zero, List.getD_cons_succ, List.setIfInBounds_toArray, List.set_cons_zero, List.set_cons_succ]
          intro R hR
          rw [if_pos (by rfl)]
          go_simp
          first | exact hR _ _ ⟨⟨Below.refl _ _⟩, isV_mk (w := wz)⟩ | (rw [if_pos (by omega)]; exact hR _ _ ⟨⟨Below.refl _ _⟩, isV_mk (w := wz)⟩)
        refine eachOp_cons ?_ ?_
        · intro wz hwz
          simp only [eachDep]
          replace hwz : Pk (Below w.heap.size w wz) := hwz
          have hcb := conv_bytes' (w := wz) ca HN.out (HA.out.mono hwz.out)
          (intro v h; have h2 := (id h : v = _); clear h; subst h2)
          simp only [Step, Act.put, dstIn, List.map_cons, List.getD_cons_zero, List.getD_cons_succ, List.setIfInBounds_toArray, List.set_cons_zero, List.set_cons_succ]
          intro R hR
          rw [if_pos (by rfl)]
          go_simp
          (go_at_call 36; (with_reducible refine (refSeal_calls A m m (la.take m) _ Hlen.out.1 (rb_take (HA.out.mono hwz.out) m) (by omega)).mono ?_); rintro e w' ⟨v, rfl, ho, hb⟩; obtain ⟨A1, c1, rfl, hc1, hr1, _⟩ := own_form ho; exact hR _ _ ⟨⟨hb⟩, ⟨_, _, rfl, Hlen.out.2, hc1, hr1⟩⟩)
        refine eachOp_cons ?_ ?_
        · intro wz hwz
          simp only [eachDep]
          replace hwz : Pk (Below w.heap.size w wz) := hwz
          have hcb := conv_bytes' (w := wz) ca HN.out (HA.out.mono hwz.out)
          rintro _ ⟨A_4, c_4, rfl, hl_4, hc_4, hr_4⟩
          have hv_4 := conv_bytes' c_4 hl_4 hr_4
          simp only [Step, Act.put, dstIn, List.map_cons, List.getD_cons_zero, List.getD_cons_succ, List.setIfInBounds_toArray, List.set_cons_zero, List.set_cons_succ]
          intro R hR
          rw [if_pos (by rfl)]
          go_simp
          first | exact hR _ _ ⟨⟨Below.refl _ _⟩, isV_mk (w := wz)⟩ | (rw [if_pos (by omega)]; exact hR _ _ ⟨⟨Below.refl _ _⟩, isV_mk (w := wz)⟩)
        refine eachOp_cons ?_ ?_
        · intro wz hwz
          simp only [eachDep]
          replace hwz : Pk (Below w.heap.size w wz) := hwz
          have hcb := conv_bytes' (w := wz) ca HN.out (HA.out.mono hwz.out)
          simp only [Step, Act.put, dstIn, List.map_cons, List.getD_cons_zero, List.getD_cons_succ, List.setIfInBounds_toArray, List.set_cons_zero, List.set_cons_succ]
          intro R hR
          rw [if_pos (by rfl)]
          go_simp
          first | exact hR _ _ ⟨⟨Below.refl _ _⟩, isV_mk (w := wz)⟩ | (rw [if_pos (by omega)]; exact hR _ _ ⟨⟨Below.refl _ _⟩, isV_mk (w := wz)⟩)
        refine eachOp_cons ?_ ?_
        · intro wz hwz
          simp only [eachDep]
          replace hwz : Pk (Below w.heap.size w wz) := hwz
          have hcb := conv_bytes' (w := wz) ca HN.out (HA.out.mono hwz.out)
          (intro v h; have h2 := (id h : v = _); clear h; subst h2)
          simp only [Step, Act.put, dstIn, List.map_cons, List.getD_cons_zero, List.getD_cons_succ, List.setIfInBounds_toArray, List.set_cons_zero, List.set_cons_succ]
          intro R hR
          rw [if_pos (by rfl)]
          go_simp
          first | exact hR _ _ ⟨⟨Below.refl _ _⟩, isV_mk (w := wz)⟩ | (rw [if_pos (by omega)]; exact hR _ _ ⟨⟨Below.refl _ _⟩, isV_mk (w := wz)⟩)
        refine eachOp_cons ?_ ?_
        · intro wz hwz
          simp only [eachDep]
          replace hwz : Pk (Below w.heap.size w wz) := hwz
          have hcb := conv_bytes' (w := wz) ca HN.out (HA.out.mono hwz.out)
          (intro v h; have h2 := (id h : v = _); clear h; subst h2)
          (intro v h; have h2 := (id h : v = _); clear h; subst h2)
          simp only [Step, Act.put, dstIn, List.map_cons, List.getD_cons_zero, List.getD_cons_succ, List.setIfInBounds_toArray, List.set_cons_zero, List.set_cons_succ]
          intro R hR
          rw [if_pos (by rfl)]
          go_simp
          first | exact hR _ _ ⟨⟨Below.refl _ _⟩, isV_mk (w := wz)⟩ | (rw [if_pos (by omega)]; exact hR _ _ ⟨⟨Below.refl _ _⟩, isV_mk (w := wz)⟩)
        exact eachOp_nil
      intro wq hwq
      simp only [eachDep, List.size_toArray, List.length_cons, List.length_nil, Nat.zero_add, Nat.reduceAdd, List.range, List.range.loop]
      (intro v h; have h2 := (id h : v = _); clear h; subst h2)
      (intro v h; have h2 := (id h : v = _); clear h; subst h2)
      (intro v h; have h2 := (id h : v = _); clear h; subst h2)
      (intro v h; have h2 := (id h : v = _); clear h; subst h2)
      rintro _ ⟨A_4, c_4, rfl, hl_4, hc_4, hr_4⟩
      have hv_4 := conv_bytes' c_4 hl_4 hr_4
      (intro v h; have h2 := (id h : v = _); clear h; subst h2)
      (intro v h; have h2 := (id h : v = _); clear h; subst h2)
      (intro v h; have h2 := (id h : v = _); clear h; subst h2)
      (intro v h; have h2 := (id h : v = _); clear h; subst h2)
      simp only [Act.put, dstIn, List.map_cons, List.getD_cons_zero, List.getD_cons_succ, List.setIfInBounds_toArray, List.set_cons_zero, List.set_cons_succ]
      go_wp2_with ((with_reducible refine gate_b (b := .append) rfl ?_); refine Pk.out ?_)
      refine ⟨?_⟩
      refine app_bytes (w := wq.alloc (.cells #[] 5)) wq.heap.size _ 0 [] (own_empty wq) (by simp) A m ca (la.take m) Hlen.out.1 (rb_take ((HA.out.mono hwq.out).mono (below_alloc _ _)) m) (by omega) rfl rfl rfl rfl ?_
      intro v3 w3 ho3 hb3 _
      have HO3 := Pk.mk (show w3.ownsRow w.heap.size 5 1 v3 m (bvs (la.take m)) by rw [Nat.zero_add, List.nil_append] at ho3; exact own_low ho3 hwq.out.size)
      have HB3 := Pk.mk (hwq.out.trans (((below_alloc wq (.cells #[] 5)).trans (hb3.mono (Nat.le_refl _))).mono hwq.out.size))
      clear ho3 hb3
      go_wp2
      go_ret2
      exact ⟨_, rfl, by rw [Hlen.out.1]; exact HO3.out, HB3.out⟩
    · obtain ⟨ho, hL⟩ := openN_bad HN.out hs
      rw [ho, hL]
      have hbb : ((bs (sealB (la.take m))).toList == (bs la).toList) = false := by rw [bs_beq]; simp only [sameB, decide_eq_false_iff_not]; exact hs
      clear ho hL hs
      go_enter Tryd.func33, Tryd.ntmps33
      go_wp2_with fail
      apply wp_region_each' [(11, []), (12, []), (13, []), (14, [0, 1, 2]), (15, [3]), (16, [4]), (17, []), (18, [6]), (19, [5, 7])] [isV _, isV _, isV _, isV _, isR (sealB (la.take m)) (m + 4), isV _, isV _, isV _, isV _] (by kernel_rfl) (by kernel_rfl)
      case hstab => repeat' first | (intro _ _ _ _ h; exact h) | exact isR_stable | exact trivial | refine And.intro ?_ ?_ | assumption
      case hops =>
        refine eachOp_cons ?_ ?_
        · intro wz hwz
          simp only [eachDep]
          replace hwz : Pk (Below w.heap.size w wz) := hwz
          have hcb := conv_bytes' (w := wz) ca HN.out (HA.out.mono hwz.out)
          simp only [Step, Act.put, dstIn, List.map_cons, List.getD_cons_zero, List.getD_cons_succ, List.setIfInBounds_toArray, List.set_cons_zero, List.set_cons_succ]
          intro R hR
          rw [if_pos (by rfl)]
          go_simp
          first | exact hR _ _ ⟨⟨Below.refl _ _⟩, isV_mk (w := wz)⟩ | (rw [if_pos (by omega)]; exact hR _ _ ⟨⟨Below.refl _ _⟩, isV_mk (w := wz)⟩)
        refine eachOp_cons ?_ ?_
        · intro wz hwz
          simp only [eachDep]
          replace hwz : Pk (Below w.heap.size w wz) := hwz
          have hcb := conv_bytes' (w := wz) ca HN.out (HA.out.mono hwz.out)
          simp only [Step, Act.put, dstIn, List.map_cons, List.getD_cons_zero, List.getD_cons_succ, List.setIfInBounds_toArray, List.set_cons_zero, List.set_cons_succ]
          intro R hR
          rw [if_pos (by rfl)]
          go_simp
          first | exact hR _ _ ⟨⟨Below.refl _ _⟩, isV_mk (w := wz)⟩ | (rw [if_pos (by omega)]; exact hR _ _ ⟨⟨Below.refl _ _⟩, isV_mk (w := wz)⟩)
        refine eachOp_cons ?_ ?_
        · intro wz hwz
          simp only [eachDep]
          replace hwz : Pk (Below w.heap.size w wz) := hwz
          have hcb := conv_bytes' (w := wz) ca HN.out (HA.out.mono hwz.out)
          simp only [Step, Act.put, dstIn, List.map_cons, List.getD_cons_zero, List.getD_cons_succ, List.setIfInBounds_toArray, List.set_cons_zero, List.set_cons_succ]
          intro R hR
          rw [if_pos (by rfl)]
          go_simp
          first | exact hR _ _ ⟨⟨Below.refl _ _⟩, isV_mk (w := wz)⟩ | (rw [if_pos (by omega)]; exact hR _ _ ⟨⟨Below.refl _ _⟩, isV_mk (w := wz)⟩)
        refine eachOp_cons ?_ ?_
        · intro wz hwz
          simp only [eachDep]
          replace hwz : Pk (Below w.heap.size w wz) := hwz
          have hcb := conv_bytes' (w := wz) ca HN.out (HA.out.mono hwz.out)
          (intro v h; have h2 := (id h : v = _); clear h; subst h2)
          (intro v h; have h2 := (id h : v = _); clear h; subst h2)
          (intro v h; have h2 := (id h : v = _); clear h; subst h2)
          simp only [Step, Act.put, dstIn, List.map_cons, List.getD_cons_zero, List.getD_cons_succ, List.setIfInBounds_toArray, List.set_cons_zero, List.set_cons_succ]
          intro R hR
          rw [if_pos (by rfl)]
          go_simp
          first | exact hR _ _ ⟨⟨Below.refl _ _⟩, isV_mk (w := wz)⟩ | (rw [if_pos (by omega)]; exact hR _ _ ⟨⟨Below.refl _ _⟩, isV_mk (w := wz)⟩)
        refine eachOp_cons ?_ ?_
        · intro wz hwz
          simp only [eachDep]
          replace hwz : Pk (Below w.heap.size w wz) := hwz
          have hcb := conv_bytes' (w := wz) ca HN.out (HA.out.mono hwz.out)
          (intro v h; have h2 := (id h : v = _); clear h; subst h2)
          simp only [Step, Act.put, dstIn, List.map_cons, List.getD_cons_zero, List.getD_cons_succ, List.setIfInBounds_toArray, List.set_cons_zero, List.set_cons_succ]
          intro R hR
          rw [if_pos (by rfl)]
          go_simp
          (go_at_call 36; (with_reducible refine (refSeal_calls A m m (la.take m) _ Hlen.out.1 (rb_take (HA.out.mono hwz.out) m) (by omega)).mono ?_); rintro e w' ⟨v, rfl, ho, hb⟩; obtain ⟨A1, c1, rfl, hc1, hr1, _⟩ := own_form ho; exact hR _ _ ⟨⟨hb⟩, ⟨_, _, rfl, Hlen.out.2, hc1, hr1⟩⟩)
        refine eachOp_cons ?_ ?_
        · intro wz hwz
          simp only [eachDep]
          replace hwz : Pk (Below w.heap.size w wz) := hwz
          have hcb := conv_bytes' (w := wz) ca HN.out (HA.out.mono hwz.out)
          rintro _ ⟨A_4, c_4, rfl, hl_4, hc_4, hr_4⟩
          have hv_4 := conv_bytes' c_4 hl_4 hr_4
          simp only [Step, Act.put, dstIn, List.map_cons, List.getD_cons_zero, List.getD_cons_succ, List.setIfInBounds_toArray, List.set_cons_zero, List.set_cons_succ]
          intro R hR
          rw [if_pos (by rfl)]
          go_simp
          first | exact hR _ _ ⟨⟨Below.refl _ _⟩, isV_mk (w := wz)⟩ | (rw [if_pos (by omega)]; exact hR _ _ ⟨⟨Below.refl _ _⟩, isV_mk (w := wz)⟩)
        refine eachOp_cons ?_ ?_
        · intro wz hwz
          simp only [eachDep]
          replace hwz : Pk (Below w.heap.size w wz) := hwz
          have hcb := conv_bytes' (w := wz) ca HN.out (HA.out.mono hwz.out)
          simp only [Step, Act.put, dstIn, List.map_cons, List.getD_cons_zero, List.getD_cons_succ, List.setIfInBounds_toArray, List.set_cons_zero, List.set_cons_succ]
          intro R hR
          rw [if_pos (by rfl)]
          go_simp
          first | exact hR _ _ ⟨⟨Below.refl _ _⟩, isV_mk (w := wz)⟩ | (rw [if_pos (by omega)]; exact hR _ _ ⟨⟨Below.refl _ _⟩, isV_mk (w := wz)⟩)
        refine eachOp_cons ?_ ?_
        · intro wz hwz
          simp only [eachDep]
          replace hwz : Pk (Below w.heap.size w wz) := hwz
          have hcb := conv_bytes' (w := wz) ca HN.out (HA.out.mono hwz.out)
          (intro v h; have h2 := (id h : v = _); clear h; subst h2)
          simp only [Step, Act.put, dstIn, List.map_cons, List.getD_cons_zero, List.getD_cons_succ, List.setIfInBounds_toArray, List.set_cons_zero, List.set_cons_succ]
          intro R hR
          rw [if_pos (by rfl)]
          go_simp
          first | exact hR _ _ ⟨⟨Below.refl _ _⟩, isV_mk (w := wz)⟩ | (rw [if_pos (by omega)]; exact hR _ _ ⟨⟨Below.refl _ _⟩, isV_mk (w := wz)⟩)
        refine eachOp_cons ?_ ?_
        · intro wz hwz
          simp only [eachDep]
          replace hwz : Pk (Below w.heap.size w wz) := hwz
          have hcb := conv_bytes' (w := wz) ca HN.out (HA.out.mono hwz.out)
          (intro v h; have h2 := (id h : v = _); clear h; subst h2)
          (intro v h; have h2 := (id h : v = _); clear h; subst h2)
          simp only [Step, Act.put, dstIn, List.map_cons, List.getD_cons_zero, List.getD_cons_succ, List.setIfInBounds_toArray, List.set_cons_zero, List.set_cons_succ]
          intro R hR
          rw [if_pos (by rfl)]
          go_simp
          first | exact hR _ _ ⟨⟨Below.refl _ _⟩, isV_mk (w := wz)⟩ | (rw [if_pos (by omega)]; exact hR _ _ ⟨⟨Below.refl _ _⟩, isV_mk (w := wz)⟩)
        exact eachOp_nil
      intro wq hwq
      simp only [eachDep, List.size_toArray, List.length_cons, List.length_nil, Nat.zero_add, Nat.reduceAdd, List.range, List.range.loop]
      (intro v h; have h2 := (id h : v = _); clear h; subst h2)
      (intro v h; have h2 := (id h : v = _); clear h; subst h2)
      (intro v h; have h2 := (id h : v = _); clear h; subst h2)
      (intro v h; have h2 := (id h : v = _); clear h; subst h2)
      rintro _ ⟨A_4, c_4, rfl, hl_4, hc_4, hr_4⟩
      have hv_4 := conv_bytes' c_4 hl_4 hr_4
      (intro v h; have h2 := (id h : v = _); clear h; subst h2)
      (intro v h; have h2 := (id h : v = _); clear h; subst h2)
      (intro v h; have h2 := (id h : v = _); clear h; subst h2)
      (intro v h; have h2 := (id h : v = _); clear h; subst h2)
      simp only [Act.put, dstIn, List.map_cons, List.getD_cons_zero, List.getD_cons_succ, List.setIfInBounds_toArray, List.set_cons_zero, List.set_cons_succ]
      go_wp2
      go_ret2
      exact ⟨_, rfl, World.ownsRow_nil _ _ _ _, hwq.out⟩

/-! ### two made slices, written over in turn -/
theorem Sl.of_own {w w' : World} {v : Value} {n : Nat} {l : List F} (h : w'.ownsRow w.heap.size 5 1 v n (bvs l)) (hl : l.length = n) : ∃ A c, v = .slice A n c ∧ n ≤ c ∧ Sl w' A n c w.heap.size w'.heap.size l := by
  subst hl
  by_cases hn : 0 < l.length ∨ v ≠ .slice none 0 0
  · obtain ⟨g, ex, rfl, h1, h2, h3, h4⟩ := own_blk h hn
    exact ⟨_, _, rfl, by omega, ⟨rfl, Or.inr ⟨g, ex, rfl, rfl, h1, (Array.getElem?_eq_some_iff.1 h2).1, h2⟩⟩⟩
  · have h0 : l = [] := List.length_eq_zero_iff.1 (by omega)
    obtain rfl : v = .slice none 0 0 := Classical.byContradiction fun h => hn (Or.inr h)
    subst h0
    exact ⟨none, 0, rfl, Nat.le_refl _, ⟨rfl, Or.inl ⟨rfl, rfl, rfl⟩⟩⟩
theorem openL_len (l : List F) : (openL l).length ≤ l.length := by
  unfold openL; split
  · rw [List.length_take]; omega
  · simp
/-- What lies from block lo to block mid, and what lies from there to hi, may be written over. -/
def twoR (lo mid hi : Nat) (S : Option Addr) (n c : Nat) (O : Option Addr) (m d : Nat) : World → World → Prop := fun w w' =>
  (hi ≤ w.heap.size ∧ (∃ l, Sl w S n c lo mid l) ∧ (∃ l, Sl w O m d mid hi l)) → Span w w' lo hi ∧ hi ≤ w'.heap.size ∧ (∃ l, Sl w' S n c lo mid l) ∧ (∃ l, Sl w' O m d mid hi l)
theorem Sl.len {w : World} {A : Option Addr} {n c lo hi : Nat} {l : List F} (h : Sl w A n c lo hi l) : l.length = n := by
  obtain ⟨h1, _⟩ := h; exact h1
theorem Sl.all {w w' : World} {A : Option Addr} {n c lo hi : Nat} {l : List F} (h : Sl w A n c lo hi l) (hb : Below w.heap.size w w') : Sl w' A n c lo hi l := by
  obtain ⟨hl, ⟨rfl, rfl, rfl⟩ | ⟨g, ex, rfl, rfl, h1, h2, hg⟩⟩ := h
  · exact ⟨hl, Or.inl ⟨rfl, rfl, rfl⟩⟩
  · exact ⟨hl, Or.inr ⟨g, ex, rfl, rfl, h1, h2, (hb.block g (Array.getElem?_eq_some_iff.1 hg).1).trans hg⟩⟩
theorem twoR_below {lo mid hi n c m d : Nat} {S O : Option Addr} (hle : lo ≤ hi) {w w' : World} (hb : Below w.heap.size w w') : twoR lo mid hi S n c O m d w w' := by
  rintro ⟨h1, ⟨l, h2⟩, ⟨k, h3⟩⟩
  exact ⟨span_below hb (Nat.le_trans hle h1), Nat.le_trans h1 hb.size, ⟨l, h2.all hb⟩, ⟨k, h3.all hb⟩⟩
theorem twoPre {lo mid hi : Nat} (hle : lo ≤ hi) (S : Option Addr) (n c : Nat) (O : Option Addr) (m d : Nat) : PreW (twoR lo mid hi S n c O m d) where
  refl := fun w => twoR_below hle (Below.refl _ _)
  trans := fun {a b c} h k q => by
    obtain ⟨h1, h2, h3, h4⟩ := h q
    obtain ⟨k1, k2, k3, k4⟩ := k ⟨h2, h3, h4⟩
    exact ⟨⟨h1.1.trans k1.1, fun j hj hk => (k1.2 j (Nat.lt_of_lt_of_le hj h1.1.size) hk).trans (h1.2 j hj hk)⟩, k2, k3, k4⟩
  drew := fun w => twoR_below hle ((Below.refl _ _).drew)
  alloc := fun w o => twoR_below hle ((Below.refl _ _).alloc (Nat.le_refl _) _)

set_option maxRecDepth 100000 in
set_option maxHeartbeats 8000000 in
theorem wireSums_walk (E : Nat → Addr) (A : Option Addr) (ca : Nat) (la : List F) (w : World) (hE : ErrW w E errG) (ha : RB w A la) (hca : la.length ≤ ca) (hla : la.length ≤ 140737488351232) :
    Calls Tryd.prog 8 #[.slice A la.length ca] w fun e w' => e = .returned (.bool true) ∧ Below w.heap.size w w' := by
  have HA := Pk.mk ha
  have HE := Pk.mk hE
  clear ha hE
  go_enter Tryd.func8, Tryd.ntmps8
  go_wp2_with fail
  refine (alive13_calls w).mono ?_
  rintro e w1 ⟨rfl, hb⟩
  have B0 := Pk.mk hb
  replace HE := Pk.mk (HE.out.mono hb)
  have HA0 := Pk.mk (HA.out.mono hb)
  have HAw := HA
  clear hb HA
  go_wp2_with fail
  have q := bytes_calls A ca la w1 HA0.out hla
  with_reducible refine q.mono ?_
  clear q
  rintro e w2 ⟨g, rfl, hg, hB, hb⟩
  have HX := Pk.mk hB
  have Z1 := Pk.mk (And.intro hB.lt (Nat.le_trans B0.out.size hb.size))
  replace HE := Pk.mk (HE.out.mono hb)
  replace HA0 := Pk.mk (HA0.out.mono hb)
  replace B0 := Pk.mk (B0.out.trans ((hb).mono B0.out.size))
  clear hb
  clear hB hg
  go_wp2_with fail
  have q := seal_calls (some ⟨g, 0, none⟩) la.length (la.length + 6) la w2 rfl HX.out.front (by omega)
  with_reducible refine q.mono ?_
  clear q
  rintro e w3 ⟨v, rfl, ho, hb⟩
  obtain ⟨S, cs, rfl, hcs, hs⟩ := Sl.of_own ho (sealB_length la)
  have LS := Pk.mk hs
  have Z2 := Pk.mk hb.size
  replace HE := Pk.mk (HE.out.mono hb)
  replace HA0 := Pk.mk (HA0.out.mono hb)
  replace HX := Pk.mk (HX.out.mono hb)
  replace B0 := Pk.mk (B0.out.trans ((hb).mono B0.out.size))
  clear hb
  clear ho hs
  go_wp2_with fail
  have q := open_calls E (some ⟨g, 0, none⟩) la.length (la.length + 6) la w3 (HE.out.sub (by decide)) rfl HX.out.front (by omega) (by omega)
  with_reducible refine q.mono ?_
  clear q
  rintro e w4 ⟨v, rfl, ho, hb⟩
  obtain ⟨O, co, rfl, hco, hs⟩ := Sl.of_own ho rfl
  have LO := Pk.mk hs
  have Z3 := Pk.mk hb.size
  replace HE := Pk.mk (HE.out.mono hb)
  replace HA0 := Pk.mk (HA0.out.mono hb)
  replace HX := Pk.mk (HX.out.mono hb)
  replace LS := Pk.mk (Sl.all LS.out hb)
  replace B0 := Pk.mk (B0.out.trans ((hb).mono B0.out.size))
  clear hb
  clear ho hs
  go_wp2_with fail
  have q := refOpen_calls A la.length ca la w4 rfl HA0.out hca (by omega)
  with_reducible refine q.mono ?_
  clear q
  rintro e w5 ⟨v, rfl, ho, hb⟩
  obtain ⟨W, cw, rfl, hcw, hs⟩ := Sl.of_own ho rfl
  have LW := Pk.mk hs
  have Z4 := Pk.mk hb.size
  replace HE := Pk.mk (HE.out.mono hb)
  replace HA0 := Pk.mk (HA0.out.mono hb)
  replace HX := Pk.mk (HX.out.mono hb)
  replace LS := Pk.mk (Sl.all LS.out hb)
  replace LO := Pk.mk (Sl.all LO.out hb)
  replace B0 := Pk.mk (B0.out.trans ((hb).mono B0.out.size))
  clear hb
  clear ho hs
  go_wp2_with fail
  have q := open_calls E S (la.length + 4) cs (sealB la) w5 (HE.out.sub (by decide)) (sealB_length la) LS.out.rb hcs (by omega)
  rw [(open_seal la).1, (open_seal la).2, errN_0] at q
  with_reducible refine q.mono ?_
  clear q
  rintro e w6 ⟨v, rfl, ho, hb⟩
  obtain ⟨K, ck, rfl, hck, hs⟩ := Sl.of_own ho rfl
  have LK := Pk.mk hs
  have Z5 := Pk.mk hb.size
  replace HE := Pk.mk (HE.out.mono hb)
  replace HA0 := Pk.mk (HA0.out.mono hb)
  replace HX := Pk.mk (HX.out.mono hb)
  replace LS := Pk.mk (Sl.all LS.out hb)
  replace LO := Pk.mk (Sl.all LO.out hb)
  replace LW := Pk.mk (Sl.all LW.out hb)
  replace B0 := Pk.mk (B0.out.trans ((hb).mono B0.out.size))
  clear hb
  clear ho hs
  have hN := Pk.mk (openN_le la)
  obtain ⟨lo, Hlo⟩ : ∃ lo, Pk (w2.heap.size = lo) := ⟨_, ⟨rfl⟩⟩
  obtain ⟨mid, Hmid⟩ : ∃ mid, Pk (w3.heap.size = mid) := ⟨_, ⟨rfl⟩⟩
  obtain ⟨hi, Hhi⟩ : ∃ hi, Pk (w4.heap.size = hi) := ⟨_, ⟨rfl⟩⟩
  rw [Hlo.out, Hmid.out] at LS
  rw [Hmid.out, Hhi.out] at LO
  have Zs := Pk.mk (show w.heap.size ≤ lo ∧ g < lo ∧ lo ≤ mid ∧ mid ≤ hi ∧ hi ≤ w5.heap.size ∧ hi ≤ w6.heap.size by
    have := Z1.out; have := Z2.out; have := Z3.out; have := Z4.out; have := Z5.out; have := Hlo.out; have := Hmid.out; have := Hhi.out
    omega)
  clear Z1 Z2 Z3 Z4 Z5
  have hlo := Pk.mk (openL_len la)
  go_wp2_with fail
  apply wp_region_phase belowR belowPre 38 [(32, []), (33, [0]), (34, []), (35, [2, 1]), (36, [1, 3]), (37, [4, 3]), (38, [5]), (39, [6, 5]), (40, [5]), (41, [8, 5, 5]), (42, [9, 5]), (43, [7, 10, 5]), (44, [5, 11]), (45, [12, 9]), (46, [13]), (47, [14, 13, 13]), (48, [13]), (49, [15, 16, 13]), (50, [13, 17]), (51, [18, 15]), (52, [19]), (53, [20, 19]), (54, [19]), (55, [22, 19]), (56, [21, 23, 19]), (57, [19, 24]), (58, [25, 19]), (59, [26]), (60, [27, 26]), (61, [26, 28]), (62, [29, 26]), (63, [30]), (64, [31, 30]), (65, [30]), (66, [33, 30]), (67, [32, 34, 30]), (68, [30, 35]), (69, [36, 30])] [isV _, isV (.int .u32 (sumB la : Nat)), isV _, isV (.int .u32 (sumB la : Nat)), isV _, isV _, isV _, isV _, isV _, isR (sealB la) (la.length + 4), isV _, isV _, isV _, isV _, isV _, isV (.int .i64 (openN la : Nat)), isV _, isV _, isV _, isV _, isV _, isV _, isV _, isV _, isV _, isV _, isV _, isV _, isV _, isV _, isV _, isV _, isV _, isV _, isV _, isV _, isV _, isV _] (by kernel_rfl) (by kernel_rfl) (by kernel_rfl)
  case hstab => repeat' first | (intro _ _ _ _ h; exact h) | exact isR_stable | exact trivial | refine And.intro ?_ ?_ | assumption
  case hops =>
    refine eachOp_cons ?_ ?_
    · intro wz hwz
      simp only [eachDep]
      replace hwz : Pk (Below w6.heap.size w6 wz) := hwz
      have k1 := conv_bytes' (w := wz) cs (sealB_length la) (LS.out.rb.mono hwz.out)
      have k2 := conv_bytes' (w := wz) ca rfl (HA0.out.mono hwz.out)
      have k3 := conv_bytes' (w := wz) co rfl (LO.out.rb.mono hwz.out)
      have k4 := conv_bytes' (w := wz) cw rfl (LW.out.rb.mono hwz.out)
      have k5 := conv_bytes' (w := wz) ck rfl (LK.out.rb.mono hwz.out)
      simp only [Step, Act.put, dstIn, List.map_cons, List.getD_cons_zero, List.getD_cons_succ, List.setIfInBounds_toArray, List.set_cons_zero, List.set_cons_succ]
      intro R hR
      rw [if_pos (by rfl)]
      go_simp
      first | exact hR _ _ ⟨⟨Below.refl _ _⟩, isV_mk (w := wz)⟩ | (rw [if_pos (by omega)]; exact hR _ _ ⟨⟨Below.refl _ _⟩, isV_mk (w := wz)⟩)
    refine eachOp_cons ?_ ?_
    · intro wz hwz
      simp only [eachDep]
      replace hwz : Pk (Below w6.heap.size w6 wz) := hwz
      have k1 := conv_bytes' (w := wz) cs (sealB_length la) (LS.out.rb.mono hwz.out)
      have k2 := conv_bytes' (w := wz) ca rfl (HA0.out.mono hwz.out)
      have k3 := conv_bytes' (w := wz) co rfl (LO.out.rb.mono hwz.out)
      have k4 := conv_bytes' (w := wz) cw rfl (LW.out.rb.mono hwz.out)
      have k5 := conv_bytes' (w := wz) ck rfl (LK.out.rb.mono hwz.out)
      (intro v h; have h2 := (id h : v = _); clear h; subst h2)
      simp only [Step, Act.put, dstIn, List.map_cons, List.getD_cons_zero, List.getD_cons_succ, List.setIfInBounds_toArray, List.set_cons_zero, List.set_cons_succ]
      intro R hR
      rw [if_pos (by rfl)]
      go_simp
      first
        | (go_at_call 34; (with_reducible refine (wireSum_calls (some ⟨g, 0, none⟩) la.length (la.length + 6) la _ rfl (HX.out.mono hwz.out).front (by omega)).mono ?_); rintro e w' ⟨rfl, hw⟩; exact hR _ _ ⟨⟨hw ▸ Below.refl _ _⟩, isV_mk (w := w')⟩)
        | (go_at_call 35; (with_reducible refine (refSum_calls A la.length ca la _ rfl (HA0.out.mono hwz.out) (by omega)).mono ?_); rintro e w' ⟨rfl, hw⟩; exact hR _ _ ⟨⟨hw ▸ Below.refl _ _⟩, isV_mk (w := w')⟩)
        | (go_at_call 24; (with_reducible refine (num_calls E (openN la) _ (HE.out.mono hwz.out) hN.out).mono ?_); rintro e w' ⟨rfl, hb⟩; exact hR _ _ ⟨⟨hb⟩, isV_mk (w := w')⟩)
        | (go_at_call 36; (with_reducible refine (refSeal_calls A la.length ca la _ rfl (HA0.out.mono hwz.out) (by omega)).mono ?_); rintro e w' ⟨v, rfl, ho, hb⟩; obtain ⟨A1, c1, rfl, hc1, hr1, _⟩ := own_form ho; exact hR _ _ ⟨⟨hb⟩, ⟨_, _, rfl, sealB_length la, hc1, hr1⟩⟩)
    refine eachOp_cons ?_ ?_
    · intro wz hwz
      simp only [eachDep]
      replace hwz : Pk (Below w6.heap.size w6 wz) := hwz
      have k1 := conv_bytes' (w := wz) cs (sealB_length la) (LS.out.rb.mono hwz.out)
      have k2 := conv_bytes' (w := wz) ca rfl (HA0.out.mono hwz.out)
      have k3 := conv_bytes' (w := wz) co rfl (LO.out.rb.mono hwz.out)
      have k4 := conv_bytes' (w := wz) cw rfl (LW.out.rb.mono hwz.out)
      have k5 := conv_bytes' (w := wz) ck rfl (LK.out.rb.mono hwz.out)
      simp only [Step, Act.put, dstIn, List.map_cons, List.getD_cons_zero, List.getD_cons_succ, List.setIfInBounds_toArray, List.set_cons_zero, List.set_cons_succ]
      intro R hR
      rw [if_pos (by rfl)]
      go_simp
      first | exact hR _ _ ⟨⟨Below.refl _ _⟩, isV_mk (w := wz)⟩ | (rw [if_pos (by omega)]; exact hR _ _ ⟨⟨Below.refl _ _⟩, isV_mk (w := wz)⟩)
    refine eachOp_cons ?_ ?_
    · intro wz hwz
      simp only [eachDep]
      replace hwz : Pk (Below w6.heap.size w6 wz) := hwz
      have k1 := conv_bytes' (w := wz) cs (sealB_length la) (LS.out.rb.mono hwz.out)
      have k2 := conv_bytes' (w := wz) ca rfl (HA0.out.mono hwz.out)
      have k3 := conv_bytes' (w := wz) co rfl (LO.out.rb.mono hwz.out)
      have k4 := conv_bytes' (w := wz) cw rfl (LW.out.rb.mono hwz.out)
      have k5 := conv_bytes' (w := wz) ck rfl (LK.out.rb.mono hwz.out)
      (intro v h; have h2 := (id h : v = _); clear h; subst h2)
      (intro v h; have h2 := (id h : v = _); clear h; subst h2)
      simp only [Step, Act.put, dstIn, List.map_cons, List.getD_cons_zero, List.getD_cons_succ, List.setIfInBounds_toArray, List.set_cons_zero, List.set_cons_succ]
      intro R hR
      rw [if_pos (by rfl)]
      go_simp
      first
        | (go_at_call 34; (with_reducible refine (wireSum_calls (some ⟨g, 0, none⟩) la.length (la.length + 6) la _ rfl (HX.out.mono hwz.out).front (by omega)).mono ?_); rintro e w' ⟨rfl, hw⟩; exact hR _ _ ⟨⟨hw ▸ Below.refl _ _⟩, isV_mk (w := w')⟩)
        | (go_at_call 35; (with_reducible refine (refSum_calls A la.length ca la _ rfl (HA0.out.mono hwz.out) (by omega)).mono ?_); rintro e w' ⟨rfl, hw⟩; exact hR _ _ ⟨⟨hw ▸ Below.refl _ _⟩, isV_mk (w := w')⟩)
        | (go_at_call 24; (with_reducible refine (num_calls E (openN la) _ (HE.out.mono hwz.out) hN.out).mono ?_); rintro e w' ⟨rfl, hb⟩; exact hR _ _ ⟨⟨hb⟩, isV_mk (w := w')⟩)
        | (go_at_call 36; (with_reducible refine (refSeal_calls A la.length ca la _ rfl (HA0.out.mono hwz.out) (by omega)).mono ?_); rintro e w' ⟨v, rfl, ho, hb⟩; obtain ⟨A1, c1, rfl, hc1, hr1, _⟩ := own_form ho; exact hR _ _ ⟨⟨hb⟩, ⟨_, _, rfl, sealB_length la, hc1, hr1⟩⟩)
    refine eachOp_cons ?_ ?_
    · intro wz hwz
      simp only [eachDep]
      replace hwz : Pk (Below w6.heap.size w6 wz) := hwz
      have k1 := conv_bytes' (w := wz) cs (sealB_length la) (LS.out.rb.mono hwz.out)
      have k2 := conv_bytes' (w := wz) ca rfl (HA0.out.mono hwz.out)
      have k3 := conv_bytes' (w := wz) co rfl (LO.out.rb.mono hwz.out)
      have k4 := conv_bytes' (w := wz) cw rfl (LW.out.rb.mono hwz.out)
      have k5 := conv_bytes' (w := wz) ck rfl (LK.out.rb.mono hwz.out)
      (intro v h; have h2 := (id h : v = _); clear h; subst h2)
      (intro v h; have h2 := (id h : v = _); clear h; subst h2)
      simp only [Step, Act.put, dstIn, List.map_cons, List.getD_cons_zero, List.getD_cons_succ, List.setIfInBounds_toArray, List.set_cons_zero, List.set_cons_succ]
      intro R hR
      rw [if_pos (by rfl)]
      go_simp
      first | exact hR _ _ ⟨⟨Below.refl _ _⟩, isV_mk (w := wz)⟩ | (rw [if_pos (by omega)]; exact hR _ _ ⟨⟨Below.refl _ _⟩, isV_mk (w := wz)⟩)
    refine eachOp_cons ?_ ?_
    · intro wz hwz
      simp only [eachDep]
      replace hwz : Pk (Below w6.heap.size w6 wz) := hwz
      have k1 := conv_bytes' (w := wz) cs (sealB_length la) (LS.out.rb.mono hwz.out)
      have k2 := conv_bytes' (w := wz) ca rfl (HA0.out.mono hwz.out)
      have k3 := conv_bytes' (w := wz) co rfl (LO.out.rb.mono hwz.out)
      have k4 := conv_bytes' (w := wz) cw rfl (LW.out.rb.mono hwz.out)
      have k5 := conv_bytes' (w := wz) ck rfl (LK.out.rb.mono hwz.out)
      (intro v h; have h2 := (id h : v = _); clear h; subst h2)
      (intro v h; have h2 := (id h : v = _); clear h; subst h2)
      simp only [Step, Act.put, dstIn, List.map_cons, List.getD_cons_zero, List.getD_cons_succ, List.setIfInBounds_toArray, List.set_cons_zero, List.set_cons_succ]
      intro R hR
      rw [if_pos (by rfl)]
      go_simp
      first | exact hR _ _ ⟨⟨Below.refl _ _⟩, isV_mk (w := wz)⟩ | (rw [if_pos (by omega)]; exact hR _ _ ⟨⟨Below.refl _ _⟩, isV_mk (w := wz)⟩)
    refine eachOp_cons ?_ ?_
    · intro wz hwz
      simp only [eachDep]
      replace hwz : Pk (Below w6.heap.size w6 wz) := hwz
      have k1 := conv_bytes' (w := wz) cs (sealB_length la) (LS.out.rb.mono hwz.out)
      have k2 := conv_bytes' (w := wz) ca rfl (HA0.out.mono hwz.out)
      have k3 := conv_bytes' (w := wz) co rfl (LO.out.rb.mono hwz.out)
      have k4 := conv_bytes' (w := wz) cw rfl (LW.out.rb.mono hwz.out)
      have k5 := conv_bytes' (w := wz) ck rfl (LK.out.rb.mono hwz.out)
      (intro v h; have h2 := (id h : v = _); clear h; subst h2)
      simp only [Step, Act.put, dstIn, List.map_cons, List.getD_cons_zero, List.getD_cons_succ, List.setIfInBounds_toArray, List.set_cons_zero, List.set_cons_succ]
      intro R hR
      rw [if_pos (by rfl)]
      go_simp
      first | exact hR _ _ ⟨⟨Below.refl _ _⟩, isV_mk (w := wz)⟩ | (rw [if_pos (by omega)]; exact hR _ _ ⟨⟨Below.refl _ _⟩, isV_mk (w := wz)⟩)
    refine eachOp_cons ?_ ?_
    · intro wz hwz
      simp only [eachDep]
      replace hwz : Pk (Below w6.heap.size w6 wz) := hwz
      have k1 := conv_bytes' (w := wz) cs (sealB_length la) (LS.out.rb.mono hwz.out)
      have k2 := conv_bytes' (w := wz) ca rfl (HA0.out.mono hwz.out)
      have k3 := conv_bytes' (w := wz) co rfl (LO.out.rb.mono hwz.out)
      have k4 := conv_bytes' (w := wz) cw rfl (LW.out.rb.mono hwz.out)
      have k5 := conv_bytes' (w := wz) ck rfl (LK.out.rb.mono hwz.out)
      (intro v h; have h2 := (id h : v = _); clear h; subst h2)
      (intro v h; have h2 := (id h : v = _); clear h; subst h2)
      simp only [Step, Act.put, dstIn, List.map_cons, List.getD_cons_zero, List.getD_cons_succ, List.setIfInBounds_toArray, List.set_cons_zero, List.set_cons_succ]
      intro R hR
      rw [if_pos (by rfl)]
      go_simp
      first | exact hR _ _ ⟨⟨Below.refl _ _⟩, isV_mk (w := wz)⟩ | (rw [if_pos (by omega)]; exact hR _ _ ⟨⟨Below.refl _ _⟩, isV_mk (w := wz)⟩)
    refine eachOp_cons ?_ ?_
    · intro wz hwz
      simp only [eachDep]
      replace hwz : Pk (Below w6.heap.size w6 wz) := hwz
      have k1 := conv_bytes' (w := wz) cs (sealB_length la) (LS.out.rb.mono hwz.out)
      have k2 := conv_bytes' (w := wz) ca rfl (HA0.out.mono hwz.out)
      have k3 := conv_bytes' (w := wz) co rfl (LO.out.rb.mono hwz.out)
      have k4 := conv_bytes' (w := wz) cw rfl (LW.out.rb.mono hwz.out)
      have k5 := conv_bytes' (w := wz) ck rfl (LK.out.rb.mono hwz.out)
      (intro v h; have h2 := (id h : v = _); clear h; subst h2)
      simp only [Step, Act.put, dstIn, List.map_cons, List.getD_cons_zero, List.getD_cons_succ, List.setIfInBounds_toArray, List.set_cons_zero, List.set_cons_succ]
      intro R hR
      rw [if_pos (by rfl)]
      go_simp
      first | exact hR _ _ ⟨⟨Below.refl _ _⟩, isV_mk (w := wz)⟩ | (rw [if_pos (by omega)]; exact hR _ _ ⟨⟨Below.refl _ _⟩, isV_mk (w := wz)⟩)
    refine eachOp_cons ?_ ?_
    · intro wz hwz
      simp only [eachDep]
      replace hwz : Pk (Below w6.heap.size w6 wz) := hwz
      have k1 := conv_bytes' (w := wz) cs (sealB_length la) (LS.out.rb.mono hwz.out)
      have k2 := conv_bytes' (w := wz) ca rfl (HA0.out.mono hwz.out)
      have k3 := conv_bytes' (w := wz) co rfl (LO.out.rb.mono hwz.out)
      have k4 := conv_bytes' (w := wz) cw rfl (LW.out.rb.mono hwz.out)
      have k5 := conv_bytes' (w := wz) ck rfl (LK.out.rb.mono hwz.out)
      (intro v h; have h2 := (id h : v = _); clear h; subst h2)
      (intro v h; have h2 := (id h : v = _); clear h; subst h2)
      (intro v h; have h2 := (id h : v = _); clear h; subst h2)
      simp only [Step, Act.put, dstIn, List.map_cons, List.getD_cons_zero, List.getD_cons_succ, List.setIfInBounds_toArray, List.set_cons_zero, List.set_cons_succ]
      intro R hR
      rw [if_pos (by rfl)]
      go_simp
      first
        | (go_at_call 34; (with_reducible refine (wireSum_calls (some ⟨g, 0, none⟩) la.length (la.length + 6) la _ rfl (HX.out.mono hwz.out).front (by omega)).mono ?_); rintro e w' ⟨rfl, hw⟩; exact hR _ _ ⟨⟨hw ▸ Below.refl _ _⟩, isV_mk (w := w')⟩)
        | (go_at_call 35; (with_reducible refine (refSum_calls A la.length ca la _ rfl (HA0.out.mono hwz.out) (by omega)).mono ?_); rintro e w' ⟨rfl, hw⟩; exact hR _ _ ⟨⟨hw ▸ Below.refl _ _⟩, isV_mk (w := w')⟩)
        | (go_at_call 24; (with_reducible refine (num_calls E (openN la) _ (HE.out.mono hwz.out) hN.out).mono ?_); rintro e w' ⟨rfl, hb⟩; exact hR _ _ ⟨⟨hb⟩, isV_mk (w := w')⟩)
        | (go_at_call 36; (with_reducible refine (refSeal_calls A la.length ca la _ rfl (HA0.out.mono hwz.out) (by omega)).mono ?_); rintro e w' ⟨v, rfl, ho, hb⟩; obtain ⟨A1, c1, rfl, hc1, hr1, _⟩ := own_form ho; exact hR _ _ ⟨⟨hb⟩, ⟨_, _, rfl, sealB_length la, hc1, hr1⟩⟩)
    refine eachOp_cons ?_ ?_
    · intro wz hwz
      simp only [eachDep]
      replace hwz : Pk (Below w6.heap.size w6 wz) := hwz
      have k1 := conv_bytes' (w := wz) cs (sealB_length la) (LS.out.rb.mono hwz.out)
      have k2 := conv_bytes' (w := wz) ca rfl (HA0.out.mono hwz.out)
      have k3 := conv_bytes' (w := wz) co rfl (LO.out.rb.mono hwz.out)
      have k4 := conv_bytes' (w := wz) cw rfl (LW.out.rb.mono hwz.out)
      have k5 := conv_bytes' (w := wz) ck rfl (LK.out.rb.mono hwz.out)
      rintro _ ⟨A_9, c_9, rfl, hl_9, hc_9, hr_9⟩
      have hv_9 := conv_bytes' c_9 hl_9 hr_9
      (intro v h; have h2 := (id h : v = _); clear h; subst h2)
      simp only [Step, Act.put, dstIn, List.map_cons, List.getD_cons_zero, List.getD_cons_succ, List.setIfInBounds_toArray, List.set_cons_zero, List.set_cons_succ]
      intro R hR
      rw [if_pos (by rfl)]
      go_simp
      first | exact hR _ _ ⟨⟨Below.refl _ _⟩, isV_mk (w := wz)⟩ | (rw [if_pos (by omega)]; exact hR _ _ ⟨⟨Below.refl _ _⟩, isV_mk (w := wz)⟩)
    refine eachOp_cons ?_ ?_
    · intro wz hwz
      simp only [eachDep]
      replace hwz : Pk (Below w6.heap.size w6 wz) := hwz
      have k1 := conv_bytes' (w := wz) cs (sealB_length la) (LS.out.rb.mono hwz.out)
      have k2 := conv_bytes' (w := wz) ca rfl (HA0.out.mono hwz.out)
      have k3 := conv_bytes' (w := wz) co rfl (LO.out.rb.mono hwz.out)
      have k4 := conv_bytes' (w := wz) cw rfl (LW.out.rb.mono hwz.out)
      have k5 := conv_bytes' (w := wz) ck rfl (LK.out.rb.mono hwz.out)
      (intro v h; have h2 := (id h : v = _); clear h; subst h2)
      (intro v h; have h2 := (id h : v = _); clear h; subst h2)
      (intro v h; have h2 := (id h : v = _); clear h; subst h2)
      simp only [Step, Act.put, dstIn, List.map_cons, List.getD_cons_zero, List.getD_cons_succ, List.setIfInBounds_toArray, List.set_cons_zero, List.set_cons_succ]
      intro R hR
      rw [if_pos (by rfl)]
      go_simp
      first | exact hR _ _ ⟨⟨Below.refl _ _⟩, isV_mk (w := wz)⟩ | (rw [if_pos (by omega)]; exact hR _ _ ⟨⟨Below.refl _ _⟩, isV_mk (w := wz)⟩)
    refine eachOp_cons ?_ ?_
    · intro wz hwz
      simp only [eachDep]
      replace hwz : Pk (Below w6.heap.size w6 wz) := hwz
      have k1 := conv_bytes' (w := wz) cs (sealB_length la) (LS.out.rb.mono hwz.out)
      have k2 := conv_bytes' (w := wz) ca rfl (HA0.out.mono hwz.out)
      have k3 := conv_bytes' (w := wz) co rfl (LO.out.rb.mono hwz.out)
      have k4 := conv_bytes' (w := wz) cw rfl (LW.out.rb.mono hwz.out)
      have k5 := conv_bytes' (w := wz) ck rfl (LK.out.rb.mono hwz.out)
      (intro v h; have h2 := (id h : v = _); clear h; subst h2)
      (intro v h; have h2 := (id h : v = _); clear h; subst h2)
      simp only [Step, Act.put, dstIn, List.map_cons, List.getD_cons_zero, List.getD_cons_succ, List.setIfInBounds_toArray, List.set_cons_zero, List.set_cons_succ]
      intro R hR
      rw [if_pos (by rfl)]
      go_simp
      first | exact hR _ _ ⟨⟨Below.refl _ _⟩, isV_mk (w := wz)⟩ | (rw [if_pos (by omega)]; exact hR _ _ ⟨⟨Below.refl _ _⟩, isV_mk (w := wz)⟩)
    refine eachOp_cons ?_ ?_
    · intro wz hwz
      simp only [eachDep]
      replace hwz : Pk (Below w6.heap.size w6 wz) := hwz
      have k1 := conv_bytes' (w := wz) cs (sealB_length la) (LS.out.rb.mono hwz.out)
      have k2 := conv_bytes' (w := wz) ca rfl (HA0.out.mono hwz.out)
      have k3 := conv_bytes' (w := wz) co rfl (LO.out.rb.mono hwz.out)
      have k4 := conv_bytes' (w := wz) cw rfl (LW.out.rb.mono hwz.out)
      have k5 := conv_bytes' (w := wz) ck rfl (LK.out.rb.mono hwz.out)
      (intro v h; have h2 := (id h : v = _); clear h; subst h2)
      rintro _ ⟨A_9, c_9, rfl, hl_9, hc_9, hr_9⟩
      have hv_9 := conv_bytes' c_9 hl_9 hr_9
      simp only [Step, Act.put, dstIn, List.map_cons, List.getD_cons_zero, List.getD_cons_succ, List.setIfInBounds_toArray, List.set_cons_zero, List.set_cons_succ]
      intro R hR
      rw [if_pos (by rfl)]
      go_simp
      first | exact hR _ _ ⟨⟨Below.refl _ _⟩, isV_mk (w := wz)⟩ | (rw [if_pos (by omega)]; exact hR _ _ ⟨⟨Below.refl _ _⟩, isV_mk (w := wz)⟩)
    refine eachOp_cons ?_ ?_
    · intro wz hwz
      simp only [eachDep]
      replace hwz : Pk (Below w6.heap.size w6 wz) := hwz
      have k1 := conv_bytes' (w := wz) cs (sealB_length la) (LS.out.rb.mono hwz.out)
      have k2 := conv_bytes' (w := wz) ca rfl (HA0.out.mono hwz.out)
      have k3 := conv_bytes' (w := wz) co rfl (LO.out.rb.mono hwz.out)
      have k4 := conv_bytes' (w := wz) cw rfl (LW.out.rb.mono hwz.out)
      have k5 := conv_bytes' (w := wz) ck rfl (LK.out.rb.mono hwz.out)
      (intro v h; have h2 := (id h : v = _); clear h; subst h2)
      simp only [Step, Act.put, dstIn, List.map_cons, List.getD_cons_zero, List.getD_cons_succ, List.setIfInBounds_toArray, List.set_cons_zero, List.set_cons_succ]
      intro R hR
      rw [if_pos (by rfl)]
      go_simp
      first | exact hR _ _ ⟨⟨Below.refl _ _⟩, isV_mk (w := wz)⟩ | (rw [if_pos (by omega)]; exact hR _ _ ⟨⟨Below.refl _ _⟩, isV_mk (w := wz)⟩)
    refine eachOp_cons ?_ ?_
    · intro wz hwz
      simp only [eachDep]
      replace hwz : Pk (Below w6.heap.size w6 wz) := hwz
      have k1 := conv_bytes' (w := wz) cs (sealB_length la) (LS.out.rb.mono hwz.out)
      have k2 := conv_bytes' (w := wz) ca rfl (HA0.out.mono hwz.out)
      have k3 := conv_bytes' (w := wz) co rfl (LO.out.rb.mono hwz.out)
      have k4 := conv_bytes' (w := wz) cw rfl (LW.out.rb.mono hwz.out)
      have k5 := conv_bytes' (w := wz) ck rfl (LK.out.rb.mono hwz.out)
      (intro v h; have h2 := (id h : v = _); clear h; subst h2)
      (intro v h; have h2 := (id h : v = _); clear h; subst h2)
      (intro v h; have h2 := (id h : v = _); clear h; subst h2)
      simp only [Step, Act.put, dstIn, List.map_cons, List.getD_cons_zero, List.getD_cons_succ, List.setIfInBounds_toArray, List.set_cons_zero, List.set_cons_succ]
      intro R hR
      rw [if_pos (by rfl)]
      go_simp
      first
        | (go_at_call 34; (with_reducible refine (wireSum_calls (some ⟨g, 0, none⟩) la.length (la.length + 6) la _ rfl (HX.out.mono hwz.out).front (by omega)).mono ?_); rintro e w' ⟨rfl, hw⟩; exact hR _ _ ⟨⟨hw ▸ Below.refl _ _⟩, isV_mk (w := w')⟩)
        | (go_at_call 35; (with_reducible refine (refSum_calls A la.length ca la _ rfl (HA0.out.mono hwz.out) (by omega)).mono ?_); rintro e w' ⟨rfl, hw⟩; exact hR _ _ ⟨⟨hw ▸ Below.refl _ _⟩, isV_mk (w := w')⟩)
        | (go_at_call 24; (with_reducible refine (num_calls E (openN la) _ (HE.out.mono hwz.out) hN.out).mono ?_); rintro e w' ⟨rfl, hb⟩; exact hR _ _ ⟨⟨hb⟩, isV_mk (w := w')⟩)
        | (go_at_call 36; (with_reducible refine (refSeal_calls A la.length ca la _ rfl (HA0.out.mono hwz.out) (by omega)).mono ?_); rintro e w' ⟨v, rfl, ho, hb⟩; obtain ⟨A1, c1, rfl, hc1, hr1, _⟩ := own_form ho; exact hR _ _ ⟨⟨hb⟩, ⟨_, _, rfl, sealB_length la, hc1, hr1⟩⟩)
    refine eachOp_cons ?_ ?_
    · intro wz hwz
      simp only [eachDep]
      replace hwz : Pk (Below w6.heap.size w6 wz) := hwz
      have k1 := conv_bytes' (w := wz) cs (sealB_length la) (LS.out.rb.mono hwz.out)
      have k2 := conv_bytes' (w := wz) ca rfl (HA0.out.mono hwz.out)
      have k3 := conv_bytes' (w := wz) co rfl (LO.out.rb.mono hwz.out)
      have k4 := conv_bytes' (w := wz) cw rfl (LW.out.rb.mono hwz.out)
      have k5 := conv_bytes' (w := wz) ck rfl (LK.out.rb.mono hwz.out)
      (intro v h; have h2 := (id h : v = _); clear h; subst h2)
      simp only [Step, Act.put, dstIn, List.map_cons, List.getD_cons_zero, List.getD_cons_succ, List.setIfInBounds_toArray, List.set_cons_zero, List.set_cons_succ]
      intro R hR
      rw [if_pos (by rfl)]
      go_simp
      first | exact hR _ _ ⟨⟨Below.refl _ _⟩, isV_mk (w := wz)⟩ | (rw [if_pos (by omega)]; exact hR _ _ ⟨⟨Below.refl _ _⟩, isV_mk (w := wz)⟩)
    refine eachOp_cons ?_ ?_
    · intro wz hwz
      simp only [eachDep]
      replace hwz : Pk (Below w6.heap.size w6 wz) := hwz
      have k1 := conv_bytes' (w := wz) cs (sealB_length la) (LS.out.rb.mono hwz.out)
      have k2 := conv_bytes' (w := wz) ca rfl (HA0.out.mono hwz.out)
      have k3 := conv_bytes' (w := wz) co rfl (LO.out.rb.mono hwz.out)
      have k4 := conv_bytes' (w := wz) cw rfl (LW.out.rb.mono hwz.out)
      have k5 := conv_bytes' (w := wz) ck rfl (LK.out.rb.mono hwz.out)
      (intro v h; have h2 := (id h : v = _); clear h; subst h2)
      (intro v h; have h2 := (id h : v = _); clear h; subst h2)
      (intro v h; have h2 := (id h : v = _); clear h; subst h2)
      simp only [Step, Act.put, dstIn, List.map_cons, List.getD_cons_zero, List.getD_cons_succ, List.setIfInBounds_toArray, List.set_cons_zero, List.set_cons_succ]
      intro R hR
      rw [if_pos (by rfl)]
      go_simp
      first | exact hR _ _ ⟨⟨Below.refl _ _⟩, isV_mk (w := wz)⟩ | (rw [if_pos (by omega)]; exact hR _ _ ⟨⟨Below.refl _ _⟩, isV_mk (w := wz)⟩)
    refine eachOp_cons ?_ ?_
    · intro wz hwz
      simp only [eachDep]
      replace hwz : Pk (Below w6.heap.size w6 wz) := hwz
      have k1 := conv_bytes' (w := wz) cs (sealB_length la) (LS.out.rb.mono hwz.out)
      have k2 := conv_bytes' (w := wz) ca rfl (HA0.out.mono hwz.out)
      have k3 := conv_bytes' (w := wz) co rfl (LO.out.rb.mono hwz.out)
      have k4 := conv_bytes' (w := wz) cw rfl (LW.out.rb.mono hwz.out)
      have k5 := conv_bytes' (w := wz) ck rfl (LK.out.rb.mono hwz.out)
      (intro v h; have h2 := (id h : v = _); clear h; subst h2)
      (intro v h; have h2 := (id h : v = _); clear h; subst h2)
      simp only [Step, Act.put, dstIn, List.map_cons, List.getD_cons_zero, List.getD_cons_succ, List.setIfInBounds_toArray, List.set_cons_zero, List.set_cons_succ]
      intro R hR
      rw [if_pos (by rfl)]
      go_simp
      first | exact hR _ _ ⟨⟨Below.refl _ _⟩, isV_mk (w := wz)⟩ | (rw [if_pos (by omega)]; exact hR _ _ ⟨⟨Below.refl _ _⟩, isV_mk (w := wz)⟩)
    refine eachOp_cons ?_ ?_
    · intro wz hwz
      simp only [eachDep]
      replace hwz : Pk (Below w6.heap.size w6 wz) := hwz
      have k1 := conv_bytes' (w := wz) cs (sealB_length la) (LS.out.rb.mono hwz.out)
      have k2 := conv_bytes' (w := wz) ca rfl (HA0.out.mono hwz.out)
      have k3 := conv_bytes' (w := wz) co rfl (LO.out.rb.mono hwz.out)
      have k4 := conv_bytes' (w := wz) cw rfl (LW.out.rb.mono hwz.out)
      have k5 := conv_bytes' (w := wz) ck rfl (LK.out.rb.mono hwz.out)
      (intro v h; have h2 := (id h : v = _); clear h; subst h2)
      (intro v h; have h2 := (id h : v = _); clear h; subst h2)
      simp only [Step, Act.put, dstIn, List.map_cons, List.getD_cons_zero, List.getD_cons_succ, List.setIfInBounds_toArray, List.set_cons_zero, List.set_cons_succ]
      intro R hR
      rw [if_pos (by rfl)]
      go_simp
      first | exact hR _ _ ⟨⟨Below.refl _ _⟩, isV_mk (w := wz)⟩ | (rw [if_pos (by omega)]; exact hR _ _ ⟨⟨Below.refl _ _⟩, isV_mk (w := wz)⟩)
    refine eachOp_cons ?_ ?_
    · intro wz hwz
      simp only [eachDep]
      replace hwz : Pk (Below w6.heap.size w6 wz) := hwz
      have k1 := conv_bytes' (w := wz) cs (sealB_length la) (LS.out.rb.mono hwz.out)
      have k2 := conv_bytes' (w := wz) ca rfl (HA0.out.mono hwz.out)
      have k3 := conv_bytes' (w := wz) co rfl (LO.out.rb.mono hwz.out)
      have k4 := conv_bytes' (w := wz) cw rfl (LW.out.rb.mono hwz.out)
      have k5 := conv_bytes' (w := wz) ck rfl (LK.out.rb.mono hwz.out)
      (intro v h; have h2 := (id h : v = _); clear h; subst h2)
      simp only [Step, Act.put, dstIn, List.map_cons, List.getD_cons_zero, List.getD_cons_succ, List.setIfInBounds_toArray, List.set_cons_zero, List.set_cons_succ]
      intro R hR
      rw [if_pos (by rfl)]
      go_simp
      first | exact hR _ _ ⟨⟨Below.refl _ _⟩, isV_mk (w := wz)⟩ | (rw [if_pos (by omega)]; exact hR _ _ ⟨⟨Below.refl _ _⟩, isV_mk (w := wz)⟩)
    refine eachOp_cons ?_ ?_
    · intro wz hwz
      simp only [eachDep]
      replace hwz : Pk (Below w6.heap.size w6 wz) := hwz
      have k1 := conv_bytes' (w := wz) cs (sealB_length la) (LS.out.rb.mono hwz.out)
      have k2 := conv_bytes' (w := wz) ca rfl (HA0.out.mono hwz.out)
      have k3 := conv_bytes' (w := wz) co rfl (LO.out.rb.mono hwz.out)
      have k4 := conv_bytes' (w := wz) cw rfl (LW.out.rb.mono hwz.out)
      have k5 := conv_bytes' (w := wz) ck rfl (LK.out.rb.mono hwz.out)
      (intro v h; have h2 := (id h : v = _); clear h; subst h2)
      (intro v h; have h2 := (id h : v = _); clear h; subst h2)
      simp only [Step, Act.put, dstIn, List.map_cons, List.getD_cons_zero, List.getD_cons_succ, List.setIfInBounds_toArray, List.set_cons_zero, List.set_cons_succ]
      intro R hR
      rw [if_pos (by rfl)]
      go_simp
      first | exact hR _ _ ⟨⟨Below.refl _ _⟩, isV_mk (w := wz)⟩ | (rw [if_pos (by omega)]; exact hR _ _ ⟨⟨Below.refl _ _⟩, isV_mk (w := wz)⟩)
    refine eachOp_cons ?_ ?_
    · intro wz hwz
      simp only [eachDep]
      replace hwz : Pk (Below w6.heap.size w6 wz) := hwz
      have k1 := conv_bytes' (w := wz) cs (sealB_length la) (LS.out.rb.mono hwz.out)
      have k2 := conv_bytes' (w := wz) ca rfl (HA0.out.mono hwz.out)
      have k3 := conv_bytes' (w := wz) co rfl (LO.out.rb.mono hwz.out)
      have k4 := conv_bytes' (w := wz) cw rfl (LW.out.rb.mono hwz.out)
      have k5 := conv_bytes' (w := wz) ck rfl (LK.out.rb.mono hwz.out)
      (intro v h; have h2 := (id h : v = _); clear h; subst h2)
      simp only [Step, Act.put, dstIn, List.map_cons, List.getD_cons_zero, List.getD_cons_succ, List.setIfInBounds_toArray, List.set_cons_zero, List.set_cons_succ]
      intro R hR
      rw [if_pos (by rfl)]
      go_simp
      first | exact hR _ _ ⟨⟨Below.refl _ _⟩, isV_mk (w := wz)⟩ | (rw [if_pos (by omega)]; exact hR _ _ ⟨⟨Below.refl _ _⟩, isV_mk (w := wz)⟩)
    refine eachOp_cons ?_ ?_
    · intro wz hwz
      simp only [eachDep]
      replace hwz : Pk (Below w6.heap.size w6 wz) := hwz
      have k1 := conv_bytes' (w := wz) cs (sealB_length la) (LS.out.rb.mono hwz.out)
      have k2 := conv_bytes' (w := wz) ca rfl (HA0.out.mono hwz.out)
      have k3 := conv_bytes' (w := wz) co rfl (LO.out.rb.mono hwz.out)
      have k4 := conv_bytes' (w := wz) cw rfl (LW.out.rb.mono hwz.out)
      have k5 := conv_bytes' (w := wz) ck rfl (LK.out.rb.mono hwz.out)
      (intro v h; have h2 := (id h : v = _); clear h; subst h2)
      (intro v h; have h2 := (id h : v = _); clear h; subst h2)
      simp only [Step, Act.put, dstIn, List.map_cons, List.getD_cons_zero, List.getD_cons_succ, List.setIfInBounds_toArray, List.set_cons_zero, List.set_cons_succ]
      intro R hR
      rw [if_pos (by rfl)]
      go_simp
      first | exact hR _ _ ⟨⟨Below.refl _ _⟩, isV_mk (w := wz)⟩ | (rw [if_pos (by omega)]; exact hR _ _ ⟨⟨Below.refl _ _⟩, isV_mk (w := wz)⟩)
    refine eachOp_cons ?_ ?_
    · intro wz hwz
      simp only [eachDep]
      replace hwz : Pk (Below w6.heap.size w6 wz) := hwz
      have k1 := conv_bytes' (w := wz) cs (sealB_length la) (LS.out.rb.mono hwz.out)
      have k2 := conv_bytes' (w := wz) ca rfl (HA0.out.mono hwz.out)
      have k3 := conv_bytes' (w := wz) co rfl (LO.out.rb.mono hwz.out)
      have k4 := conv_bytes' (w := wz) cw rfl (LW.out.rb.mono hwz.out)
      have k5 := conv_bytes' (w := wz) ck rfl (LK.out.rb.mono hwz.out)
      (intro v h; have h2 := (id h : v = _); clear h; subst h2)
      (intro v h; have h2 := (id h : v = _); clear h; subst h2)
      (intro v h; have h2 := (id h : v = _); clear h; subst h2)
      simp only [Step, Act.put, dstIn, List.map_cons, List.getD_cons_zero, List.getD_cons_succ, List.setIfInBounds_toArray, List.set_cons_zero, List.set_cons_succ]
      intro R hR
      rw [if_pos (by rfl)]
      go_simp
      first | exact hR _ _ ⟨⟨Below.refl _ _⟩, isV_mk (w := wz)⟩ | (rw [if_pos (by omega)]; exact hR _ _ ⟨⟨Below.refl _ _⟩, isV_mk (w := wz)⟩)
    refine eachOp_cons ?_ ?_
    · intro wz hwz
      simp only [eachDep]
      replace hwz : Pk (Below w6.heap.size w6 wz) := hwz
      have k1 := conv_bytes' (w := wz) cs (sealB_length la) (LS.out.rb.mono hwz.out)
      have k2 := conv_bytes' (w := wz) ca rfl (HA0.out.mono hwz.out)
      have k3 := conv_bytes' (w := wz) co rfl (LO.out.rb.mono hwz.out)
      have k4 := conv_bytes' (w := wz) cw rfl (LW.out.rb.mono hwz.out)
      have k5 := conv_bytes' (w := wz) ck rfl (LK.out.rb.mono hwz.out)
      (intro v h; have h2 := (id h : v = _); clear h; subst h2)
      (intro v h; have h2 := (id h : v = _); clear h; subst h2)
      simp only [Step, Act.put, dstIn, List.map_cons, List.getD_cons_zero, List.getD_cons_succ, List.setIfInBounds_toArray, List.set_cons_zero, List.set_cons_succ]
      intro R hR
      rw [if_pos (by rfl)]
      go_simp
      first | exact hR _ _ ⟨⟨Below.refl _ _⟩, isV_mk (w := wz)⟩ | (rw [if_pos (by omega)]; exact hR _ _ ⟨⟨Below.refl _ _⟩, isV_mk (w := wz)⟩)
    refine eachOp_cons ?_ ?_
    · intro wz hwz
      simp only [eachDep]
      replace hwz : Pk (Below w6.heap.size w6 wz) := hwz
      have k1 := conv_bytes' (w := wz) cs (sealB_length la) (LS.out.rb.mono hwz.out)
      have k2 := conv_bytes' (w := wz) ca rfl (HA0.out.mono hwz.out)
      have k3 := conv_bytes' (w := wz) co rfl (LO.out.rb.mono hwz.out)
      have k4 := conv_bytes' (w := wz) cw rfl (LW.out.rb.mono hwz.out)
      have k5 := conv_bytes' (w := wz) ck rfl (LK.out.rb.mono hwz.out)
      (intro v h; have h2 := (id h : v = _); clear h; subst h2)
      (intro v h; have h2 := (id h : v = _); clear h; subst h2)
      simp only [Step, Act.put, dstIn, List.map_cons, List.getD_cons_zero, List.getD_cons_succ, List.setIfInBounds_toArray, List.set_cons_zero, List.set_cons_succ]
      intro R hR
      rw [if_pos (by rfl)]
      go_simp
      first | exact hR _ _ ⟨⟨Below.refl _ _⟩, isV_mk (w := wz)⟩ | (rw [if_pos (by omega)]; exact hR _ _ ⟨⟨Below.refl _ _⟩, isV_mk (w := wz)⟩)
    refine eachOp_cons ?_ ?_
    · intro wz hwz
      simp only [eachDep]
      replace hwz : Pk (Below w6.heap.size w6 wz) := hwz
      have k1 := conv_bytes' (w := wz) cs (sealB_length la) (LS.out.rb.mono hwz.out)
      have k2 := conv_bytes' (w := wz) ca rfl (HA0.out.mono hwz.out)
      have k3 := conv_bytes' (w := wz) co rfl (LO.out.rb.mono hwz.out)
      have k4 := conv_bytes' (w := wz) cw rfl (LW.out.rb.mono hwz.out)
      have k5 := conv_bytes' (w := wz) ck rfl (LK.out.rb.mono hwz.out)
      (intro v h; have h2 := (id h : v = _); clear h; subst h2)
      simp only [Step, Act.put, dstIn, List.map_cons, List.getD_cons_zero, List.getD_cons_succ, List.setIfInBounds_toArray, List.set_cons_zero, List.set_cons_succ]
      intro R hR
      rw [if_pos (by rfl)]
      go_simp
      first | exact hR _ _ ⟨⟨Below.refl _ _⟩, isV_mk (w := wz)⟩ | (rw [if_pos (by omega)]; exact hR _ _ ⟨⟨Below.refl _ _⟩, isV_mk (w := wz)⟩)
    refine eachOp_cons ?_ ?_
    · intro wz hwz
      simp only [eachDep]
      replace hwz : Pk (Below w6.heap.size w6 wz) := hwz
      have k1 := conv_bytes' (w := wz) cs (sealB_length la) (LS.out.rb.mono hwz.out)
      have k2 := conv_bytes' (w := wz) ca rfl (HA0.out.mono hwz.out)
      have k3 := conv_bytes' (w := wz) co rfl (LO.out.rb.mono hwz.out)
      have k4 := conv_bytes' (w := wz) cw rfl (LW.out.rb.mono hwz.out)
      have k5 := conv_bytes' (w := wz) ck rfl (LK.out.rb.mono hwz.out)
      (intro v h; have h2 := (id h : v = _); clear h; subst h2)
      (intro v h; have h2 := (id h : v = _); clear h; subst h2)
      simp only [Step, Act.put, dstIn, List.map_cons, List.getD_cons_zero, List.getD_cons_succ, List.setIfInBounds_toArray, List.set_cons_zero, List.set_cons_succ]
      intro R hR
      rw [if_pos (by rfl)]
      go_simp
      first | exact hR _ _ ⟨⟨Below.refl _ _⟩, isV_mk (w := wz)⟩ | (rw [if_pos (by omega)]; exact hR _ _ ⟨⟨Below.refl _ _⟩, isV_mk (w := wz)⟩)
    refine eachOp_cons ?_ ?_
    · intro wz hwz
      simp only [eachDep]
      replace hwz : Pk (Below w6.heap.size w6 wz) := hwz
      have k1 := conv_bytes' (w := wz) cs (sealB_length la) (LS.out.rb.mono hwz.out)
      have k2 := conv_bytes' (w := wz) ca rfl (HA0.out.mono hwz.out)
      have k3 := conv_bytes' (w := wz) co rfl (LO.out.rb.mono hwz.out)
      have k4 := conv_bytes' (w := wz) cw rfl (LW.out.rb.mono hwz.out)
      have k5 := conv_bytes' (w := wz) ck rfl (LK.out.rb.mono hwz.out)
      (intro v h; have h2 := (id h : v = _); clear h; subst h2)
      (intro v h; have h2 := (id h : v = _); clear h; subst h2)
      simp only [Step, Act.put, dstIn, List.map_cons, List.getD_cons_zero, List.getD_cons_succ, List.setIfInBounds_toArray, List.set_cons_zero, List.set_cons_succ]
      intro R hR
      rw [if_pos (by rfl)]
      go_simp
      first | exact hR _ _ ⟨⟨Below.refl _ _⟩, isV_mk (w := wz)⟩ | (rw [if_pos (by omega)]; exact hR _ _ ⟨⟨Below.refl _ _⟩, isV_mk (w := wz)⟩)
    refine eachOp_cons ?_ ?_
    · intro wz hwz
      simp only [eachDep]
      replace hwz : Pk (Below w6.heap.size w6 wz) := hwz
      have k1 := conv_bytes' (w := wz) cs (sealB_length la) (LS.out.rb.mono hwz.out)
      have k2 := conv_bytes' (w := wz) ca rfl (HA0.out.mono hwz.out)
      have k3 := conv_bytes' (w := wz) co rfl (LO.out.rb.mono hwz.out)
      have k4 := conv_bytes' (w := wz) cw rfl (LW.out.rb.mono hwz.out)
      have k5 := conv_bytes' (w := wz) ck rfl (LK.out.rb.mono hwz.out)
      (intro v h; have h2 := (id h : v = _); clear h; subst h2)
      (intro v h; have h2 := (id h : v = _); clear h; subst h2)
      simp only [Step, Act.put, dstIn, List.map_cons, List.getD_cons_zero, List.getD_cons_succ, List.setIfInBounds_toArray, List.set_cons_zero, List.set_cons_succ]
      intro R hR
      rw [if_pos (by rfl)]
      go_simp
      first | exact hR _ _ ⟨⟨Below.refl _ _⟩, isV_mk (w := wz)⟩ | (rw [if_pos (by omega)]; exact hR _ _ ⟨⟨Below.refl _ _⟩, isV_mk (w := wz)⟩)
    refine eachOp_cons ?_ ?_
    · intro wz hwz
      simp only [eachDep]
      replace hwz : Pk (Below w6.heap.size w6 wz) := hwz
      have k1 := conv_bytes' (w := wz) cs (sealB_length la) (LS.out.rb.mono hwz.out)
      have k2 := conv_bytes' (w := wz) ca rfl (HA0.out.mono hwz.out)
      have k3 := conv_bytes' (w := wz) co rfl (LO.out.rb.mono hwz.out)
      have k4 := conv_bytes' (w := wz) cw rfl (LW.out.rb.mono hwz.out)
      have k5 := conv_bytes' (w := wz) ck rfl (LK.out.rb.mono hwz.out)
      (intro v h; have h2 := (id h : v = _); clear h; subst h2)
      simp only [Step, Act.put, dstIn, List.map_cons, List.getD_cons_zero, List.getD_cons_succ, List.setIfInBounds_toArray, List.set_cons_zero, List.set_cons_succ]
      intro R hR
      rw [if_pos (by rfl)]
      go_simp
      first | exact hR _ _ ⟨⟨Below.refl _ _⟩, isV_mk (w := wz)⟩ | (rw [if_pos (by omega)]; exact hR _ _ ⟨⟨Below.refl _ _⟩, isV_mk (w := wz)⟩)
    refine eachOp_cons ?_ ?_
    · intro wz hwz
      simp only [eachDep]
      replace hwz : Pk (Below w6.heap.size w6 wz) := hwz
      have k1 := conv_bytes' (w := wz) cs (sealB_length la) (LS.out.rb.mono hwz.out)
      have k2 := conv_bytes' (w := wz) ca rfl (HA0.out.mono hwz.out)
      have k3 := conv_bytes' (w := wz) co rfl (LO.out.rb.mono hwz.out)
      have k4 := conv_bytes' (w := wz) cw rfl (LW.out.rb.mono hwz.out)
      have k5 := conv_bytes' (w := wz) ck rfl (LK.out.rb.mono hwz.out)
      (intro v h; have h2 := (id h : v = _); clear h; subst h2)
      (intro v h; have h2 := (id h : v = _); clear h; subst h2)
      simp only [Step, Act.put, dstIn, List.map_cons, List.getD_cons_zero, List.getD_cons_succ, List.setIfInBounds_toArray, List.set_cons_zero, List.set_cons_succ]
      intro R hR
      rw [if_pos (by rfl)]
      go_simp
      first | exact hR _ _ ⟨⟨Below.refl _ _⟩, isV_mk (w := wz)⟩ | (rw [if_pos (by omega)]; exact hR _ _ ⟨⟨Below.refl _ _⟩, isV_mk (w := wz)⟩)
    refine eachOp_cons ?_ ?_
    · intro wz hwz
      simp only [eachDep]
      replace hwz : Pk (Below w6.heap.size w6 wz) := hwz
      have k1 := conv_bytes' (w := wz) cs (sealB_length la) (LS.out.rb.mono hwz.out)
      have k2 := conv_bytes' (w := wz) ca rfl (HA0.out.mono hwz.out)
      have k3 := conv_bytes' (w := wz) co rfl (LO.out.rb.mono hwz.out)
      have k4 := conv_bytes' (w := wz) cw rfl (LW.out.rb.mono hwz.out)
      have k5 := conv_bytes' (w := wz) ck rfl (LK.out.rb.mono hwz.out)
      (intro v h; have h2 := (id h : v = _); clear h; subst h2)
      simp only [Step, Act.put, dstIn, List.map_cons, List.getD_cons_zero, List.getD_cons_succ, List.setIfInBounds_toArray, List.set_cons_zero, List.set_cons_succ]
      intro R hR
      rw [if_pos (by rfl)]
      go_simp
      first | exact hR _ _ ⟨⟨Below.refl _ _⟩, isV_mk (w := wz)⟩ | (rw [if_pos (by omega)]; exact hR _ _ ⟨⟨Below.refl _ _⟩, isV_mk (w := wz)⟩)
    refine eachOp_cons ?_ ?_
    · intro wz hwz
      simp only [eachDep]
      replace hwz : Pk (Below w6.heap.size w6 wz) := hwz
      have k1 := conv_bytes' (w := wz) cs (sealB_length la) (LS.out.rb.mono hwz.out)
      have k2 := conv_bytes' (w := wz) ca rfl (HA0.out.mono hwz.out)
      have k3 := conv_bytes' (w := wz) co rfl (LO.out.rb.mono hwz.out)
      have k4 := conv_bytes' (w := wz) cw rfl (LW.out.rb.mono hwz.out)
      have k5 := conv_bytes' (w := wz) ck rfl (LK.out.rb.mono hwz.out)
      (intro v h; have h2 := (id h : v = _); clear h; subst h2)
      (intro v h; have h2 := (id h : v = _); clear h; subst h2)
      simp only [Step, Act.put, dstIn, List.map_cons, List.getD_cons_zero, List.getD_cons_succ, List.setIfInBounds_toArray, List.set_cons_zero, List.set_cons_succ]
      intro R hR
      rw [if_pos (by rfl)]
      go_simp
      first | exact hR _ _ ⟨⟨Below.refl _ _⟩, isV_mk (w := wz)⟩ | (rw [if_pos (by omega)]; exact hR _ _ ⟨⟨Below.refl _ _⟩, isV_mk (w := wz)⟩)
    refine eachOp_cons ?_ ?_
    · intro wz hwz
      simp only [eachDep]
      replace hwz : Pk (Below w6.heap.size w6 wz) := hwz
      have k1 := conv_bytes' (w := wz) cs (sealB_length la) (LS.out.rb.mono hwz.out)
      have k2 := conv_bytes' (w := wz) ca rfl (HA0.out.mono hwz.out)
      have k3 := conv_bytes' (w := wz) co rfl (LO.out.rb.mono hwz.out)
      have k4 := conv_bytes' (w := wz) cw rfl (LW.out.rb.mono hwz.out)
      have k5 := conv_bytes' (w := wz) ck rfl (LK.out.rb.mono hwz.out)
      (intro v h; have h2 := (id h : v = _); clear h; subst h2)
      (intro v h; have h2 := (id h : v = _); clear h; subst h2)
      (intro v h; have h2 := (id h : v = _); clear h; subst h2)
      simp only [Step, Act.put, dstIn, List.map_cons, List.getD_cons_zero, List.getD_cons_succ, List.setIfInBounds_toArray, List.set_cons_zero, List.set_cons_succ]
      intro R hR
      rw [if_pos (by rfl)]
      go_simp
      first | exact hR _ _ ⟨⟨Below.refl _ _⟩, isV_mk (w := wz)⟩ | (rw [if_pos (by omega)]; exact hR _ _ ⟨⟨Below.refl _ _⟩, isV_mk (w := wz)⟩)
    refine eachOp_cons ?_ ?_
    · intro wz hwz
      simp only [eachDep]
      replace hwz : Pk (Below w6.heap.size w6 wz) := hwz
      have k1 := conv_bytes' (w := wz) cs (sealB_length la) (LS.out.rb.mono hwz.out)
      have k2 := conv_bytes' (w := wz) ca rfl (HA0.out.mono hwz.out)
      have k3 := conv_bytes' (w := wz) co rfl (LO.out.rb.mono hwz.out)
      have k4 := conv_bytes' (w := wz) cw rfl (LW.out.rb.mono hwz.out)
      have k5 := conv_bytes' (w := wz) ck rfl (LK.out.rb.mono hwz.out)
      (intro v h; have h2 := (id h : v = _); clear h; subst h2)
      (intro v h; have h2 := (id h : v = _); clear h; subst h2)
      simp only [Step, Act.put, dstIn, List.map_cons, List.getD_cons_zero, List.getD_cons_succ, List.setIfInBounds_toArray, List.set_cons_zero, List.set_cons_succ]
      intro R hR
      rw [if_pos (by rfl)]
      go_simp
      first | exact hR _ _ ⟨⟨Below.refl _ _⟩, isV_mk (w := wz)⟩ | (rw [if_pos (by omega)]; exact hR _ _ ⟨⟨Below.refl _ _⟩, isV_mk (w := wz)⟩)
    refine eachOp_cons ?_ ?_
    · intro wz hwz
      simp only [eachDep]
      replace hwz : Pk (Below w6.heap.size w6 wz) := hwz
      have k1 := conv_bytes' (w := wz) cs (sealB_length la) (LS.out.rb.mono hwz.out)
      have k2 := conv_bytes' (w := wz) ca rfl (HA0.out.mono hwz.out)
      have k3 := conv_bytes' (w := wz) co rfl (LO.out.rb.mono hwz.out)
      have k4 := conv_bytes' (w := wz) cw rfl (LW.out.rb.mono hwz.out)
      have k5 := conv_bytes' (w := wz) ck rfl (LK.out.rb.mono hwz.out)
      (intro v h; have h2 := (id h : v = _); clear h; subst h2)
      (intro v h; have h2 := (id h : v = _); clear h; subst h2)
      simp only [Step, Act.put, dstIn, List.map_cons, List.getD_cons_zero, List.getD_cons_succ, List.setIfInBounds_toArray, List.set_cons_zero, List.set_cons_succ]
      intro R hR
      rw [if_pos (by rfl)]
      go_simp
      first | exact hR _ _ ⟨⟨Below.refl _ _⟩, isV_mk (w := wz)⟩ | (rw [if_pos (by omega)]; exact hR _ _ ⟨⟨Below.refl _ _⟩, isV_mk (w := wz)⟩)
    exact eachOp_nil
  intro wq hwq
  simp only [eachDep, List.range', Nat.reduceSub, Nat.reduceAdd, Nat.zero_add]
  (intro v h; have h2 := (id h : v = _); clear h; subst h2)
  (intro v h; have h2 := (id h : v = _); clear h; subst h2)
  (intro v h; have h2 := (id h : v = _); clear h; subst h2)
  (intro v h; have h2 := (id h : v = _); clear h; subst h2)
  (intro v h; have h2 := (id h : v = _); clear h; subst h2)
  (intro v h; have h2 := (id h : v = _); clear h; subst h2)
  (intro v h; have h2 := (id h : v = _); clear h; subst h2)
  (intro v h; have h2 := (id h : v = _); clear h; subst h2)
  (intro v h; have h2 := (id h : v = _); clear h; subst h2)
  rintro _ ⟨A_9, c_9, rfl, hl_9, hc_9, hr_9⟩
  have hv_9 := conv_bytes' c_9 hl_9 hr_9
  (intro v h; have h2 := (id h : v = _); clear h; subst h2)
  (intro v h; have h2 := (id h : v = _); clear h; subst h2)
  (intro v h; have h2 := (id h : v = _); clear h; subst h2)
  (intro v h; have h2 := (id h : v = _); clear h; subst h2)
  (intro v h; have h2 := (id h : v = _); clear h; subst h2)
  (intro v h; have h2 := (id h : v = _); clear h; subst h2)
  (intro v h; have h2 := (id h : v = _); clear h; subst h2)
  (intro v h; have h2 := (id h : v = _); clear h; subst h2)
  (intro v h; have h2 := (id h : v = _); clear h; subst h2)
  (intro v h; have h2 := (id h : v = _); clear h; subst h2)
  (intro v h; have h2 := (id h : v = _); clear h; subst h2)
  (intro v h; have h2 := (id h : v = _); clear h; subst h2)
  (intro v h; have h2 := (id h : v = _); clear h; subst h2)
  (intro v h; have h2 := (id h : v = _); clear h; subst h2)
  (intro v h; have h2 := (id h : v = _); clear h; subst h2)
  (intro v h; have h2 := (id h : v = _); clear h; subst h2)
  (intro v h; have h2 := (id h : v = _); clear h; subst h2)
  (intro v h; have h2 := (id h : v = _); clear h; subst h2)
  (intro v h; have h2 := (id h : v = _); clear h; subst h2)
  (intro v h; have h2 := (id h : v = _); clear h; subst h2)
  (intro v h; have h2 := (id h : v = _); clear h; subst h2)
  (intro v h; have h2 := (id h : v = _); clear h; subst h2)
  (intro v h; have h2 := (id h : v = _); clear h; subst h2)
  (intro v h; have h2 := (id h : v = _); clear h; subst h2)
  (intro v h; have h2 := (id h : v = _); clear h; subst h2)
  (intro v h; have h2 := (id h : v = _); clear h; subst h2)
  (intro v h; have h2 := (id h : v = _); clear h; subst h2)
  (intro v h; have h2 := (id h : v = _); clear h; subst h2)
  simp only [Act.put, dstIn, List.map_cons, List.getD_cons_zero, List.getD_cons_succ, List.setIfInBounds_toArray, List.set_cons_zero, List.set_cons_succ]
  have hwq' : Below w6.heap.size w6 wq := hwq.out
  have B1 := Pk.mk (B0.out.trans (hwq'.mono B0.out.size))
  have HE1 := Pk.mk (HE.out.mono hwq')
  have HA1 := Pk.mk (HA0.out.mono hwq')
  have HX1 := Pk.mk (HX.out.mono hwq')
  have LS1 := Pk.mk (LS.out.all hwq')
  have LO1 := Pk.mk (LO.out.all hwq')
  have LK1 := Pk.mk (LK.out.all hwq')
  have Zq := Pk.mk (show hi ≤ wq.heap.size from Nat.le_trans Zs.out.2.2.2.2.2 hwq'.size)
  clear hwq' hwq HE HX LS LO LW LK HE1
  apply wpAny_phase (twoR lo mid hi S (la.length + 4) cs O (openL la).length co) (twoPre (Nat.le_trans Zs.out.2.2.1 Zs.out.2.2.2.1) S (la.length + 4) cs O (openL la).length co) 38 53 [(0, []), (0, []), (0, []), (0, []), (0, []), (0, []), (0, []), (0, []), (0, []), (0, []), (0, []), (0, []), (0, []), (0, []), (0, []), (0, []), (0, []), (0, []), (0, []), (0, []), (0, []), (0, []), (0, []), (0, []), (0, []), (0, []), (0, []), (0, []), (0, []), (0, []), (0, []), (0, []), (0, []), (0, []), (0, []), (0, []), (0, []), (0, []), (70, []), (71, []), (72, [38, 39]), (73, [40]), (74, [41, 40]), (75, [42]), (76, [42]), (77, [43, 44, 42, 42]), (78, [42, 45]), (79, [46, 45]), (80, [47]), (81, [47]), (82, [48, 49, 47, 47]), (83, [47, 50]), (2, [51, 50, 38, 39, 40, 41, 42, 43, 44, 45, 46, 47, 48, 49, 50, 51])] [isV undef, isV undef, isV undef, isV undef, isV undef, isV undef, isV undef, isV undef, isV undef, isV undef, isV undef, isV undef, isV undef, isV undef, isV undef, isV undef, isV undef, isV undef, isV undef, isV undef, isV undef, isV undef, isV undef, isV undef, isV undef, isV undef, isV undef, isV undef, isV undef, isV undef, isV undef, isV undef, isV undef, isV undef, isV undef, isV undef, isV undef, isV undef, isV _, isV _, isV (.bool true), isV _, isV _, isV _, isV _, isV (.bool true), isV _, isV _, isV _, isV _, isV (.bool true), isV _, isV _] (by kernel_rfl) (by kernel_rfl)
  case hstab => repeat' first | (intro _ _ _ _ h; exact h) | exact isR_stable | exact trivial | refine And.intro ?_ ?_ | assumption
  case hops =>
    refine eachOp_cons ?_ ?_
    · intro wz hwz
      simp only [eachDep]
      obtain ⟨hsp, hz1, ⟨ls, hls⟩, ⟨los, hlos⟩⟩ := hwz.out ⟨Zq.out, ⟨_, LS1.out⟩, ⟨_, LO1.out⟩⟩
      obtain ⟨y1, y2, y3, y4, y5, y6⟩ := Zs.out
      have hlen := hls.len
      have hAz : RB wz A la := HAw.out.mono (B1.out.trans (hsp.1.mono y1))
      have hBg : BB wz g (la ++ marks) := (hsp.1.block g y2).trans HX1.out
      simp only [Step, Act.put, dstIn, List.map_cons, List.getD_cons_zero, List.getD_cons_succ, List.setIfInBounds_toArray, List.set_cons_zero, List.set_cons_succ]
      intro R hR
      rw [if_pos (by rfl)]
      go_simp
      first | exact hR _ _ ⟨⟨PreW.refl (twoPre (Nat.le_trans Zs.out.2.2.1 Zs.out.2.2.2.1) S (la.length + 4) cs O (openL la).length co) _⟩, isV_mk (w := wz)⟩ | (rw [if_pos (by omega)]; exact hR _ _ ⟨⟨PreW.refl (twoPre (Nat.le_trans Zs.out.2.2.1 Zs.out.2.2.2.1) S (la.length + 4) cs O (openL la).length co) _⟩, isV_mk (w := wz)⟩)
    refine eachOp_cons ?_ ?_
    · intro wz hwz
      simp only [eachDep]
      obtain ⟨hsp, hz1, ⟨ls, hls⟩, ⟨los, hlos⟩⟩ := hwz.out ⟨Zq.out, ⟨_, LS1.out⟩, ⟨_, LO1.out⟩⟩
      obtain ⟨y1, y2, y3, y4, y5, y6⟩ := Zs.out
      have hlen := hls.len
      have hAz : RB wz A la := HAw.out.mono (B1.out.trans (hsp.1.mono y1))
      have hBg : BB wz g (la ++ marks) := (hsp.1.block g y2).trans HX1.out
      simp only [Step, Act.put, dstIn, List.map_cons, List.getD_cons_zero, List.getD_cons_succ, List.setIfInBounds_toArray, List.set_cons_zero, List.set_cons_succ]
      intro R hR
      rw [if_pos (by rfl)]
      go_simp
      first | exact hR _ _ ⟨⟨PreW.refl (twoPre (Nat.le_trans Zs.out.2.2.1 Zs.out.2.2.2.1) S (la.length + 4) cs O (openL la).length co) _⟩, isV_mk (w := wz)⟩ | (rw [if_pos (by omega)]; exact hR _ _ ⟨⟨PreW.refl (twoPre (Nat.le_trans Zs.out.2.2.1 Zs.out.2.2.2.1) S (la.length + 4) cs O (openL la).length co) _⟩, isV_mk (w := wz)⟩)
    refine eachOp_cons ?_ ?_
    · intro wz hwz
      simp only [eachDep]
      obtain ⟨hsp, hz1, ⟨ls, hls⟩, ⟨los, hlos⟩⟩ := hwz.out ⟨Zq.out, ⟨_, LS1.out⟩, ⟨_, LO1.out⟩⟩
      obtain ⟨y1, y2, y3, y4, y5, y6⟩ := Zs.out
      have hlen := hls.len
      have hAz : RB wz A la := HAw.out.mono (B1.out.trans (hsp.1.mono y1))
      have hBg : BB wz g (la ++ marks) := (hsp.1.block g y2).trans HX1.out
      (intro v h; have h2 := (id h : v = _); clear h; subst h2)
      (intro v h; have h2 := (id h : v = _); clear h; subst h2)
      simp only [Step, Act.put, dstIn, List.map_cons, List.getD_cons_zero, List.getD_cons_succ, List.setIfInBounds_toArray, List.set_cons_zero, List.set_cons_succ]
      intro R hR
      rw [if_pos (by rfl)]
      go_simp
      first
        | (go_at_call 20; (with_reducible refine (qb (kept_calls g la A ca _ hBg hAz hla)).mono ?_); rintro e w' ⟨rfl, hb⟩; exact hR _ _ ⟨⟨twoR_below (Nat.le_trans y3 y4) hb⟩, isV_mk (w := w')⟩)
        | (go_at_call 37; (with_reducible refine (apart_sl (B := S) (n := la.length + 4) (cb := cs) (lo := lo) (hi := mid) (lb := ls) (A := K) (m := la.length) (ca := ck) (la := la) rfl hls (LK1.out.far hsp (Or.inr y5)).rb (fun a h => Or.inr (by have := (LK1.out.off a h).1; omega)) (by omega) (by omega)).mono ?_); rintro e w' ⟨rfl, ⟨ts, hT⟩, hsp2⟩; exact hR _ _ ⟨⟨fun _ => ⟨⟨hsp2.1, fun k hk h => hsp2.2 k hk (Nat.le_trans y4 h)⟩, Nat.le_trans hz1 hsp2.1.size, ⟨ts, hT⟩, ⟨los, hlos.far hsp2 (Or.inr (Nat.le_refl _))⟩⟩⟩, isV_mk (w := w')⟩)
        | (go_at_call 37; (with_reducible refine (apart_sl (B := O) (n := (openL la).length) (cb := co) (lo := mid) (hi := hi) (lb := los) (A := S) (m := la.length + 4) (ca := cs) (la := ls) hlen hlos hls.rb (fun a h => Or.inl (hls.off a h).2) (by omega) (by have := hlo.out; omega)).mono ?_); rintro e w' ⟨rfl, ⟨ts, hT⟩, hsp2⟩; exact hR _ _ ⟨⟨fun _ => ⟨⟨hsp2.1.mono y3, hsp2.2⟩, Nat.le_trans hz1 hsp2.1.size, ⟨ls, hls.far hsp2 (Or.inl (Nat.le_refl _))⟩, ⟨ts, hT⟩⟩⟩, isV_mk (w := w')⟩)
    refine eachOp_cons ?_ ?_
    · intro wz hwz
      simp only [eachDep]
      obtain ⟨hsp, hz1, ⟨ls, hls⟩, ⟨los, hlos⟩⟩ := hwz.out ⟨Zq.out, ⟨_, LS1.out⟩, ⟨_, LO1.out⟩⟩
      obtain ⟨y1, y2, y3, y4, y5, y6⟩ := Zs.out
      have hlen := hls.len
      have hAz : RB wz A la := HAw.out.mono (B1.out.trans (hsp.1.mono y1))
      have hBg : BB wz g (la ++ marks) := (hsp.1.block g y2).trans HX1.out
      (intro v h; have h2 := (id h : v = _); clear h; subst h2)
      simp only [Step, Act.put, dstIn, List.map_cons, List.getD_cons_zero, List.getD_cons_succ, List.setIfInBounds_toArray, List.set_cons_zero, List.set_cons_succ]
      intro R hR
      rw [if_pos (by rfl)]
      go_simp
      first | exact hR _ _ ⟨⟨PreW.refl (twoPre (Nat.le_trans Zs.out.2.2.1 Zs.out.2.2.2.1) S (la.length + 4) cs O (openL la).length co) _⟩, isV_mk (w := wz)⟩ | (rw [if_pos (by omega)]; exact hR _ _ ⟨⟨PreW.refl (twoPre (Nat.le_trans Zs.out.2.2.1 Zs.out.2.2.2.1) S (la.length + 4) cs O (openL la).length co) _⟩, isV_mk (w := wz)⟩)
    refine eachOp_cons ?_ ?_
    · intro wz hwz
      simp only [eachDep]
      obtain ⟨hsp, hz1, ⟨ls, hls⟩, ⟨los, hlos⟩⟩ := hwz.out ⟨Zq.out, ⟨_, LS1.out⟩, ⟨_, LO1.out⟩⟩
      obtain ⟨y1, y2, y3, y4, y5, y6⟩ := Zs.out
      have hlen := hls.len
      have hAz : RB wz A la := HAw.out.mono (B1.out.trans (hsp.1.mono y1))
      have hBg : BB wz g (la ++ marks) := (hsp.1.block g y2).trans HX1.out
      (intro v h; have h2 := (id h : v = _); clear h; subst h2)
      (intro v h; have h2 := (id h : v = _); clear h; subst h2)
      simp only [Step, Act.put, dstIn, List.map_cons, List.getD_cons_zero, List.getD_cons_succ, List.setIfInBounds_toArray, List.set_cons_zero, List.set_cons_succ]
      intro R hR
      rw [if_pos (by rfl)]
      go_simp
      first | exact hR _ _ ⟨⟨PreW.refl (twoPre (Nat.le_trans Zs.out.2.2.1 Zs.out.2.2.2.1) S (la.length + 4) cs O (openL la).length co) _⟩, isV_mk (w := wz)⟩ | (rw [if_pos (by omega)]; exact hR _ _ ⟨⟨PreW.refl (twoPre (Nat.le_trans Zs.out.2.2.1 Zs.out.2.2.2.1) S (la.length + 4) cs O (openL la).length co) _⟩, isV_mk (w := wz)⟩)
    refine eachOp_cons ?_ ?_
    · intro wz hwz
      simp only [eachDep]
      obtain ⟨hsp, hz1, ⟨ls, hls⟩, ⟨los, hlos⟩⟩ := hwz.out ⟨Zq.out, ⟨_, LS1.out⟩, ⟨_, LO1.out⟩⟩
      obtain ⟨y1, y2, y3, y4, y5, y6⟩ := Zs.out
      have hlen := hls.len
      have hAz : RB wz A la := HAw.out.mono (B1.out.trans (hsp.1.mono y1))
      have hBg : BB wz g (la ++ marks) := (hsp.1.block g y2).trans HX1.out
      (intro v h; have h2 := (id h : v = _); clear h; subst h2)
      simp only [Step, Act.put, dstIn, List.map_cons, List.getD_cons_zero, List.getD_cons_succ, List.setIfInBounds_toArray, List.set_cons_zero, List.set_cons_succ]
      intro R hR
      rw [if_pos (by rfl)]
      go_simp
      first | exact hR _ _ ⟨⟨PreW.refl (twoPre (Nat.le_trans Zs.out.2.2.1 Zs.out.2.2.2.1) S (la.length + 4) cs O (openL la).length co) _⟩, isV_mk (w := wz)⟩ | (rw [if_pos (by omega)]; exact hR _ _ ⟨⟨PreW.refl (twoPre (Nat.le_trans Zs.out.2.2.1 Zs.out.2.2.2.1) S (la.length + 4) cs O (openL la).length co) _⟩, isV_mk (w := wz)⟩)
    refine eachOp_cons ?_ ?_
    · intro wz hwz
      simp only [eachDep]
      obtain ⟨hsp, hz1, ⟨ls, hls⟩, ⟨los, hlos⟩⟩ := hwz.out ⟨Zq.out, ⟨_, LS1.out⟩, ⟨_, LO1.out⟩⟩
      obtain ⟨y1, y2, y3, y4, y5, y6⟩ := Zs.out
      have hlen := hls.len
      have hAz : RB wz A la := HAw.out.mono (B1.out.trans (hsp.1.mono y1))
      have hBg : BB wz g (la ++ marks) := (hsp.1.block g y2).trans HX1.out
      (intro v h; have h2 := (id h : v = _); clear h; subst h2)
      simp only [Step, Act.put, dstIn, List.map_cons, List.getD_cons_zero, List.getD_cons_succ, List.setIfInBounds_toArray, List.set_cons_zero, List.set_cons_succ]
      intro R hR
      rw [if_pos (by rfl)]
      go_simp
      first | exact hR _ _ ⟨⟨PreW.refl (twoPre (Nat.le_trans Zs.out.2.2.1 Zs.out.2.2.2.1) S (la.length + 4) cs O (openL la).length co) _⟩, isV_mk (w := wz)⟩ | (rw [if_pos (by omega)]; exact hR _ _ ⟨⟨PreW.refl (twoPre (Nat.le_trans Zs.out.2.2.1 Zs.out.2.2.2.1) S (la.length + 4) cs O (openL la).length co) _⟩, isV_mk (w := wz)⟩)
    refine eachOp_cons ?_ ?_
    · intro wz hwz
      simp only [eachDep]
      obtain ⟨hsp, hz1, ⟨ls, hls⟩, ⟨los, hlos⟩⟩ := hwz.out ⟨Zq.out, ⟨_, LS1.out⟩, ⟨_, LO1.out⟩⟩
      obtain ⟨y1, y2, y3, y4, y5, y6⟩ := Zs.out
      have hlen := hls.len
      have hAz : RB wz A la := HAw.out.mono (B1.out.trans (hsp.1.mono y1))
      have hBg : BB wz g (la ++ marks) := (hsp.1.block g y2).trans HX1.out
      (intro v h; have h2 := (id h : v = _); clear h; subst h2)
      (intro v h; have h2 := (id h : v = _); clear h; subst h2)
      (intro v h; have h2 := (id h : v = _); clear h; subst h2)
      (intro v h; have h2 := (id h : v = _); clear h; subst h2)
      simp only [Step, Act.put, dstIn, List.map_cons, List.getD_cons_zero, List.getD_cons_succ, List.setIfInBounds_toArray, List.set_cons_zero, List.set_cons_succ]
      intro R hR
      rw [if_pos (by rfl)]
      go_simp
      first
        | (go_at_call 20; (with_reducible refine (qb (kept_calls g la A ca _ hBg hAz hla)).mono ?_); rintro e w' ⟨rfl, hb⟩; exact hR _ _ ⟨⟨twoR_below (Nat.le_trans y3 y4) hb⟩, isV_mk (w := w')⟩)
        | (go_at_call 37; (with_reducible refine (apart_sl (B := S) (n := la.length + 4) (cb := cs) (lo := lo) (hi := mid) (lb := ls) (A := K) (m := la.length) (ca := ck) (la := la) rfl hls (LK1.out.far hsp (Or.inr y5)).rb (fun a h => Or.inr (by have := (LK1.out.off a h).1; omega)) (by omega) (by omega)).mono ?_); rintro e w' ⟨rfl, ⟨ts, hT⟩, hsp2⟩; exact hR _ _ ⟨⟨fun _ => ⟨⟨hsp2.1, fun k hk h => hsp2.2 k hk (Nat.le_trans y4 h)⟩, Nat.le_trans hz1 hsp2.1.size, ⟨ts, hT⟩, ⟨los, hlos.far hsp2 (Or.inr (Nat.le_refl _))⟩⟩⟩, isV_mk (w := w')⟩)
        | (go_at_call 37; (with_reducible refine (apart_sl (B := O) (n := (openL la).length) (cb := co) (lo := mid) (hi := hi) (lb := los) (A := S) (m := la.length + 4) (ca := cs) (la := ls) hlen hlos hls.rb (fun a h => Or.inl (hls.off a h).2) (by omega) (by have := hlo.out; omega)).mono ?_); rintro e w' ⟨rfl, ⟨ts, hT⟩, hsp2⟩; exact hR _ _ ⟨⟨fun _ => ⟨⟨hsp2.1.mono y3, hsp2.2⟩, Nat.le_trans hz1 hsp2.1.size, ⟨ls, hls.far hsp2 (Or.inl (Nat.le_refl _))⟩, ⟨ts, hT⟩⟩⟩, isV_mk (w := w')⟩)
    refine eachOp_cons ?_ ?_
    · intro wz hwz
      simp only [eachDep]
      obtain ⟨hsp, hz1, ⟨ls, hls⟩, ⟨los, hlos⟩⟩ := hwz.out ⟨Zq.out, ⟨_, LS1.out⟩, ⟨_, LO1.out⟩⟩
      obtain ⟨y1, y2, y3, y4, y5, y6⟩ := Zs.out
      have hlen := hls.len
      have hAz : RB wz A la := HAw.out.mono (B1.out.trans (hsp.1.mono y1))
      have hBg : BB wz g (la ++ marks) := (hsp.1.block g y2).trans HX1.out
      (intro v h; have h2 := (id h : v = _); clear h; subst h2)
      (intro v h; have h2 := (id h : v = _); clear h; subst h2)
      simp only [Step, Act.put, dstIn, List.map_cons, List.getD_cons_zero, List.getD_cons_succ, List.setIfInBounds_toArray, List.set_cons_zero, List.set_cons_succ]
      intro R hR
      rw [if_pos (by rfl)]
      go_simp
      first | exact hR _ _ ⟨⟨PreW.refl (twoPre (Nat.le_trans Zs.out.2.2.1 Zs.out.2.2.2.1) S (la.length + 4) cs O (openL la).length co) _⟩, isV_mk (w := wz)⟩ | (rw [if_pos (by omega)]; exact hR _ _ ⟨⟨PreW.refl (twoPre (Nat.le_trans Zs.out.2.2.1 Zs.out.2.2.2.1) S (la.length + 4) cs O (openL la).length co) _⟩, isV_mk (w := wz)⟩)
    refine eachOp_cons ?_ ?_
    · intro wz hwz
      simp only [eachDep]
      obtain ⟨hsp, hz1, ⟨ls, hls⟩, ⟨los, hlos⟩⟩ := hwz.out ⟨Zq.out, ⟨_, LS1.out⟩, ⟨_, LO1.out⟩⟩
      obtain ⟨y1, y2, y3, y4, y5, y6⟩ := Zs.out
      have hlen := hls.len
      have hAz : RB wz A la := HAw.out.mono (B1.out.trans (hsp.1.mono y1))
      have hBg : BB wz g (la ++ marks) := (hsp.1.block g y2).trans HX1.out
      (intro v h; have h2 := (id h : v = _); clear h; subst h2)
      (intro v h; have h2 := (id h : v = _); clear h; subst h2)
      simp only [Step, Act.put, dstIn, List.map_cons, List.getD_cons_zero, List.getD_cons_succ, List.setIfInBounds_toArray, List.set_cons_zero, List.set_cons_succ]
      intro R hR
      rw [if_pos (by rfl)]
      go_simp
      first | exact hR _ _ ⟨⟨PreW.refl (twoPre (Nat.le_trans Zs.out.2.2.1 Zs.out.2.2.2.1) S (la.length + 4) cs O (openL la).length co) _⟩, isV_mk (w := wz)⟩ | (rw [if_pos (by omega)]; exact hR _ _ ⟨⟨PreW.refl (twoPre (Nat.le_trans Zs.out.2.2.1 Zs.out.2.2.2.1) S (la.length + 4) cs O (openL la).length co) _⟩, isV_mk (w := wz)⟩)
    refine eachOp_cons ?_ ?_
    · intro wz hwz
      simp only [eachDep]
      obtain ⟨hsp, hz1, ⟨ls, hls⟩, ⟨los, hlos⟩⟩ := hwz.out ⟨Zq.out, ⟨_, LS1.out⟩, ⟨_, LO1.out⟩⟩
      obtain ⟨y1, y2, y3, y4, y5, y6⟩ := Zs.out
      have hlen := hls.len
      have hAz : RB wz A la := HAw.out.mono (B1.out.trans (hsp.1.mono y1))
      have hBg : BB wz g (la ++ marks) := (hsp.1.block g y2).trans HX1.out
      (intro v h; have h2 := (id h : v = _); clear h; subst h2)
      simp only [Step, Act.put, dstIn, List.map_cons, List.getD_cons_zero, List.getD_cons_succ, List.setIfInBounds_toArray, List.set_cons_zero, List.set_cons_succ]
      intro R hR
      rw [if_pos (by rfl)]
      go_simp
      first | exact hR _ _ ⟨⟨PreW.refl (twoPre (Nat.le_trans Zs.out.2.2.1 Zs.out.2.2.2.1) S (la.length + 4) cs O (openL la).length co) _⟩, isV_mk (w := wz)⟩ | (rw [if_pos (by omega)]; exact hR _ _ ⟨⟨PreW.refl (twoPre (Nat.le_trans Zs.out.2.2.1 Zs.out.2.2.2.1) S (la.length + 4) cs O (openL la).length co) _⟩, isV_mk (w := wz)⟩)
    refine eachOp_cons ?_ ?_
    · intro wz hwz
      simp only [eachDep]
      obtain ⟨hsp, hz1, ⟨ls, hls⟩, ⟨los, hlos⟩⟩ := hwz.out ⟨Zq.out, ⟨_, LS1.out⟩, ⟨_, LO1.out⟩⟩
      obtain ⟨y1, y2, y3, y4, y5, y6⟩ := Zs.out
      have hlen := hls.len
      have hAz : RB wz A la := HAw.out.mono (B1.out.trans (hsp.1.mono y1))
      have hBg : BB wz g (la ++ marks) := (hsp.1.block g y2).trans HX1.out
      (intro v h; have h2 := (id h : v = _); clear h; subst h2)
      simp only [Step, Act.put, dstIn, List.map_cons, List.getD_cons_zero, List.getD_cons_succ, List.setIfInBounds_toArray, List.set_cons_zero, List.set_cons_succ]
      intro R hR
      rw [if_pos (by rfl)]
      go_simp
      first | exact hR _ _ ⟨⟨PreW.refl (twoPre (Nat.le_trans Zs.out.2.2.1 Zs.out.2.2.2.1) S (la.length + 4) cs O (openL la).length co) _⟩, isV_mk (w := wz)⟩ | (rw [if_pos (by omega)]; exact hR _ _ ⟨⟨PreW.refl (twoPre (Nat.le_trans Zs.out.2.2.1 Zs.out.2.2.2.1) S (la.length + 4) cs O (openL la).length co) _⟩, isV_mk (w := wz)⟩)
    refine eachOp_cons ?_ ?_
    · intro wz hwz
      simp only [eachDep]
      obtain ⟨hsp, hz1, ⟨ls, hls⟩, ⟨los, hlos⟩⟩ := hwz.out ⟨Zq.out, ⟨_, LS1.out⟩, ⟨_, LO1.out⟩⟩
      obtain ⟨y1, y2, y3, y4, y5, y6⟩ := Zs.out
      have hlen := hls.len
      have hAz : RB wz A la := HAw.out.mono (B1.out.trans (hsp.1.mono y1))
      have hBg : BB wz g (la ++ marks) := (hsp.1.block g y2).trans HX1.out
      (intro v h; have h2 := (id h : v = _); clear h; subst h2)
      (intro v h; have h2 := (id h : v = _); clear h; subst h2)
      (intro v h; have h2 := (id h : v = _); clear h; subst h2)
      (intro v h; have h2 := (id h : v = _); clear h; subst h2)
      simp only [Step, Act.put, dstIn, List.map_cons, List.getD_cons_zero, List.getD_cons_succ, List.setIfInBounds_toArray, List.set_cons_zero, List.set_cons_succ]
      intro R hR
      rw [if_pos (by rfl)]
      go_simp
      first
        | (go_at_call 20; (with_reducible refine (qb (kept_calls g la A ca _ hBg hAz hla)).mono ?_); rintro e w' ⟨rfl, hb⟩; exact hR _ _ ⟨⟨twoR_below (Nat.le_trans y3 y4) hb⟩, isV_mk (w := w')⟩)
        | (go_at_call 37; (with_reducible refine (apart_sl (B := S) (n := la.length + 4) (cb := cs) (lo := lo) (hi := mid) (lb := ls) (A := K) (m := la.length) (ca := ck) (la := la) rfl hls (LK1.out.far hsp (Or.inr y5)).rb (fun a h => Or.inr (by have := (LK1.out.off a h).1; omega)) (by omega) (by omega)).mono ?_); rintro e w' ⟨rfl, ⟨ts, hT⟩, hsp2⟩; exact hR _ _ ⟨⟨fun _ => ⟨⟨hsp2.1, fun k hk h => hsp2.2 k hk (Nat.le_trans y4 h)⟩, Nat.le_trans hz1 hsp2.1.size, ⟨ts, hT⟩, ⟨los, hlos.far hsp2 (Or.inr (Nat.le_refl _))⟩⟩⟩, isV_mk (w := w')⟩)
        | (go_at_call 37; (with_reducible refine (apart_sl (B := O) (n := (openL la).length) (cb := co) (lo := mid) (hi := hi) (lb := los) (A := S) (m := la.length + 4) (ca := cs) (la := ls) hlen hlos hls.rb (fun a h => Or.inl (hls.off a h).2) (by omega) (by have := hlo.out; omega)).mono ?_); rintro e w' ⟨rfl, ⟨ts, hT⟩, hsp2⟩; exact hR _ _ ⟨⟨fun _ => ⟨⟨hsp2.1.mono y3, hsp2.2⟩, Nat.le_trans hz1 hsp2.1.size, ⟨ls, hls.far hsp2 (Or.inl (Nat.le_refl _))⟩, ⟨ts, hT⟩⟩⟩, isV_mk (w := w')⟩)
    refine eachOp_cons ?_ ?_
    · intro wz hwz
      simp only [eachDep]
      obtain ⟨hsp, hz1, ⟨ls, hls⟩, ⟨los, hlos⟩⟩ := hwz.out ⟨Zq.out, ⟨_, LS1.out⟩, ⟨_, LO1.out⟩⟩
      obtain ⟨y1, y2, y3, y4, y5, y6⟩ := Zs.out
      have hlen := hls.len
      have hAz : RB wz A la := HAw.out.mono (B1.out.trans (hsp.1.mono y1))
      have hBg : BB wz g (la ++ marks) := (hsp.1.block g y2).trans HX1.out
      (intro v h; have h2 := (id h : v = _); clear h; subst h2)
      (intro v h; have h2 := (id h : v = _); clear h; subst h2)
      simp only [Step, Act.put, dstIn, List.map_cons, List.getD_cons_zero, List.getD_cons_succ, List.setIfInBounds_toArray, List.set_cons_zero, List.set_cons_succ]
      intro R hR
      rw [if_pos (by rfl)]
      go_simp
      first | exact hR _ _ ⟨⟨PreW.refl (twoPre (Nat.le_trans Zs.out.2.2.1 Zs.out.2.2.2.1) S (la.length + 4) cs O (openL la).length co) _⟩, isV_mk (w := wz)⟩ | (rw [if_pos (by omega)]; exact hR _ _ ⟨⟨PreW.refl (twoPre (Nat.le_trans Zs.out.2.2.1 Zs.out.2.2.2.1) S (la.length + 4) cs O (openL la).length co) _⟩, isV_mk (w := wz)⟩)
    refine eachOp_cons ?_ ?_
    · intro wz hwz
      simp only [eachDep]
      obtain ⟨hsp, hz1, ⟨ls, hls⟩, ⟨los, hlos⟩⟩ := hwz.out ⟨Zq.out, ⟨_, LS1.out⟩, ⟨_, LO1.out⟩⟩
      obtain ⟨y1, y2, y3, y4, y5, y6⟩ := Zs.out
      have hlen := hls.len
      have hAz : RB wz A la := HAw.out.mono (B1.out.trans (hsp.1.mono y1))
      have hBg : BB wz g (la ++ marks) := (hsp.1.block g y2).trans HX1.out
      (intro v h; have h2 := (id h : v = _); clear h; subst h2)
      (intro v h; have h2 := (id h : v = _); clear h; subst h2)
      (intro v h; have h2 := (id h : v = _); clear h; subst h2)
      (intro v h; have h2 := (id h : v = _); clear h; subst h2)
      (intro v h; have h2 := (id h : v = _); clear h; subst h2)
      (intro v h; have h2 := (id h : v = _); clear h; subst h2)
      (intro v h; have h2 := (id h : v = _); clear h; subst h2)
      (intro v h; have h2 := (id h : v = _); clear h; subst h2)
      (intro v h; have h2 := (id h : v = _); clear h; subst h2)
      (intro v h; have h2 := (id h : v = _); clear h; subst h2)
      (intro v h; have h2 := (id h : v = _); clear h; subst h2)
      (intro v h; have h2 := (id h : v = _); clear h; subst h2)
      (intro v h; have h2 := (id h : v = _); clear h; subst h2)
      (intro v h; have h2 := (id h : v = _); clear h; subst h2)
      (intro v h; have h2 := (id h : v = _); clear h; subst h2)
      (intro v h; have h2 := (id h : v = _); clear h; subst h2)
      simp only [Step, Act.put, dstIn, List.map_cons, List.getD_cons_zero, List.getD_cons_succ, List.setIfInBounds_toArray, List.set_cons_zero, List.set_cons_succ]
      intro R hR
      rw [if_pos (by rfl)]
      go_simp
      first | exact hR _ _ ⟨⟨PreW.refl (twoPre (Nat.le_trans Zs.out.2.2.1 Zs.out.2.2.2.1) S (la.length + 4) cs O (openL la).length co) _⟩, isV_mk (w := wz)⟩ | (rw [if_pos (by omega)]; exact hR _ _ ⟨⟨PreW.refl (twoPre (Nat.le_trans Zs.out.2.2.1 Zs.out.2.2.2.1) S (la.length + 4) cs O (openL la).length co) _⟩, isV_mk (w := wz)⟩)
    exact eachOp_nil
  intro wq hwq
  simp only [eachDep, List.range', Nat.reduceSub, Nat.reduceAdd, Nat.zero_add]
  (intro v h; have h2 := (id h : v = _); clear h; subst h2)
  (intro v h; have h2 := (id h : v = _); clear h; subst h2)
  (intro v h; have h2 := (id h : v = _); clear h; subst h2)
  (intro v h; have h2 := (id h : v = _); clear h; subst h2)
  (intro v h; have h2 := (id h : v = _); clear h; subst h2)
  (intro v h; have h2 := (id h : v = _); clear h; subst h2)
  (intro v h; have h2 := (id h : v = _); clear h; subst h2)
  (intro v h; have h2 := (id h : v = _); clear h; subst h2)
  (intro v h; have h2 := (id h : v = _); clear h; subst h2)
  (intro v h; have h2 := (id h : v = _); clear h; subst h2)
  (intro v h; have h2 := (id h : v = _); clear h; subst h2)
  (intro v h; have h2 := (id h : v = _); clear h; subst h2)
  (intro v h; have h2 := (id h : v = _); clear h; subst h2)
  (intro v h; have h2 := (id h : v = _); clear h; subst h2)
  (intro v h; have h2 := (id h : v = _); clear h; subst h2)
  simp only [Act.put, dstIn, List.map_cons, List.getD_cons_zero, List.getD_cons_succ, List.setIfInBounds_toArray, List.set_cons_zero, List.set_cons_succ]
  refine wpAny_done (by kernel_rfl) (by kernel_rfl) ?_
  obtain ⟨hsp, _, _, _⟩ := hwq.out ⟨Zq.out, ⟨_, LS1.out⟩, ⟨_, LO1.out⟩⟩
  have B2 := Pk.mk (B1.out.trans (hsp.1.mono Zs.out.1))
  clear hsp hwq
  go_wp2_with fail
  go_ret
  exact ⟨rfl, B2.out⟩
end Go.Proofs.YtdnmfgpladgjhaaDoor
