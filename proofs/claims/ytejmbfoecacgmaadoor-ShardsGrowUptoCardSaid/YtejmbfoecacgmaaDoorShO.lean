/- ShardsSplits walked. -/
import Derived.Test.YtejmbfoecacgmaaDoorShN
namespace Go.Proofs.YtejmbfoecacgmaaDoor
open Go Go.RowKit Go.Proofs.YtejmbfoecacgmaaDoor.Gf
set_option linter.unusedVariables false
set_option linter.unusedSimpArgs false

set_option maxRecDepth 100000 in
set_option maxHeartbeats 4000000 in
theorem shardsSplits_ok (E : Nat → Addr) (kk hh N : Nat) (A : Option Addr) (ca : Nat) (la : List F) (w : World) (hE : ErrW w E errG) (ha : RB w A la) (hla : la.length ≤ 140737488351232) (h0 : halfC kk la.length = 0) (hv : halfV kk la.length = hh) (hN : N = 2 * kk * hh) :
    Calls Tryd.prog 3 #[.int .i64 kk, .slice A la.length ca] w fun e w' => e = .returned (.bool true) ∧ Below w.heap.size w w' := by
  obtain ⟨k1, k2, s1, s2, v1, v2, m1, m2⟩ := half_ok h0
  rw [hv] at v1 v2 m1 m2
  have hpl : (padB la N).length = N := by
    have : (2 * (kk : Int) * (hh : Int)) = ((N : Nat) : Int) := by rw [hN]; push_cast; rfl
    rw [padB_length, Nat.max_eq_right]; omega
  have HPL := Pk.mk hpl
  have HLow := Pk.mk (ha.low (by omega))
  have HE := Pk.mk hE
  have HA := Pk.mk ha
  have H0 := Pk.mk h0
  have HV := Pk.mk hv
  have HN := Pk.mk hN
  have B0 := Pk.mk (Below.refl w.heap.size w)
  clear hE ha h0 hv hN m1 m2 hpl
  go_enter Tryd.func3, Tryd.ntmps3
  go_wp2_with fail
  refine (alive06_calls E w (HE.out.sub shErrs_sub)).mono ?_
  rintro e w1 ⟨rfl, hb⟩
  replace HE := Pk.mk (HE.out.mono hb)
  replace HA := Pk.mk (HA.out.mono hb)
  replace B0 := Pk.mk (B0.out.trans ((hb).mono B0.out.size))
  clear hb
  go_wp2_with fail
  have q := bytes_calls A ca la w1 HA.out hla
  with_reducible refine q.mono ?_
  clear q
  rintro e w2 ⟨g1, rfl, hg1, hB1, hb⟩
  have HX := Pk.mk hB1
  replace HE := Pk.mk (HE.out.mono hb)
  replace HA := Pk.mk (HA.out.mono hb)
  replace B0 := Pk.mk (B0.out.trans ((hb).mono B0.out.size))
  clear hb
  have L1 := Pk.mk (And.intro hB1.lt (Nat.le_trans B0.out.size (Nat.le_refl _)))
  clear hB1 hg1
  go_wp2_with fail
  have q := split_ok' E kk hh N la.length kk (some ⟨g1, 0, none⟩) (la.length + 6) la w2 rfl rfl (HE.out.sub shErrs_sub) HX.out.front H0.out HV.out HN.out
  with_reducible refine q.mono ?_
  clear q
  rintro e w3 ⟨g, v, rfl, hg, hB, ho, hb⟩
  obtain ⟨g2, ex, rfl, _, hrow, hxl, _⟩ := own_blk ho (Or.inl (by omega))
  have HB := Pk.mk hB
  have HR := Pk.mk (show Blk w3 g2 _ from hrow)
  have Ne := Pk.mk (And.intro (blk_ne hrow hB) (And.intro (show g1 ≠ g by have := L1.out; omega) (show ∀ a, A = some a → a.block ≠ g from fun a h => by have := HLow.out a h; have := L1.out; omega)))
  have HG := Pk.mk (Nat.le_trans B0.out.size hg)
  clear hg hB ho hrow hxl
  replace HE := Pk.mk (HE.out.mono hb)
  replace HA := Pk.mk (HA.out.mono hb)
  replace HX := Pk.mk (HX.out.mono hb)
  replace B0 := Pk.mk (B0.out.trans ((hb).mono B0.out.size))
  clear hb
  go_wp2_with fail
  have q := refSplit_ok kk hh N A ca la w3 HA.out H0.out HV.out HN.out
  with_reducible refine q.mono ?_
  clear q
  rintro e w4 ⟨B, d, K, rfl, hLL, hKl, hK, hb⟩
  replace HE := Pk.mk (HE.out.mono hb)
  replace HA := Pk.mk (HA.out.mono hb)
  replace HX := Pk.mk (HX.out.mono hb)
  replace HB := Pk.mk (HB.out.mono hb)
  replace HR := Pk.mk (HR.out.mono hb)
  replace B0 := Pk.mk (B0.out.trans ((hb).mono B0.out.size))
  clear hb
  have HK := Pk.mk (And.intro hKl hK)
  have HL := Pk.mk hLL
  clear hKl hK hLL
  go_wp2_with fail
  have q := num0_calls E w4 HE.out
  with_reducible refine q.mono ?_
  clear q
  rintro e w5 ⟨rfl, hb⟩
  replace HE := Pk.mk (HE.out.mono hb)
  replace HA := Pk.mk (HA.out.mono hb)
  replace HX := Pk.mk (HX.out.mono hb)
  replace HB := Pk.mk (HB.out.mono hb)
  replace HR := Pk.mk (HR.out.mono hb)
  replace HL := Pk.mk (HL.out.mono hb)
  replace B0 := Pk.mk (B0.out.trans ((hb).mono B0.out.size))
  clear hb
  have hp2 : 2 * kk * hh ≤ (padB la N).length := by rw [HPL.out, HN.out]; exact Nat.le_refl _
  have HP2 := Pk.mk hp2
  clear hp2
  go_wp2_with fail
  have q := qb (sameLists_calls (some ⟨g2, 0, none⟩) (2 * kk + ex.length) (2 * kk) (pieces g hh (padB la N) (2 * kk)) B d K w5 (heads_LL HR.out HP2.out HB.out) HL.out (pieces_length _ _ _ _) (by rw [pieces_lists, HK.out.2]) (by omega))
  with_reducible refine q.mono ?_
  clear q
  rintro e w6 ⟨rfl, hb⟩
  replace HE := Pk.mk (HE.out.mono hb)
  replace HA := Pk.mk (HA.out.mono hb)
  replace HX := Pk.mk (HX.out.mono hb)
  replace HB := Pk.mk (HB.out.mono hb)
  replace HR := Pk.mk (HR.out.mono hb)
  replace HL := Pk.mk (HL.out.mono hb)
  replace B0 := Pk.mk (B0.out.trans ((hb).mono B0.out.size))
  clear hb
  clear HL
  go_wp2_with fail
  have q := qb (kept_calls g1 la A ca w6 HX.out HA.out hla)
  with_reducible refine q.mono ?_
  clear q
  rintro e w7 ⟨rfl, hb⟩
  replace HE := Pk.mk (HE.out.mono hb)
  replace HA := Pk.mk (HA.out.mono hb)
  replace HX := Pk.mk (HX.out.mono hb)
  replace HB := Pk.mk (HB.out.mono hb)
  replace HR := Pk.mk (HR.out.mono hb)
  replace B0 := Pk.mk (B0.out.trans ((hb).mono B0.out.size))
  clear hb
  clear HK HP2
  go_wp2
  go_loopw [10] (fun n wr => ∃ (u : Nat) (p : List F), u < 2 * kk ∧ n = .int .i64 ((u : Int) + 1) ∧ Pk (p.length = N) ∧ Pk (BB wr g p) ∧ Pk (Blk wr g2 (.cells (heads g hh (2 * kk) ++ ex).toArray 22 (0, 0))) ∧ Pk (BB wr g1 (la ++ marks)) ∧ Pk (RB wr A la) ∧ Pk (Below w.heap.size w wr)) (fun n _ => 2 * kk - (intOf n).toNat)
  case atStart => exact ⟨0, padB la N, by omega, rfl, HPL, HB, HR, HX, HA, B0⟩
  case round =>
    clear HPL HB HR HX HA B0 HE HLow
    obtain ⟨u, p, hu, rfl, HPL, HB, HR, HX, HA, B0⟩ := hrel
    obtain ⟨P, HP⟩ : ∃ P, Pk (P = u * hh) := ⟨_, ⟨rfl⟩⟩
    by_cases hl : u + 1 < 2 * kk
    · have Hle := Pk.mk (show P + hh + hh ≤ p.length by
        have : (u + 2) * hh ≤ 2 * kk * hh := Nat.mul_le_mul_right _ hl
        rw [HPL.out, HN.out, HP.out]; rw [Nat.add_mul] at this; omega)
      go_wp2
      have i1 : ((u : Int) + 1).toNat = u + 1 := by omega
      have i2 : (u : Int) + 1 < 2 * (kk : Int) := by omega
      have i3 : IntKind.i64.wrap (u : Int) = (u : Int) := IntWalk.i64_in _ (by omega)
      have i4 : (0 : Int) ≤ (u : Int) + 1 := by omega
      have i5 : (u : Int) < 2 * (kk : Int) := by omega
      apply wp_region_eachR (partR g N) (partPre g N) [(49, []), (50, []), (51, [0, 1]), (52, [2]), (53, []), (54, []), (55, [5]), (56, [4, 6]), (57, [7]), (58, [3, 8]), (59, [9])] [isV _, isV _, isV _, isV _, isV _, isV _, isV _, isV _, isV _, isV (.bool true), isV _] (by kernel_rfl) (by kernel_rfl)
      case hstab => repeat' first | (intro _ _ _ _ h; exact h) | exact isR_stable | exact trivial | refine And.intro ?_ ?_ | assumption
      case hops =>
        refine eachOp_cons ?_ ?_
        · intro wz hwz
          simp only [eachDep]
          have HRz := HR.out.off hwz.out.1 Ne.out.1
          have f1 : wz.cell? ⟨g2, u + 1, none⟩ = some (.slice (some ⟨g, P + hh, none⟩) hh hh) := by rw [heads_at HRz hl, Nat.add_mul, Nat.one_mul, HP.out]
          have f2 : wz.cell? ⟨g2, u, none⟩ = some (.slice (some ⟨g, P, none⟩) hh hh) := by rw [heads_at HRz hu, HP.out]
          clear HRz
          simp only [Step, Act.put, dstIn, List.map_cons, List.getD_cons_zero, List.getD_cons_succ, List.setIfInBounds_toArray, List.set_cons_zero, List.set_cons_succ]
          intro R hR
          rw [if_pos (by rfl)]
          go_simp
          first | exact hR _ _ ⟨⟨PreW.refl (partPre g N) _⟩, isV_mk (w := wz)⟩ | (rw [if_pos (by omega)]; exact hR _ _ ⟨⟨PreW.refl (partPre g N) _⟩, isV_mk (w := wz)⟩)
        refine eachOp_cons ?_ ?_
        · intro wz hwz
          simp only [eachDep]
          have HRz := HR.out.off hwz.out.1 Ne.out.1
          have f1 : wz.cell? ⟨g2, u + 1, none⟩ = some (.slice (some ⟨g, P + hh, none⟩) hh hh) := by rw [heads_at HRz hl, Nat.add_mul, Nat.one_mul, HP.out]
          have f2 : wz.cell? ⟨g2, u, none⟩ = some (.slice (some ⟨g, P, none⟩) hh hh) := by rw [heads_at HRz hu, HP.out]
          clear HRz
          simp only [Step, Act.put, dstIn, List.map_cons, List.getD_cons_zero, List.getD_cons_succ, List.setIfInBounds_toArray, List.set_cons_zero, List.set_cons_succ]
          intro R hR
          rw [if_pos (by rfl)]
          go_simp
          first | exact hR _ _ ⟨⟨PreW.refl (partPre g N) _⟩, isV_mk (w := wz)⟩ | (rw [if_pos (by omega)]; exact hR _ _ ⟨⟨PreW.refl (partPre g N) _⟩, isV_mk (w := wz)⟩)
        refine eachOp_cons ?_ ?_
        · intro wz hwz
          simp only [eachDep]
          have HRz := HR.out.off hwz.out.1 Ne.out.1
          have f1 : wz.cell? ⟨g2, u + 1, none⟩ = some (.slice (some ⟨g, P + hh, none⟩) hh hh) := by rw [heads_at HRz hl, Nat.add_mul, Nat.one_mul, HP.out]
          have f2 : wz.cell? ⟨g2, u, none⟩ = some (.slice (some ⟨g, P, none⟩) hh hh) := by rw [heads_at HRz hu, HP.out]
          clear HRz
          (intro v h; have h2 := (id h : v = _); clear h; subst h2)
          (intro v h; have h2 := (id h : v = _); clear h; subst h2)
          simp only [Step, Act.put, dstIn, List.map_cons, List.getD_cons_zero, List.getD_cons_succ, List.setIfInBounds_toArray, List.set_cons_zero, List.set_cons_succ]
          intro R hR
          rw [if_pos (by rfl)]
          go_simp
          first | exact hR _ _ ⟨⟨PreW.refl (partPre g N) _⟩, isV_mk (w := wz)⟩ | (rw [if_pos (by omega)]; exact hR _ _ ⟨⟨PreW.refl (partPre g N) _⟩, isV_mk (w := wz)⟩)
        refine eachOp_cons ?_ ?_
        · intro wz hwz
          simp only [eachDep]
          have HRz := HR.out.off hwz.out.1 Ne.out.1
          have f1 : wz.cell? ⟨g2, u + 1, none⟩ = some (.slice (some ⟨g, P + hh, none⟩) hh hh) := by rw [heads_at HRz hl, Nat.add_mul, Nat.one_mul, HP.out]
          have f2 : wz.cell? ⟨g2, u, none⟩ = some (.slice (some ⟨g, P, none⟩) hh hh) := by rw [heads_at HRz hu, HP.out]
          clear HRz
          (intro v h; have h2 := (id h : v = _); clear h; subst h2)
          simp only [Step, Act.put, dstIn, List.map_cons, List.getD_cons_zero, List.getD_cons_succ, List.setIfInBounds_toArray, List.set_cons_zero, List.set_cons_succ]
          intro R hR
          rw [if_pos (by rfl)]
          go_simp
          first | exact hR _ _ ⟨⟨PreW.refl (partPre g N) _⟩, isV_mk (w := wz)⟩ | (rw [if_pos (by omega)]; exact hR _ _ ⟨⟨PreW.refl (partPre g N) _⟩, isV_mk (w := wz)⟩)
        refine eachOp_cons ?_ ?_
        · intro wz hwz
          simp only [eachDep]
          have HRz := HR.out.off hwz.out.1 Ne.out.1
          have f1 : wz.cell? ⟨g2, u + 1, none⟩ = some (.slice (some ⟨g, P + hh, none⟩) hh hh) := by rw [heads_at HRz hl, Nat.add_mul, Nat.one_mul, HP.out]
          have f2 : wz.cell? ⟨g2, u, none⟩ = some (.slice (some ⟨g, P, none⟩) hh hh) := by rw [heads_at HRz hu, HP.out]
          clear HRz
          simp only [Step, Act.put, dstIn, List.map_cons, List.getD_cons_zero, List.getD_cons_succ, List.setIfInBounds_toArray, List.set_cons_zero, List.set_cons_succ]
          intro R hR
          rw [if_pos (by rfl)]
          go_simp
          first | exact hR _ _ ⟨⟨PreW.refl (partPre g N) _⟩, isV_mk (w := wz)⟩ | (rw [if_pos (by omega)]; exact hR _ _ ⟨⟨PreW.refl (partPre g N) _⟩, isV_mk (w := wz)⟩)
        refine eachOp_cons ?_ ?_
        · intro wz hwz
          simp only [eachDep]
          have HRz := HR.out.off hwz.out.1 Ne.out.1
          have f1 : wz.cell? ⟨g2, u + 1, none⟩ = some (.slice (some ⟨g, P + hh, none⟩) hh hh) := by rw [heads_at HRz hl, Nat.add_mul, Nat.one_mul, HP.out]
          have f2 : wz.cell? ⟨g2, u, none⟩ = some (.slice (some ⟨g, P, none⟩) hh hh) := by rw [heads_at HRz hu, HP.out]
          clear HRz
          simp only [Step, Act.put, dstIn, List.map_cons, List.getD_cons_zero, List.getD_cons_succ, List.setIfInBounds_toArray, List.set_cons_zero, List.set_cons_succ]
          intro R hR
          rw [if_pos (by rfl)]
          go_simp
          first | exact hR _ _ ⟨⟨PreW.refl (partPre g N) _⟩, isV_mk (w := wz)⟩ | (rw [if_pos (by omega)]; exact hR _ _ ⟨⟨PreW.refl (partPre g N) _⟩, isV_mk (w := wz)⟩)
        refine eachOp_cons ?_ ?_
        · intro wz hwz
          simp only [eachDep]
          have HRz := HR.out.off hwz.out.1 Ne.out.1
          have f1 : wz.cell? ⟨g2, u + 1, none⟩ = some (.slice (some ⟨g, P + hh, none⟩) hh hh) := by rw [heads_at HRz hl, Nat.add_mul, Nat.one_mul, HP.out]
          have f2 : wz.cell? ⟨g2, u, none⟩ = some (.slice (some ⟨g, P, none⟩) hh hh) := by rw [heads_at HRz hu, HP.out]
          clear HRz
          (intro v h; have h2 := (id h : v = _); clear h; subst h2)
          simp only [Step, Act.put, dstIn, List.map_cons, List.getD_cons_zero, List.getD_cons_succ, List.setIfInBounds_toArray, List.set_cons_zero, List.set_cons_succ]
          intro R hR
          rw [if_pos (by rfl)]
          go_simp
          first | exact hR _ _ ⟨⟨PreW.refl (partPre g N) _⟩, isV_mk (w := wz)⟩ | (rw [if_pos (by omega)]; exact hR _ _ ⟨⟨PreW.refl (partPre g N) _⟩, isV_mk (w := wz)⟩)
        refine eachOp_cons ?_ ?_
        · intro wz hwz
          simp only [eachDep]
          have HRz := HR.out.off hwz.out.1 Ne.out.1
          have f1 : wz.cell? ⟨g2, u + 1, none⟩ = some (.slice (some ⟨g, P + hh, none⟩) hh hh) := by rw [heads_at HRz hl, Nat.add_mul, Nat.one_mul, HP.out]
          have f2 : wz.cell? ⟨g2, u, none⟩ = some (.slice (some ⟨g, P, none⟩) hh hh) := by rw [heads_at HRz hu, HP.out]
          clear HRz
          (intro v h; have h2 := (id h : v = _); clear h; subst h2)
          (intro v h; have h2 := (id h : v = _); clear h; subst h2)
          simp only [Step, Act.put, dstIn, List.map_cons, List.getD_cons_zero, List.getD_cons_succ, List.setIfInBounds_toArray, List.set_cons_zero, List.set_cons_succ]
          intro R hR
          rw [if_pos (by rfl)]
          go_simp
          first | exact hR _ _ ⟨⟨PreW.refl (partPre g N) _⟩, isV_mk (w := wz)⟩ | (rw [if_pos (by omega)]; exact hR _ _ ⟨⟨PreW.refl (partPre g N) _⟩, isV_mk (w := wz)⟩)
        refine eachOp_cons ?_ ?_
        · intro wz hwz
          simp only [eachDep]
          have HRz := HR.out.off hwz.out.1 Ne.out.1
          have f1 : wz.cell? ⟨g2, u + 1, none⟩ = some (.slice (some ⟨g, P + hh, none⟩) hh hh) := by rw [heads_at HRz hl, Nat.add_mul, Nat.one_mul, HP.out]
          have f2 : wz.cell? ⟨g2, u, none⟩ = some (.slice (some ⟨g, P, none⟩) hh hh) := by rw [heads_at HRz hu, HP.out]
          clear HRz
          (intro v h; have h2 := (id h : v = _); clear h; subst h2)
          simp only [Step, Act.put, dstIn, List.map_cons, List.getD_cons_zero, List.getD_cons_succ, List.setIfInBounds_toArray, List.set_cons_zero, List.set_cons_succ]
          intro R hR
          rw [if_pos (by rfl)]
          go_simp
          first | exact hR _ _ ⟨⟨PreW.refl (partPre g N) _⟩, isV_mk (w := wz)⟩ | (rw [if_pos (by omega)]; exact hR _ _ ⟨⟨PreW.refl (partPre g N) _⟩, isV_mk (w := wz)⟩)
        refine eachOp_cons ?_ ?_
        · intro wz hwz
          simp only [eachDep]
          have HRz := HR.out.off hwz.out.1 Ne.out.1
          have f1 : wz.cell? ⟨g2, u + 1, none⟩ = some (.slice (some ⟨g, P + hh, none⟩) hh hh) := by rw [heads_at HRz hl, Nat.add_mul, Nat.one_mul, HP.out]
          have f2 : wz.cell? ⟨g2, u, none⟩ = some (.slice (some ⟨g, P, none⟩) hh hh) := by rw [heads_at HRz hu, HP.out]
          clear HRz
          (intro v h; have h2 := (id h : v = _); clear h; subst h2)
          (intro v h; have h2 := (id h : v = _); clear h; subst h2)
          simp only [Step, Act.put, dstIn, List.map_cons, List.getD_cons_zero, List.getD_cons_succ, List.setIfInBounds_toArray, List.set_cons_zero, List.set_cons_succ]
          intro R hR
          rw [if_pos (by rfl)]
          go_simp
          have q := apart_piece g P hh _ wz (Classical.choose_spec (hwz.out.2 ⟨p, HPL.out, HB.out⟩)).2 (by rw [(Classical.choose_spec (hwz.out.2 ⟨p, HPL.out, HB.out⟩)).1, ← HPL.out]; exact Hle.out) (by omega)
          with_reducible refine q.mono ?_
          rintro e w' ⟨rfl, ⟨p2, hp2, hB2⟩, hgr⟩
          exact hR _ _ ⟨⟨And.intro hgr (fun _ => ⟨p2, by rw [hp2]; exact (Classical.choose_spec (hwz.out.2 ⟨p, HPL.out, HB.out⟩)).1, hB2⟩)⟩, isV_mk (w := w')⟩
        refine eachOp_cons ?_ ?_
        · intro wz hwz
          simp only [eachDep]
          have HRz := HR.out.off hwz.out.1 Ne.out.1
          have f1 : wz.cell? ⟨g2, u + 1, none⟩ = some (.slice (some ⟨g, P + hh, none⟩) hh hh) := by rw [heads_at HRz hl, Nat.add_mul, Nat.one_mul, HP.out]
          have f2 : wz.cell? ⟨g2, u, none⟩ = some (.slice (some ⟨g, P, none⟩) hh hh) := by rw [heads_at HRz hu, HP.out]
          clear HRz
          (intro v h; have h2 := (id h : v = _); clear h; subst h2)
          simp only [Step, Act.put, dstIn, List.map_cons, List.getD_cons_zero, List.getD_cons_succ, List.setIfInBounds_toArray, List.set_cons_zero, List.set_cons_succ]
          intro R hR
          rw [if_pos (by rfl)]
          go_simp
          first | exact hR _ _ ⟨⟨PreW.refl (partPre g N) _⟩, isV_mk (w := wz)⟩ | (rw [if_pos (by omega)]; exact hR _ _ ⟨⟨PreW.refl (partPre g N) _⟩, isV_mk (w := wz)⟩)
        exact eachOp_nil
      intro wq hwq
      simp only [eachDep, List.size_toArray, List.length_cons, List.length_nil, Nat.zero_add, Nat.reduceAdd, List.range, List.range.loop]
      (intro v h; have h2 := (id h : v = _); clear h; subst h2)
      (intro v h; have h2 := (id h : v = _); clear h; subst h2)
      (intro v h; have h2 := (id h : v = _); clear h; subst h2)
      (intro v h; have h2 := (id h : v = _); clear h; subst h2)
      (intro v h; have h2 := (id h : v = _); clear h; subst h2)
      (intro v h; have h2 := (id h : v = _); clear h; subst h2)
      (intro v h; have h2 := (id h : v = _); clear h; subst h2)
      (intro v h; have h2 := (id h : v = _); clear h; subst h2)
      (intro v h; have h2 := (id h : v = _); clear h; subst h2)
      (intro v h; have h2 := (id h : v = _); clear h; subst h2)
      (intro v h; have h2 := (id h : v = _); clear h; subst h2)
      simp only [Act.put, dstIn, List.map_cons, List.getD_cons_zero, List.getD_cons_succ, List.setIfInBounds_toArray, List.set_cons_zero, List.set_cons_succ]
      obtain ⟨p2, hp2, hB2⟩ := hwq.out.2 ⟨p, HPL.out, HB.out⟩
      have HPL2 := Pk.mk hp2
      have HB2 := Pk.mk hB2
      have HR2 := Pk.mk (HR.out.off hwq.out.1 Ne.out.1)
      have HX2 := Pk.mk (show BB wq g1 (la ++ marks) from Blk.off HX.out hwq.out.1 Ne.out.2.1)
      have HA2 := Pk.mk (HA.out.off hwq.out.1 (fun _ => Ne.out.2.2))
      have B2 := Pk.mk (B0.out.grown hwq.out.1 B0.out.size (fun k hk => by cases hk; exact HG.out))
      clear hp2 hB2
      go_wp2
      go_roundw
      · exact ⟨u + 1, p2, by omega, by go_num, HPL2, HB2, HR2, HX2, HA2, B2⟩
      · simp [intOf]; omega
    · have hue : u + 1 = 2 * kk := by omega
      have i1 : (2 * (kk : Int) - 1).toNat = u := by omega
      have i2 : (2 * (kk : Int) - 1) = (u : Int) := by omega
      have f2 : wr.cell? ⟨g2, u, none⟩ = some (.slice (some ⟨g, P, none⟩) hh hh) := by
        rw [heads_at HR.out hu, HP.out]
      have Hle := Pk.mk (show P + hh ≤ p.length by
        have : (u + 1) * hh = 2 * kk * hh := by rw [hue]
        rw [HPL.out, HN.out, HP.out, ← this, Nat.add_mul, Nat.one_mul]; exact Nat.le_refl _)
      go_wp2_with fail
      have q := apart_other (some ⟨g1, 0, none⟩) (la.length + 6) la.length la g P hh p wr rfl HX.out.front (fun a h => by cases h; exact Ne.out.2.1) HB.out Hle.out (by omega)
      with_reducible refine q.mono ?_
      clear q
      rintro e w8 ⟨rfl, _, hgr⟩
      have HX8 := Pk.mk (show BB w8 g1 (la ++ marks) from Blk.off HX.out hgr Ne.out.2.1)
      have HA8 := Pk.mk (HA.out.off hgr (fun _ => Ne.out.2.2))
      have B8 := Pk.mk (B0.out.grown hgr B0.out.size (fun k hk => by cases hk; exact HG.out))
      clear hgr
      go_wp2_with fail
      have q := qb (kept_calls g1 la A ca w8 HX8.out HA8.out hla)
      with_reducible refine q.mono ?_
      clear q
      rintro e w9 ⟨rfl, hb⟩
      go_wp2
      go_ret
      exact ⟨rfl, B8.out.trans (hb.mono B8.out.size)⟩
theorem LL.nil (w : World) : LL w none [] := And.intro (Cs.nil _ _) (fun x hx => by simp at hx)
set_option maxRecDepth 100000 in
set_option maxHeartbeats 4000000 in
theorem shardsSplits_err (E : Nat → Addr) (k : Int) (A : Option Addr) (ca : Nat) (la : List F) (w : World) (hE : ErrW w E errG) (ha : RB w A la) (hla : la.length ≤ 140737488351232) (h0 : halfC k la.length ≠ 0) :
    Calls Tryd.prog 3 #[.int .i64 k, .slice A la.length ca] w fun e w' => e = .returned (.bool true) ∧ Below w.heap.size w w' := by
  have c25 : halfC k la.length ≤ 25 := by rcases halfC_cases k la.length with h | h | h | h <;> omega
  have HE := Pk.mk hE
  have HA := Pk.mk ha
  have H0 := Pk.mk h0
  have B0 := Pk.mk (Below.refl w.heap.size w)
  clear hE ha h0
  go_enter Tryd.func3, Tryd.ntmps3
  go_wp2_with fail
  refine (alive06_calls E w (HE.out.sub shErrs_sub)).mono ?_
  rintro e w1 ⟨rfl, hb⟩
  replace HE := Pk.mk (HE.out.mono hb)
  replace HA := Pk.mk (HA.out.mono hb)
  replace B0 := Pk.mk (B0.out.trans ((hb).mono B0.out.size))
  clear hb
  go_wp2_with fail
  have q := bytes_calls A ca la w1 HA.out hla
  with_reducible refine q.mono ?_
  clear q
  rintro e w2 ⟨g1, rfl, hg1, hB1, hb⟩
  have HX := Pk.mk hB1
  replace HE := Pk.mk (HE.out.mono hb)
  replace HA := Pk.mk (HA.out.mono hb)
  replace B0 := Pk.mk (B0.out.trans ((hb).mono B0.out.size))
  clear hb
  clear hB1 hg1
  go_wp2_with fail
  have q := qb (split_err E k (some ⟨g1, 0, none⟩) (la.length + 6) la w2 (HE.out.sub shErrs_sub) H0.out (by omega))
  with_reducible refine q.mono ?_
  clear q
  rintro e w3 ⟨rfl, hb⟩
  replace HE := Pk.mk (HE.out.mono hb)
  replace HA := Pk.mk (HA.out.mono hb)
  replace HX := Pk.mk (HX.out.mono hb)
  replace B0 := Pk.mk (B0.out.trans ((hb).mono B0.out.size))
  clear hb
  go_wp2_with fail
  have q := refSplit_err k A ca la w3 H0.out (by omega)
  with_reducible refine q.mono ?_
  clear q
  rintro e w4 ⟨rfl, hw⟩
  obtain rfl := Eq.symm hw
  go_wp2_with fail
  have q := num_calls E _ w3 HE.out c25
  with_reducible refine q.mono ?_
  clear q
  rintro e w5 ⟨rfl, hb⟩
  replace HE := Pk.mk (HE.out.mono hb)
  replace HA := Pk.mk (HA.out.mono hb)
  replace HX := Pk.mk (HX.out.mono hb)
  replace B0 := Pk.mk (B0.out.trans ((hb).mono B0.out.size))
  clear hb
  go_wp2_with fail
  have q := qb (sameLists_calls none 0 0 [] none 0 [] w5 (LL.nil _) (LL.nil _) rfl rfl (by omega))
  with_reducible refine q.mono ?_
  clear q
  rintro e w6 ⟨rfl, hb⟩
  replace HE := Pk.mk (HE.out.mono hb)
  replace HA := Pk.mk (HA.out.mono hb)
  replace HX := Pk.mk (HX.out.mono hb)
  replace B0 := Pk.mk (B0.out.trans ((hb).mono B0.out.size))
  clear hb
  go_wp2_with fail
  have q := qb (kept_calls g1 la A ca w6 HX.out HA.out hla)
  with_reducible refine q.mono ?_
  clear q
  rintro e w7 ⟨rfl, hb⟩
  replace HE := Pk.mk (HE.out.mono hb)
  replace HA := Pk.mk (HA.out.mono hb)
  replace HX := Pk.mk (HX.out.mono hb)
  replace B0 := Pk.mk (B0.out.trans ((hb).mono B0.out.size))
  clear hb
  go_wp2
  go_loop [10] (fun n => n = .int .i64 1) (fun n => 0)
  case atStart => rfl
  case round =>
    obtain rfl := hrel
    go_wp2_with fail
    have q := qb (kept_calls g1 la A ca w7 HX.out HA.out hla)
    with_reducible refine q.mono ?_
    clear q
    rintro e w8 ⟨rfl, hb⟩
    replace HE := Pk.mk (HE.out.mono hb)
    replace HA := Pk.mk (HA.out.mono hb)
    replace HX := Pk.mk (HX.out.mono hb)
    replace B0 := Pk.mk (B0.out.trans ((hb).mono B0.out.size))
    clear hb
    go_wp2
    go_ret
    exact ⟨rfl, B0.out⟩

theorem halfC_nat {k : Int} {n : Nat} (h : halfC k n = 0) : ∃ (kk hh : Nat), k = kk ∧ halfV k n = hh := by
  obtain ⟨k1, k2, s1, s2, v1, v2, m1, m2⟩ := half_ok h
  exact ⟨k.toNat, (halfV k n).toNat, by omega, by omega⟩
theorem shardsSplits_walk (E : Nat → Addr) (k : Int) (A : Option Addr) (ca : Nat) (la : List F) (w : World) (hE : ErrW w E errG) (_wk : (Lit.int .i64 k).wf = true) (ha : RB w A la) (_hc : la.length ≤ ca) (hla : la.length ≤ 140737488351232) :
    Calls Tryd.prog 3 #[.int .i64 k, .slice A la.length ca] w fun e w' => e = .returned (.bool true) ∧ Below w.heap.size w w' := by
  by_cases h0 : halfC k la.length = 0
  · obtain ⟨kk, hh, rfl, hv⟩ := halfC_nat h0
    exact shardsSplits_ok E kk hh _ A ca la w hE ha hla h0 hv rfl
  · exact shardsSplits_err E k A ca la w hE ha hla h0
end Go.Proofs.YtejmbfoecacgmaaDoor
