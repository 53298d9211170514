/- GfLists walked. -/
import Derived.Test.YtfanaaiakalccaaGfLaw3
import Derived.Test.YtfanaaiakalccaaSlc
namespace Go.Proofs.Ytfanaaiakalccaa
open Go Go.RowKit Go.Proofs.Ytfanaaiakalccaa.Gf
set_option linter.unusedVariables false
set_option linter.unusedSimpArgs false

theorem i_one' : i 1 = 1 := by rfl
theorem axpy_one (a b : List F) : axpy a 1 b = sumF a b := by unfold axpy sumF; simp [one_mul]
theorem refDot_calls' {n m : Nat} (A : Option Addr) (ca : Nat) (la : List F) (B : Option Addr) (cb : Nat) (lb : List F) (w : World) (hn : la.length = n) (hm : lb.length = m)
    (ha : RB w A la) (hb : RB w B lb) (hca : la.length ≤ 140737488355328) (hcb : lb.length ≤ 140737488355328) :
    Calls Try.prog 28 #[.slice A n ca, .slice B m cb] w fun e w' => e = .returned (.int .u8 (i (dot la lb))) ∧ Below w.heap.size w w' := by
  subst hn hm; exact refDot_calls A ca la B cb lb w ha hb hca hcb
theorem refAddScaled_calls' {n m : Nat} {z : Int} (A : Option Addr) (ca : Nat) (la : List F) (c : F) (B : Option Addr) (cb : Nat) (lb r : List F) (w : World) (hn : la.length = n) (hm : lb.length = m) (hz : i c = z) (hr : axpy la c lb = r)
    (ha : RB w A la) (hb : RB w B lb) (hca : la.length ≤ 140737488355000) (hcb : lb.length ≤ 140737488355000) :
    Calls Try.prog 29 #[.slice A n ca, .int .u8 z, .slice B m cb] w fun e w' => Made w w' e r := by
  subst hn hm hz hr; exact refAddScaled_calls A ca la c B cb lb w ha hb hca hcb

set_option maxRecDepth 100000 in
set_option maxHeartbeats 4000000 in
theorem gfLists_walk (A : Option Addr) (ca : Nat) (la : List F) (B : Option Addr) (cb : Nat) (lb : List F) (c : F) (w : World)
    (ha : RB w A la) (_ca : la.length ≤ ca) (hla : la.length ≤ 140737488351232) (hb : RB w B lb) (_cb : lb.length ≤ cb) (hlb : lb.length ≤ 140737488351232) :
    Calls Try.prog 9 #[.slice A la.length ca, .slice B lb.length cb, .int .u8 (i c)] w fun e w' => e = .returned (.bool true) ∧ Below w.heap.size w w' := by
  have HA := Pk.mk ha
  have HB := Pk.mk hb
  clear ha hb
  go_enter Try.func9, Try.ntmps9
  go_wp2_with fail
  refine (alive01_calls _).mono ?_
  rintro e w1 ⟨rfl, hb⟩
  have H1 := Pk.mk hb
  clear hb
  go_wp2_with fail
  refine (bytes_calls A ca la w1 (HA.out.mono H1.out) hla).mono ?_
  rintro e w2 ⟨g1, rfl, hg1, hB1, hb⟩
  have HX := Pk.mk hB1
  have H2 := Pk.mk (H1.out.trans (hb.mono H1.out.size))
  have G1 := Pk.mk hg1
  have S1 := Pk.mk hB1.lt
  clear hb hB1 hg1
  go_wp2_with fail
  refine (bytes_calls B cb lb w2 (HB.out.mono H2.out) hlb).mono ?_
  rintro e w3 ⟨g2, rfl, hg2, hB2, hb⟩
  have HX3 := Pk.mk (HX.out.below hb)
  have HY := Pk.mk hB2
  have H3 := Pk.mk (H2.out.trans (hb.mono H2.out.size))
  have Z3 := Pk.mk hb.size
  have S2 := Pk.mk hB2.lt
  clear hb hB2 hg2
  go_wp2_with fail
  refine (sum_calls (some ⟨g1, 0, none⟩) (la.length + 6) la (some ⟨g2, 0, none⟩) (lb.length + 6) lb w3 HX3.out.front HY.out.front (by omega) (by omega)).mono ?_
  rintro e w4 hm
  obtain ⟨As, cs, rfl, hs, hb⟩ := Sl.of_made hm
  have LS4 := Pk.mk hs
  have B4 := Pk.mk hb
  clear hm hs hb
  go_wp2_with fail
  refine (scale_calls c (some ⟨g2, 0, none⟩) (lb.length + 6) lb w4 (HY.out.below B4.out).front (by omega)).mono ?_
  rintro e w5 hm
  obtain ⟨At, ct, rfl, hs, hb⟩ := Sl.of_made hm
  have LT5 := Pk.mk hs
  have B5 := Pk.mk hb
  clear hm hs hb
  go_wp2_with fail
  refine (addScaled_calls (some ⟨g1, 0, none⟩) (la.length + 6) la c (some ⟨g2, 0, none⟩) (lb.length + 6) lb w5 ((HX3.out.below B4.out).below B5.out).front ((HY.out.below B4.out).below B5.out).front (by omega) (by omega)).mono ?_
  rintro e w6 hm
  obtain ⟨Au, cu, rfl, hs, hb⟩ := Sl.of_made hm
  have LU6 := Pk.mk hs
  have B6 := Pk.mk hb
  clear hm hs hb
  have B46 := Pk.mk (B5.out.trans (B6.out.mono B5.out.size))
  have B36 := Pk.mk (B4.out.trans (B46.out.mono B4.out.size))
  have B6w := Pk.mk (H3.out.trans (B36.out.mono H3.out.size))
  have HX6 := Pk.mk (HX3.out.below B36.out)
  have HY6 := Pk.mk (HY.out.below B36.out)
  have LS6 := Pk.mk (LS4.out.below B46.out)
  have LT6 := Pk.mk (LT5.out.below B6.out)
  have HA6o := HA
  have HB6o := HB
  have HA6 := Pk.mk (HA.out.mono B6w.out)
  have HB6 := Pk.mk (HB.out.mono B6w.out)
  have Zs := Pk.mk (And.intro (And.intro B4.out.size B5.out.size) (And.intro B6.out.size (And.intro Z3.out H3.out.size)))
  clear LS4 LT5 HX HX3 HY B4 B5 B6 B46 B36 HA HB H1 H2 H3 Z3
  go_wp2_with fail
  apply wp_region_each' [(28, []), (29, []), (30, [0, 1]), (31, []), (32, []), (33, [3, 4, 2]), (34, [2, 5]), (35, [6, 5]), (36, [7]), (37, [8, 7]), (38, [7]), (39, [7]), (40, [10, 11, 7, 7]), (41, [12, 7]), (42, [9, 13, 7]), (43, [7, 14]), (44, [15, 12]), (45, [16]), (46, [17, 16]), (47, [16]), (48, [16]), (49, [19, 20, 16, 16]), (50, [21, 16]), (51, [18, 22, 16]), (52, [16, 23]), (53, [24, 21]), (54, [25]), (55, [26, 25]), (56, [25]), (57, [25]), (58, [25]), (59, [28, 29, 30, 25, 25]), (60, [31, 25]), (61, [27, 32, 25]), (62, [25, 33])] [isV _, isV _, isV (.int .u8 (i (dot la lb))), isV _, isV _, isV (.int .u8 (i (dot la lb))), isV _, isV _, isV _, isV _, isV _, isV _, isR (sumF la lb) (sumF la lb).length, isV _, isV _, isV _, isV _, isV _, isV _, isV _, isV _, isR (axpy [] c lb) (axpy [] c lb).length, isV _, isV _, isV _, isV _, isV _, isV _, isV _, isV _, isV _, isR (axpy la c lb) (axpy la c lb).length, isV _, isV _, isV _] (by kernel_rfl) (by kernel_rfl)
  case hstab => repeat' first | (intro _ _ _ _ h; exact h) | exact isR_stable | exact trivial | refine And.intro ?_ ?_ | assumption
  case hops =>
    refine eachOp_cons ?_ ?_
    · intro wz hwz
      simp only [eachDep]
      have hcs := conv_bytes' (w := wz) cs rfl (LS6.out.rb.mono hwz.out)
      have hct := conv_bytes' (w := wz) ct rfl (LT6.out.rb.mono hwz.out)
      have hcu := conv_bytes' (w := wz) cu rfl (LU6.out.rb.mono hwz.out)
      simp only [Step, Act.put, dstIn, List.map_cons, List.getD_cons_zero, List.getD_cons_succ, List.setIfInBounds_toArray, List.set_cons_zero, List.set_cons_succ]
      intro R hR
      rw [if_pos (by rfl)]
      go_simp
      exact hR _ _ ⟨⟨Below.refl _ _⟩, isV_mk (w := wz)⟩
    refine eachOp_cons ?_ ?_
    · intro wz hwz
      simp only [eachDep]
      have hcs := conv_bytes' (w := wz) cs rfl (LS6.out.rb.mono hwz.out)
      have hct := conv_bytes' (w := wz) ct rfl (LT6.out.rb.mono hwz.out)
      have hcu := conv_bytes' (w := wz) cu rfl (LU6.out.rb.mono hwz.out)
      simp only [Step, Act.put, dstIn, List.map_cons, List.getD_cons_zero, List.getD_cons_succ, List.setIfInBounds_toArray, List.set_cons_zero, List.set_cons_succ]
      intro R hR
      rw [if_pos (by rfl)]
      go_simp
      exact hR _ _ ⟨⟨Below.refl _ _⟩, isV_mk (w := wz)⟩
    refine eachOp_cons ?_ ?_
    · intro wz hwz
      simp only [eachDep]
      have hcs := conv_bytes' (w := wz) cs rfl (LS6.out.rb.mono hwz.out)
      have hct := conv_bytes' (w := wz) ct rfl (LT6.out.rb.mono hwz.out)
      have hcu := conv_bytes' (w := wz) cu rfl (LU6.out.rb.mono hwz.out)
      (intro v h; have h2 := (id h : v = _); clear h; subst h2)
      (intro v h; have h2 := (id h : v = _); clear h; subst h2)
      simp only [Step, Act.put, dstIn, List.map_cons, List.getD_cons_zero, List.getD_cons_succ, List.setIfInBounds_toArray, List.set_cons_zero, List.set_cons_succ]
      intro R hR
      rw [if_pos (by rfl)]
      go_simp
      first
        | (go_at_call 17; (with_reducible refine (dot_calls (some ⟨g1, 0, none⟩) (la.length + 6) la (some ⟨g2, 0, none⟩) (lb.length + 6) lb _ (HX6.out.below hwz.out).front (HY6.out.below hwz.out).front (by omega) (by omega)).mono ?_); rintro e w' ⟨rfl, hb⟩; exact hR _ _ ⟨⟨hb⟩, isV_mk (w := w')⟩)
        | (go_at_call 28; (with_reducible refine (refDot_calls A ca la B cb lb _ (HA6.out.mono hwz.out) (HB6.out.mono hwz.out) (by omega) (by omega)).mono ?_); rintro e w' ⟨rfl, hb⟩; exact hR _ _ ⟨⟨hb⟩, isV_mk (w := w')⟩)
        | (go_at_call 29; first
            | (with_reducible refine (refAddScaled_calls' A ca la c B cb lb _ _ rfl rfl rfl rfl (HA6.out.mono hwz.out) (HB6.out.mono hwz.out) (by omega) (by omega)).mono ?_); rintro e w' hm; obtain ⟨A1, c1, rfl, hc1, hr1, ho1, hb1⟩ := hm.form; exact hR _ _ ⟨⟨hb1⟩, ⟨_, _, rfl, rfl, hc1, hr1⟩⟩
            | (with_reducible refine (refAddScaled_calls' A ca la 1 B cb lb (sumF la lb) _ rfl rfl i_one' (axpy_one la lb) (HA6.out.mono hwz.out) (HB6.out.mono hwz.out) (by omega) (by omega)).mono ?_); rintro e w' hm; obtain ⟨A1, c1, rfl, hc1, hr1, ho1, hb1⟩ := hm.form; exact hR _ _ ⟨⟨hb1⟩, ⟨_, _, rfl, rfl, hc1, hr1⟩⟩
            | (with_reducible refine (refAddScaled_calls' none 0 [] c B cb lb _ _ List.length_nil rfl rfl rfl (Cs.nil _ _) (HB6.out.mono hwz.out) (by simp) (by omega)).mono ?_); rintro e w' hm; obtain ⟨A1, c1, rfl, hc1, hr1, ho1, hb1⟩ := hm.form; exact hR _ _ ⟨⟨hb1⟩, ⟨_, _, rfl, rfl, hc1, hr1⟩⟩)
    refine eachOp_cons ?_ ?_
    · intro wz hwz
      simp only [eachDep]
      have hcs := conv_bytes' (w := wz) cs rfl (LS6.out.rb.mono hwz.out)
      have hct := conv_bytes' (w := wz) ct rfl (LT6.out.rb.mono hwz.out)
      have hcu := conv_bytes' (w := wz) cu rfl (LU6.out.rb.mono hwz.out)
      simp only [Step, Act.put, dstIn, List.map_cons, List.getD_cons_zero, List.getD_cons_succ, List.setIfInBounds_toArray, List.set_cons_zero, List.set_cons_succ]
      intro R hR
      rw [if_pos (by rfl)]
      go_simp
      exact hR _ _ ⟨⟨Below.refl _ _⟩, isV_mk (w := wz)⟩
    refine eachOp_cons ?_ ?_
    · intro wz hwz
      simp only [eachDep]
      have hcs := conv_bytes' (w := wz) cs rfl (LS6.out.rb.mono hwz.out)
      have hct := conv_bytes' (w := wz) ct rfl (LT6.out.rb.mono hwz.out)
      have hcu := conv_bytes' (w := wz) cu rfl (LU6.out.rb.mono hwz.out)
      simp only [Step, Act.put, dstIn, List.map_cons, List.getD_cons_zero, List.getD_cons_succ, List.setIfInBounds_toArray, List.set_cons_zero, List.set_cons_succ]
      intro R hR
      rw [if_pos (by rfl)]
      go_simp
      exact hR _ _ ⟨⟨Below.refl _ _⟩, isV_mk (w := wz)⟩
    refine eachOp_cons ?_ ?_
    · intro wz hwz
      simp only [eachDep]
      have hcs := conv_bytes' (w := wz) cs rfl (LS6.out.rb.mono hwz.out)
      have hct := conv_bytes' (w := wz) ct rfl (LT6.out.rb.mono hwz.out)
      have hcu := conv_bytes' (w := wz) cu rfl (LU6.out.rb.mono hwz.out)
      (intro v h; have h2 := (id h : v = _); clear h; subst h2)
      (intro v h; have h2 := (id h : v = _); clear h; subst h2)
      (intro v h; have h2 := (id h : v = _); clear h; subst h2)
      simp only [Step, Act.put, dstIn, List.map_cons, List.getD_cons_zero, List.getD_cons_succ, List.setIfInBounds_toArray, List.set_cons_zero, List.set_cons_succ]
      intro R hR
      rw [if_pos (by rfl)]
      go_simp
      first
        | (go_at_call 17; (with_reducible refine (dot_calls (some ⟨g1, 0, none⟩) (la.length + 6) la (some ⟨g2, 0, none⟩) (lb.length + 6) lb _ (HX6.out.below hwz.out).front (HY6.out.below hwz.out).front (by omega) (by omega)).mono ?_); rintro e w' ⟨rfl, hb⟩; exact hR _ _ ⟨⟨hb⟩, isV_mk (w := w')⟩)
        | (go_at_call 28; (with_reducible refine (refDot_calls A ca la B cb lb _ (HA6.out.mono hwz.out) (HB6.out.mono hwz.out) (by omega) (by omega)).mono ?_); rintro e w' ⟨rfl, hb⟩; exact hR _ _ ⟨⟨hb⟩, isV_mk (w := w')⟩)
        | (go_at_call 29; first
            | (with_reducible refine (refAddScaled_calls' A ca la c B cb lb _ _ rfl rfl rfl rfl (HA6.out.mono hwz.out) (HB6.out.mono hwz.out) (by omega) (by omega)).mono ?_); rintro e w' hm; obtain ⟨A1, c1, rfl, hc1, hr1, ho1, hb1⟩ := hm.form; exact hR _ _ ⟨⟨hb1⟩, ⟨_, _, rfl, rfl, hc1, hr1⟩⟩
            | (with_reducible refine (refAddScaled_calls' A ca la 1 B cb lb (sumF la lb) _ rfl rfl i_one' (axpy_one la lb) (HA6.out.mono hwz.out) (HB6.out.mono hwz.out) (by omega) (by omega)).mono ?_); rintro e w' hm; obtain ⟨A1, c1, rfl, hc1, hr1, ho1, hb1⟩ := hm.form; exact hR _ _ ⟨⟨hb1⟩, ⟨_, _, rfl, rfl, hc1, hr1⟩⟩
            | (with_reducible refine (refAddScaled_calls' none 0 [] c B cb lb _ _ List.length_nil rfl rfl rfl (Cs.nil _ _) (HB6.out.mono hwz.out) (by simp) (by omega)).mono ?_); rintro e w' hm; obtain ⟨A1, c1, rfl, hc1, hr1, ho1, hb1⟩ := hm.form; exact hR _ _ ⟨⟨hb1⟩, ⟨_, _, rfl, rfl, hc1, hr1⟩⟩)
    refine eachOp_cons ?_ ?_
    · intro wz hwz
      simp only [eachDep]
      have hcs := conv_bytes' (w := wz) cs rfl (LS6.out.rb.mono hwz.out)
      have hct := conv_bytes' (w := wz) ct rfl (LT6.out.rb.mono hwz.out)
      have hcu := conv_bytes' (w := wz) cu rfl (LU6.out.rb.mono hwz.out)
      (intro v h; have h2 := (id h : v = _); clear h; subst h2)
      (intro v h; have h2 := (id h : v = _); clear h; subst h2)
      simp only [Step, Act.put, dstIn, List.map_cons, List.getD_cons_zero, List.getD_cons_succ, List.setIfInBounds_toArray, List.set_cons_zero, List.set_cons_succ]
      intro R hR
      rw [if_pos (by rfl)]
      go_simp
      exact hR _ _ ⟨⟨Below.refl _ _⟩, isV_mk (w := wz)⟩
    refine eachOp_cons ?_ ?_
    · intro wz hwz
      simp only [eachDep]
      have hcs := conv_bytes' (w := wz) cs rfl (LS6.out.rb.mono hwz.out)
      have hct := conv_bytes' (w := wz) ct rfl (LT6.out.rb.mono hwz.out)
      have hcu := conv_bytes' (w := wz) cu rfl (LU6.out.rb.mono hwz.out)
      (intro v h; have h2 := (id h : v = _); clear h; subst h2)
      (intro v h; have h2 := (id h : v = _); clear h; subst h2)
      simp only [Step, Act.put, dstIn, List.map_cons, List.getD_cons_zero, List.getD_cons_succ, List.setIfInBounds_toArray, List.set_cons_zero, List.set_cons_succ]
      intro R hR
      rw [if_pos (by rfl)]
      go_simp
      exact hR _ _ ⟨⟨Below.refl _ _⟩, isV_mk (w := wz)⟩
    refine eachOp_cons ?_ ?_
    · intro wz hwz
      simp only [eachDep]
      have hcs := conv_bytes' (w := wz) cs rfl (LS6.out.rb.mono hwz.out)
      have hct := conv_bytes' (w := wz) ct rfl (LT6.out.rb.mono hwz.out)
      have hcu := conv_bytes' (w := wz) cu rfl (LU6.out.rb.mono hwz.out)
      (intro v h; have h2 := (id h : v = _); clear h; subst h2)
      simp only [Step, Act.put, dstIn, List.map_cons, List.getD_cons_zero, List.getD_cons_succ, List.setIfInBounds_toArray, List.set_cons_zero, List.set_cons_succ]
      intro R hR
      rw [if_pos (by rfl)]
      go_simp
      exact hR _ _ ⟨⟨Below.refl _ _⟩, isV_mk (w := wz)⟩
    refine eachOp_cons ?_ ?_
    · intro wz hwz
      simp only [eachDep]
      have hcs := conv_bytes' (w := wz) cs rfl (LS6.out.rb.mono hwz.out)
      have hct := conv_bytes' (w := wz) ct rfl (LT6.out.rb.mono hwz.out)
      have hcu := conv_bytes' (w := wz) cu rfl (LU6.out.rb.mono hwz.out)
      (intro v h; have h2 := (id h : v = _); clear h; subst h2)
      (intro v h; have h2 := (id h : v = _); clear h; subst h2)
      simp only [Step, Act.put, dstIn, List.map_cons, List.getD_cons_zero, List.getD_cons_succ, List.setIfInBounds_toArray, List.set_cons_zero, List.set_cons_succ]
      intro R hR
      rw [if_pos (by rfl)]
      go_simp
      exact hR _ _ ⟨⟨Below.refl _ _⟩, isV_mk (w := wz)⟩
    refine eachOp_cons ?_ ?_
    · intro wz hwz
      simp only [eachDep]
      have hcs := conv_bytes' (w := wz) cs rfl (LS6.out.rb.mono hwz.out)
      have hct := conv_bytes' (w := wz) ct rfl (LT6.out.rb.mono hwz.out)
      have hcu := conv_bytes' (w := wz) cu rfl (LU6.out.rb.mono hwz.out)
      (intro v h; have h2 := (id h : v = _); clear h; subst h2)
      simp only [Step, Act.put, dstIn, List.map_cons, List.getD_cons_zero, List.getD_cons_succ, List.setIfInBounds_toArray, List.set_cons_zero, List.set_cons_succ]
      intro R hR
      rw [if_pos (by rfl)]
      go_simp
      exact hR _ _ ⟨⟨Below.refl _ _⟩, isV_mk (w := wz)⟩
    refine eachOp_cons ?_ ?_
    · intro wz hwz
      simp only [eachDep]
      have hcs := conv_bytes' (w := wz) cs rfl (LS6.out.rb.mono hwz.out)
      have hct := conv_bytes' (w := wz) ct rfl (LT6.out.rb.mono hwz.out)
      have hcu := conv_bytes' (w := wz) cu rfl (LU6.out.rb.mono hwz.out)
      (intro v h; have h2 := (id h : v = _); clear h; subst h2)
      simp only [Step, Act.put, dstIn, List.map_cons, List.getD_cons_zero, List.getD_cons_succ, List.setIfInBounds_toArray, List.set_cons_zero, List.set_cons_succ]
      intro R hR
      rw [if_pos (by rfl)]
      go_simp
      exact hR _ _ ⟨⟨Below.refl _ _⟩, isV_mk (w := wz)⟩
    refine eachOp_cons ?_ ?_
    · intro wz hwz
      simp only [eachDep]
      have hcs := conv_bytes' (w := wz) cs rfl (LS6.out.rb.mono hwz.out)
      have hct := conv_bytes' (w := wz) ct rfl (LT6.out.rb.mono hwz.out)
      have hcu := conv_bytes' (w := wz) cu rfl (LU6.out.rb.mono hwz.out)
      (intro v h; have h2 := (id h : v = _); clear h; subst h2)
      (intro v h; have h2 := (id h : v = _); clear h; subst h2)
      (intro v h; have h2 := (id h : v = _); clear h; subst h2)
      (intro v h; have h2 := (id h : v = _); clear h; subst h2)
      simp only [Step, Act.put, dstIn, List.map_cons, List.getD_cons_zero, List.getD_cons_succ, List.setIfInBounds_toArray, List.set_cons_zero, List.set_cons_succ]
      intro R hR
      rw [if_pos (by rfl)]
      go_simp
      first
        | (go_at_call 17; (with_reducible refine (dot_calls (some ⟨g1, 0, none⟩) (la.length + 6) la (some ⟨g2, 0, none⟩) (lb.length + 6) lb _ (HX6.out.below hwz.out).front (HY6.out.below hwz.out).front (by omega) (by omega)).mono ?_); rintro e w' ⟨rfl, hb⟩; exact hR _ _ ⟨⟨hb⟩, isV_mk (w := w')⟩)
        | (go_at_call 28; (with_reducible refine (refDot_calls A ca la B cb lb _ (HA6.out.mono hwz.out) (HB6.out.mono hwz.out) (by omega) (by omega)).mono ?_); rintro e w' ⟨rfl, hb⟩; exact hR _ _ ⟨⟨hb⟩, isV_mk (w := w')⟩)
        | (go_at_call 29; first
            | (with_reducible refine (refAddScaled_calls' A ca la c B cb lb _ _ rfl rfl rfl rfl (HA6.out.mono hwz.out) (HB6.out.mono hwz.out) (by omega) (by omega)).mono ?_); rintro e w' hm; obtain ⟨A1, c1, rfl, hc1, hr1, ho1, hb1⟩ := hm.form; exact hR _ _ ⟨⟨hb1⟩, ⟨_, _, rfl, rfl, hc1, hr1⟩⟩
            | (with_reducible refine (refAddScaled_calls' A ca la 1 B cb lb (sumF la lb) _ rfl rfl i_one' (axpy_one la lb) (HA6.out.mono hwz.out) (HB6.out.mono hwz.out) (by omega) (by omega)).mono ?_); rintro e w' hm; obtain ⟨A1, c1, rfl, hc1, hr1, ho1, hb1⟩ := hm.form; exact hR _ _ ⟨⟨hb1⟩, ⟨_, _, rfl, rfl, hc1, hr1⟩⟩
            | (with_reducible refine (refAddScaled_calls' none 0 [] c B cb lb _ _ List.length_nil rfl rfl rfl (Cs.nil _ _) (HB6.out.mono hwz.out) (by simp) (by omega)).mono ?_); rintro e w' hm; obtain ⟨A1, c1, rfl, hc1, hr1, ho1, hb1⟩ := hm.form; exact hR _ _ ⟨⟨hb1⟩, ⟨_, _, rfl, rfl, hc1, hr1⟩⟩)
    refine eachOp_cons ?_ ?_
    · intro wz hwz
      simp only [eachDep]
      have hcs := conv_bytes' (w := wz) cs rfl (LS6.out.rb.mono hwz.out)
      have hct := conv_bytes' (w := wz) ct rfl (LT6.out.rb.mono hwz.out)
      have hcu := conv_bytes' (w := wz) cu rfl (LU6.out.rb.mono hwz.out)
      rintro _ ⟨A_12, c_12, rfl, hl_12, hc_12, hr_12⟩
      have hv_12 := conv_bytes' c_12 hl_12 hr_12
      (intro v h; have h2 := (id h : v = _); clear h; subst h2)
      simp only [Step, Act.put, dstIn, List.map_cons, List.getD_cons_zero, List.getD_cons_succ, List.setIfInBounds_toArray, List.set_cons_zero, List.set_cons_succ]
      intro R hR
      rw [if_pos (by rfl)]
      go_simp
      exact hR _ _ ⟨⟨Below.refl _ _⟩, isV_mk (w := wz)⟩
    refine eachOp_cons ?_ ?_
    · intro wz hwz
      simp only [eachDep]
      have hcs := conv_bytes' (w := wz) cs rfl (LS6.out.rb.mono hwz.out)
      have hct := conv_bytes' (w := wz) ct rfl (LT6.out.rb.mono hwz.out)
      have hcu := conv_bytes' (w := wz) cu rfl (LU6.out.rb.mono hwz.out)
      (intro v h; have h2 := (id h : v = _); clear h; subst h2)
      (intro v h; have h2 := (id h : v = _); clear h; subst h2)
      (intro v h; have h2 := (id h : v = _); clear h; subst h2)
      simp only [Step, Act.put, dstIn, List.map_cons, List.getD_cons_zero, List.getD_cons_succ, List.setIfInBounds_toArray, List.set_cons_zero, List.set_cons_succ]
      intro R hR
      rw [if_pos (by rfl)]
      go_simp
      exact hR _ _ ⟨⟨Below.refl _ _⟩, isV_mk (w := wz)⟩
    refine eachOp_cons ?_ ?_
    · intro wz hwz
      simp only [eachDep]
      have hcs := conv_bytes' (w := wz) cs rfl (LS6.out.rb.mono hwz.out)
      have hct := conv_bytes' (w := wz) ct rfl (LT6.out.rb.mono hwz.out)
      have hcu := conv_bytes' (w := wz) cu rfl (LU6.out.rb.mono hwz.out)
      (intro v h; have h2 := (id h : v = _); clear h; subst h2)
      (intro v h; have h2 := (id h : v = _); clear h; subst h2)
      simp only [Step, Act.put, dstIn, List.map_cons, List.getD_cons_zero, List.getD_cons_succ, List.setIfInBounds_toArray, List.set_cons_zero, List.set_cons_succ]
      intro R hR
      rw [if_pos (by rfl)]
      go_simp
      exact hR _ _ ⟨⟨Below.refl _ _⟩, isV_mk (w := wz)⟩
    refine eachOp_cons ?_ ?_
    · intro wz hwz
      simp only [eachDep]
      have hcs := conv_bytes' (w := wz) cs rfl (LS6.out.rb.mono hwz.out)
      have hct := conv_bytes' (w := wz) ct rfl (LT6.out.rb.mono hwz.out)
      have hcu := conv_bytes' (w := wz) cu rfl (LU6.out.rb.mono hwz.out)
      (intro v h; have h2 := (id h : v = _); clear h; subst h2)
      rintro _ ⟨A_12, c_12, rfl, hl_12, hc_12, hr_12⟩
      have hv_12 := conv_bytes' c_12 hl_12 hr_12
      simp only [Step, Act.put, dstIn, List.map_cons, List.getD_cons_zero, List.getD_cons_succ, List.setIfInBounds_toArray, List.set_cons_zero, List.set_cons_succ]
      intro R hR
      rw [if_pos (by rfl)]
      go_simp
      exact hR _ _ ⟨⟨Below.refl _ _⟩, isV_mk (w := wz)⟩
    refine eachOp_cons ?_ ?_
    · intro wz hwz
      simp only [eachDep]
      have hcs := conv_bytes' (w := wz) cs rfl (LS6.out.rb.mono hwz.out)
      have hct := conv_bytes' (w := wz) ct rfl (LT6.out.rb.mono hwz.out)
      have hcu := conv_bytes' (w := wz) cu rfl (LU6.out.rb.mono hwz.out)
      (intro v h; have h2 := (id h : v = _); clear h; subst h2)
      simp only [Step, Act.put, dstIn, List.map_cons, List.getD_cons_zero, List.getD_cons_succ, List.setIfInBounds_toArray, List.set_cons_zero, List.set_cons_succ]
      intro R hR
      rw [if_pos (by rfl)]
      go_simp
      exact hR _ _ ⟨⟨Below.refl _ _⟩, isV_mk (w := wz)⟩
    refine eachOp_cons ?_ ?_
    · intro wz hwz
      simp only [eachDep]
      have hcs := conv_bytes' (w := wz) cs rfl (LS6.out.rb.mono hwz.out)
      have hct := conv_bytes' (w := wz) ct rfl (LT6.out.rb.mono hwz.out)
      have hcu := conv_bytes' (w := wz) cu rfl (LU6.out.rb.mono hwz.out)
      (intro v h; have h2 := (id h : v = _); clear h; subst h2)
      (intro v h; have h2 := (id h : v = _); clear h; subst h2)
      simp only [Step, Act.put, dstIn, List.map_cons, List.getD_cons_zero, List.getD_cons_succ, List.setIfInBounds_toArray, List.set_cons_zero, List.set_cons_succ]
      intro R hR
      rw [if_pos (by rfl)]
      go_simp
      exact hR _ _ ⟨⟨Below.refl _ _⟩, isV_mk (w := wz)⟩
    refine eachOp_cons ?_ ?_
    · intro wz hwz
      simp only [eachDep]
      have hcs := conv_bytes' (w := wz) cs rfl (LS6.out.rb.mono hwz.out)
      have hct := conv_bytes' (w := wz) ct rfl (LT6.out.rb.mono hwz.out)
      have hcu := conv_bytes' (w := wz) cu rfl (LU6.out.rb.mono hwz.out)
      (intro v h; have h2 := (id h : v = _); clear h; subst h2)
      simp only [Step, Act.put, dstIn, List.map_cons, List.getD_cons_zero, List.getD_cons_succ, List.setIfInBounds_toArray, List.set_cons_zero, List.set_cons_succ]
      intro R hR
      rw [if_pos (by rfl)]
      go_simp
      exact hR _ _ ⟨⟨Below.refl _ _⟩, isV_mk (w := wz)⟩
    refine eachOp_cons ?_ ?_
    · intro wz hwz
      simp only [eachDep]
      have hcs := conv_bytes' (w := wz) cs rfl (LS6.out.rb.mono hwz.out)
      have hct := conv_bytes' (w := wz) ct rfl (LT6.out.rb.mono hwz.out)
      have hcu := conv_bytes' (w := wz) cu rfl (LU6.out.rb.mono hwz.out)
      (intro v h; have h2 := (id h : v = _); clear h; subst h2)
      simp only [Step, Act.put, dstIn, List.map_cons, List.getD_cons_zero, List.getD_cons_succ, List.setIfInBounds_toArray, List.set_cons_zero, List.set_cons_succ]
      intro R hR
      rw [if_pos (by rfl)]
      go_simp
      exact hR _ _ ⟨⟨Below.refl _ _⟩, isV_mk (w := wz)⟩
    refine eachOp_cons ?_ ?_
    · intro wz hwz
      simp only [eachDep]
      have hcs := conv_bytes' (w := wz) cs rfl (LS6.out.rb.mono hwz.out)
      have hct := conv_bytes' (w := wz) ct rfl (LT6.out.rb.mono hwz.out)
      have hcu := conv_bytes' (w := wz) cu rfl (LU6.out.rb.mono hwz.out)
      (intro v h; have h2 := (id h : v = _); clear h; subst h2)
      (intro v h; have h2 := (id h : v = _); clear h; subst h2)
      (intro v h; have h2 := (id h : v = _); clear h; subst h2)
      (intro v h; have h2 := (id h : v = _); clear h; subst h2)
      simp only [Step, Act.put, dstIn, List.map_cons, List.getD_cons_zero, List.getD_cons_succ, List.setIfInBounds_toArray, List.set_cons_zero, List.set_cons_succ]
      intro R hR
      rw [if_pos (by rfl)]
      go_simp
      first
        | (go_at_call 17; (with_reducible refine (dot_calls (some ⟨g1, 0, none⟩) (la.length + 6) la (some ⟨g2, 0, none⟩) (lb.length + 6) lb _ (HX6.out.below hwz.out).front (HY6.out.below hwz.out).front (by omega) (by omega)).mono ?_); rintro e w' ⟨rfl, hb⟩; exact hR _ _ ⟨⟨hb⟩, isV_mk (w := w')⟩)
        | (go_at_call 28; (with_reducible refine (refDot_calls A ca la B cb lb _ (HA6.out.mono hwz.out) (HB6.out.mono hwz.out) (by omega) (by omega)).mono ?_); rintro e w' ⟨rfl, hb⟩; exact hR _ _ ⟨⟨hb⟩, isV_mk (w := w')⟩)
        | (go_at_call 29; first
            | (with_reducible refine (refAddScaled_calls' A ca la c B cb lb _ _ rfl rfl rfl rfl (HA6.out.mono hwz.out) (HB6.out.mono hwz.out) (by omega) (by omega)).mono ?_); rintro e w' hm; obtain ⟨A1, c1, rfl, hc1, hr1, ho1, hb1⟩ := hm.form; exact hR _ _ ⟨⟨hb1⟩, ⟨_, _, rfl, rfl, hc1, hr1⟩⟩
            | (with_reducible refine (refAddScaled_calls' A ca la 1 B cb lb (sumF la lb) _ rfl rfl i_one' (axpy_one la lb) (HA6.out.mono hwz.out) (HB6.out.mono hwz.out) (by omega) (by omega)).mono ?_); rintro e w' hm; obtain ⟨A1, c1, rfl, hc1, hr1, ho1, hb1⟩ := hm.form; exact hR _ _ ⟨⟨hb1⟩, ⟨_, _, rfl, rfl, hc1, hr1⟩⟩
            | (with_reducible refine (refAddScaled_calls' none 0 [] c B cb lb _ _ List.length_nil rfl rfl rfl (Cs.nil _ _) (HB6.out.mono hwz.out) (by simp) (by omega)).mono ?_); rintro e w' hm; obtain ⟨A1, c1, rfl, hc1, hr1, ho1, hb1⟩ := hm.form; exact hR _ _ ⟨⟨hb1⟩, ⟨_, _, rfl, rfl, hc1, hr1⟩⟩)
    refine eachOp_cons ?_ ?_
    · intro wz hwz
      simp only [eachDep]
      have hcs := conv_bytes' (w := wz) cs rfl (LS6.out.rb.mono hwz.out)
      have hct := conv_bytes' (w := wz) ct rfl (LT6.out.rb.mono hwz.out)
      have hcu := conv_bytes' (w := wz) cu rfl (LU6.out.rb.mono hwz.out)
      rintro _ ⟨A_21, c_21, rfl, hl_21, hc_21, hr_21⟩
      have hv_21 := conv_bytes' c_21 hl_21 hr_21
      (intro v h; have h2 := (id h : v = _); clear h; subst h2)
      simp only [Step, Act.put, dstIn, List.map_cons, List.getD_cons_zero, List.getD_cons_succ, List.setIfInBounds_toArray, List.set_cons_zero, List.set_cons_succ]
      intro R hR
      rw [if_pos (by rfl)]
      go_simp
      exact hR _ _ ⟨⟨Below.refl _ _⟩, isV_mk (w := wz)⟩
    refine eachOp_cons ?_ ?_
    · intro wz hwz
      simp only [eachDep]
      have hcs := conv_bytes' (w := wz) cs rfl (LS6.out.rb.mono hwz.out)
      have hct := conv_bytes' (w := wz) ct rfl (LT6.out.rb.mono hwz.out)
      have hcu := conv_bytes' (w := wz) cu rfl (LU6.out.rb.mono hwz.out)
      (intro v h; have h2 := (id h : v = _); clear h; subst h2)
      (intro v h; have h2 := (id h : v = _); clear h; subst h2)
      (intro v h; have h2 := (id h : v = _); clear h; subst h2)
      simp only [Step, Act.put, dstIn, List.map_cons, List.getD_cons_zero, List.getD_cons_succ, List.setIfInBounds_toArray, List.set_cons_zero, List.set_cons_succ]
      intro R hR
      rw [if_pos (by rfl)]
      go_simp
      exact hR _ _ ⟨⟨Below.refl _ _⟩, isV_mk (w := wz)⟩
    refine eachOp_cons ?_ ?_
    · intro wz hwz
      simp only [eachDep]
      have hcs := conv_bytes' (w := wz) cs rfl (LS6.out.rb.mono hwz.out)
      have hct := conv_bytes' (w := wz) ct rfl (LT6.out.rb.mono hwz.out)
      have hcu := conv_bytes' (w := wz) cu rfl (LU6.out.rb.mono hwz.out)
      (intro v h; have h2 := (id h : v = _); clear h; subst h2)
      (intro v h; have h2 := (id h : v = _); clear h; subst h2)
      simp only [Step, Act.put, dstIn, List.map_cons, List.getD_cons_zero, List.getD_cons_succ, List.setIfInBounds_toArray, List.set_cons_zero, List.set_cons_succ]
      intro R hR
      rw [if_pos (by rfl)]
      go_simp
      exact hR _ _ ⟨⟨Below.refl _ _⟩, isV_mk (w := wz)⟩
    refine eachOp_cons ?_ ?_
    · intro wz hwz
      simp only [eachDep]
      have hcs := conv_bytes' (w := wz) cs rfl (LS6.out.rb.mono hwz.out)
      have hct := conv_bytes' (w := wz) ct rfl (LT6.out.rb.mono hwz.out)
      have hcu := conv_bytes' (w := wz) cu rfl (LU6.out.rb.mono hwz.out)
      (intro v h; have h2 := (id h : v = _); clear h; subst h2)
      rintro _ ⟨A_21, c_21, rfl, hl_21, hc_21, hr_21⟩
      have hv_21 := conv_bytes' c_21 hl_21 hr_21
      simp only [Step, Act.put, dstIn, List.map_cons, List.getD_cons_zero, List.getD_cons_succ, List.setIfInBounds_toArray, List.set_cons_zero, List.set_cons_succ]
      intro R hR
      rw [if_pos (by rfl)]
      go_simp
      exact hR _ _ ⟨⟨Below.refl _ _⟩, isV_mk (w := wz)⟩
    refine eachOp_cons ?_ ?_
    · intro wz hwz
      simp only [eachDep]
      have hcs := conv_bytes' (w := wz) cs rfl (LS6.out.rb.mono hwz.out)
      have hct := conv_bytes' (w := wz) ct rfl (LT6.out.rb.mono hwz.out)
      have hcu := conv_bytes' (w := wz) cu rfl (LU6.out.rb.mono hwz.out)
      (intro v h; have h2 := (id h : v = _); clear h; subst h2)
      simp only [Step, Act.put, dstIn, List.map_cons, List.getD_cons_zero, List.getD_cons_succ, List.setIfInBounds_toArray, List.set_cons_zero, List.set_cons_succ]
      intro R hR
      rw [if_pos (by rfl)]
      go_simp
      exact hR _ _ ⟨⟨Below.refl _ _⟩, isV_mk (w := wz)⟩
    refine eachOp_cons ?_ ?_
    · intro wz hwz
      simp only [eachDep]
      have hcs := conv_bytes' (w := wz) cs rfl (LS6.out.rb.mono hwz.out)
      have hct := conv_bytes' (w := wz) ct rfl (LT6.out.rb.mono hwz.out)
      have hcu := conv_bytes' (w := wz) cu rfl (LU6.out.rb.mono hwz.out)
      (intro v h; have h2 := (id h : v = _); clear h; subst h2)
      (intro v h; have h2 := (id h : v = _); clear h; subst h2)
      simp only [Step, Act.put, dstIn, List.map_cons, List.getD_cons_zero, List.getD_cons_succ, List.setIfInBounds_toArray, List.set_cons_zero, List.set_cons_succ]
      intro R hR
      rw [if_pos (by rfl)]
      go_simp
      exact hR _ _ ⟨⟨Below.refl _ _⟩, isV_mk (w := wz)⟩
    refine eachOp_cons ?_ ?_
    · intro wz hwz
      simp only [eachDep]
      have hcs := conv_bytes' (w := wz) cs rfl (LS6.out.rb.mono hwz.out)
      have hct := conv_bytes' (w := wz) ct rfl (LT6.out.rb.mono hwz.out)
      have hcu := conv_bytes' (w := wz) cu rfl (LU6.out.rb.mono hwz.out)
      (intro v h; have h2 := (id h : v = _); clear h; subst h2)
      simp only [Step, Act.put, dstIn, List.map_cons, List.getD_cons_zero, List.getD_cons_succ, List.setIfInBounds_toArray, List.set_cons_zero, List.set_cons_succ]
      intro R hR
      rw [if_pos (by rfl)]
      go_simp
      exact hR _ _ ⟨⟨Below.refl _ _⟩, isV_mk (w := wz)⟩
    refine eachOp_cons ?_ ?_
    · intro wz hwz
      simp only [eachDep]
      have hcs := conv_bytes' (w := wz) cs rfl (LS6.out.rb.mono hwz.out)
      have hct := conv_bytes' (w := wz) ct rfl (LT6.out.rb.mono hwz.out)
      have hcu := conv_bytes' (w := wz) cu rfl (LU6.out.rb.mono hwz.out)
      (intro v h; have h2 := (id h : v = _); clear h; subst h2)
      simp only [Step, Act.put, dstIn, List.map_cons, List.getD_cons_zero, List.getD_cons_succ, List.setIfInBounds_toArray, List.set_cons_zero, List.set_cons_succ]
      intro R hR
      rw [if_pos (by rfl)]
      go_simp
      exact hR _ _ ⟨⟨Below.refl _ _⟩, isV_mk (w := wz)⟩
    refine eachOp_cons ?_ ?_
    · intro wz hwz
      simp only [eachDep]
      have hcs := conv_bytes' (w := wz) cs rfl (LS6.out.rb.mono hwz.out)
      have hct := conv_bytes' (w := wz) ct rfl (LT6.out.rb.mono hwz.out)
      have hcu := conv_bytes' (w := wz) cu rfl (LU6.out.rb.mono hwz.out)
      (intro v h; have h2 := (id h : v = _); clear h; subst h2)
      simp only [Step, Act.put, dstIn, List.map_cons, List.getD_cons_zero, List.getD_cons_succ, List.setIfInBounds_toArray, List.set_cons_zero, List.set_cons_succ]
      intro R hR
      rw [if_pos (by rfl)]
      go_simp
      exact hR _ _ ⟨⟨Below.refl _ _⟩, isV_mk (w := wz)⟩
    refine eachOp_cons ?_ ?_
    · intro wz hwz
      simp only [eachDep]
      have hcs := conv_bytes' (w := wz) cs rfl (LS6.out.rb.mono hwz.out)
      have hct := conv_bytes' (w := wz) ct rfl (LT6.out.rb.mono hwz.out)
      have hcu := conv_bytes' (w := wz) cu rfl (LU6.out.rb.mono hwz.out)
      (intro v h; have h2 := (id h : v = _); clear h; subst h2)
      (intro v h; have h2 := (id h : v = _); clear h; subst h2)
      (intro v h; have h2 := (id h : v = _); clear h; subst h2)
      (intro v h; have h2 := (id h : v = _); clear h; subst h2)
      (intro v h; have h2 := (id h : v = _); clear h; subst h2)
      simp only [Step, Act.put, dstIn, List.map_cons, List.getD_cons_zero, List.getD_cons_succ, List.setIfInBounds_toArray, List.set_cons_zero, List.set_cons_succ]
      intro R hR
      rw [if_pos (by rfl)]
      go_simp
      first
        | (go_at_call 17; (with_reducible refine (dot_calls (some ⟨g1, 0, none⟩) (la.length + 6) la (some ⟨g2, 0, none⟩) (lb.length + 6) lb _ (HX6.out.below hwz.out).front (HY6.out.below hwz.out).front (by omega) (by omega)).mono ?_); rintro e w' ⟨rfl, hb⟩; exact hR _ _ ⟨⟨hb⟩, isV_mk (w := w')⟩)
        | (go_at_call 28; (with_reducible refine (refDot_calls A ca la B cb lb _ (HA6.out.mono hwz.out) (HB6.out.mono hwz.out) (by omega) (by omega)).mono ?_); rintro e w' ⟨rfl, hb⟩; exact hR _ _ ⟨⟨hb⟩, isV_mk (w := w')⟩)
        | (go_at_call 29; first
            | (with_reducible refine (refAddScaled_calls' A ca la c B cb lb _ _ rfl rfl rfl rfl (HA6.out.mono hwz.out) (HB6.out.mono hwz.out) (by omega) (by omega)).mono ?_); rintro e w' hm; obtain ⟨A1, c1, rfl, hc1, hr1, ho1, hb1⟩ := hm.form; exact hR _ _ ⟨⟨hb1⟩, ⟨_, _, rfl, rfl, hc1, hr1⟩⟩
            | (with_reducible refine (refAddScaled_calls' A ca la 1 B cb lb (sumF la lb) _ rfl rfl i_one' (axpy_one la lb) (HA6.out.mono hwz.out) (HB6.out.mono hwz.out) (by omega) (by omega)).mono ?_); rintro e w' hm; obtain ⟨A1, c1, rfl, hc1, hr1, ho1, hb1⟩ := hm.form; exact hR _ _ ⟨⟨hb1⟩, ⟨_, _, rfl, rfl, hc1, hr1⟩⟩
            | (with_reducible refine (refAddScaled_calls' none 0 [] c B cb lb _ _ List.length_nil rfl rfl rfl (Cs.nil _ _) (HB6.out.mono hwz.out) (by simp) (by omega)).mono ?_); rintro e w' hm; obtain ⟨A1, c1, rfl, hc1, hr1, ho1, hb1⟩ := hm.form; exact hR _ _ ⟨⟨hb1⟩, ⟨_, _, rfl, rfl, hc1, hr1⟩⟩)
    refine eachOp_cons ?_ ?_
    · intro wz hwz
      simp only [eachDep]
      have hcs := conv_bytes' (w := wz) cs rfl (LS6.out.rb.mono hwz.out)
      have hct := conv_bytes' (w := wz) ct rfl (LT6.out.rb.mono hwz.out)
      have hcu := conv_bytes' (w := wz) cu rfl (LU6.out.rb.mono hwz.out)
      rintro _ ⟨A_31, c_31, rfl, hl_31, hc_31, hr_31⟩
      have hv_31 := conv_bytes' c_31 hl_31 hr_31
      (intro v h; have h2 := (id h : v = _); clear h; subst h2)
      simp only [Step, Act.put, dstIn, List.map_cons, List.getD_cons_zero, List.getD_cons_succ, List.setIfInBounds_toArray, List.set_cons_zero, List.set_cons_succ]
      intro R hR
      rw [if_pos (by rfl)]
      go_simp
      exact hR _ _ ⟨⟨Below.refl _ _⟩, isV_mk (w := wz)⟩
    refine eachOp_cons ?_ ?_
    · intro wz hwz
      simp only [eachDep]
      have hcs := conv_bytes' (w := wz) cs rfl (LS6.out.rb.mono hwz.out)
      have hct := conv_bytes' (w := wz) ct rfl (LT6.out.rb.mono hwz.out)
      have hcu := conv_bytes' (w := wz) cu rfl (LU6.out.rb.mono hwz.out)
      (intro v h; have h2 := (id h : v = _); clear h; subst h2)
      (intro v h; have h2 := (id h : v = _); clear h; subst h2)
      (intro v h; have h2 := (id h : v = _); clear h; subst h2)
      simp only [Step, Act.put, dstIn, List.map_cons, List.getD_cons_zero, List.getD_cons_succ, List.setIfInBounds_toArray, List.set_cons_zero, List.set_cons_succ]
      intro R hR
      rw [if_pos (by rfl)]
      go_simp
      exact hR _ _ ⟨⟨Below.refl _ _⟩, isV_mk (w := wz)⟩
    refine eachOp_cons ?_ ?_
    · intro wz hwz
      simp only [eachDep]
      have hcs := conv_bytes' (w := wz) cs rfl (LS6.out.rb.mono hwz.out)
      have hct := conv_bytes' (w := wz) ct rfl (LT6.out.rb.mono hwz.out)
      have hcu := conv_bytes' (w := wz) cu rfl (LU6.out.rb.mono hwz.out)
      (intro v h; have h2 := (id h : v = _); clear h; subst h2)
      (intro v h; have h2 := (id h : v = _); clear h; subst h2)
      simp only [Step, Act.put, dstIn, List.map_cons, List.getD_cons_zero, List.getD_cons_succ, List.setIfInBounds_toArray, List.set_cons_zero, List.set_cons_succ]
      intro R hR
      rw [if_pos (by rfl)]
      go_simp
      exact hR _ _ ⟨⟨Below.refl _ _⟩, isV_mk (w := wz)⟩
    exact eachOp_nil
  intro wq hwq
  simp only [eachDep, List.size_toArray, List.length_cons, List.length_nil, Nat.zero_add, Nat.reduceAdd, List.range, List.range.loop]
  (intro v h; have h2 := (id h : v = _); clear h; subst h2)
  (intro v h; have h2 := (id h : v = _); clear h; subst h2)
  (intro v h; have h2 := (id h : v = _); clear h; subst h2)
  (intro v h; have h2 := (id h : v = _); clear h; subst h2)
  (intro v h; have h2 := (id h : v = _); clear h; subst h2)
  (intro v h; have h2 := (id h : v = _); clear h; subst h2)
  (intro v h; have h2 := (id h : v = _); clear h; subst h2)
  (intro v h; have h2 := (id h : v = _); clear h; subst h2)
  (intro v h; have h2 := (id h : v = _); clear h; subst h2)
  (intro v h; have h2 := (id h : v = _); clear h; subst h2)
  (intro v h; have h2 := (id h : v = _); clear h; subst h2)
  (intro v h; have h2 := (id h : v = _); clear h; subst h2)
  rintro _ ⟨A_12, c_12, rfl, hl_12, hc_12, hr_12⟩
  have hv_12 := conv_bytes' c_12 hl_12 hr_12
  (intro v h; have h2 := (id h : v = _); clear h; subst h2)
  (intro v h; have h2 := (id h : v = _); clear h; subst h2)
  (intro v h; have h2 := (id h : v = _); clear h; subst h2)
  (intro v h; have h2 := (id h : v = _); clear h; subst h2)
  (intro v h; have h2 := (id h : v = _); clear h; subst h2)
  (intro v h; have h2 := (id h : v = _); clear h; subst h2)
  (intro v h; have h2 := (id h : v = _); clear h; subst h2)
  (intro v h; have h2 := (id h : v = _); clear h; subst h2)
  rintro _ ⟨A_21, c_21, rfl, hl_21, hc_21, hr_21⟩
  have hv_21 := conv_bytes' c_21 hl_21 hr_21
  (intro v h; have h2 := (id h : v = _); clear h; subst h2)
  (intro v h; have h2 := (id h : v = _); clear h; subst h2)
  (intro v h; have h2 := (id h : v = _); clear h; subst h2)
  (intro v h; have h2 := (id h : v = _); clear h; subst h2)
  (intro v h; have h2 := (id h : v = _); clear h; subst h2)
  (intro v h; have h2 := (id h : v = _); clear h; subst h2)
  (intro v h; have h2 := (id h : v = _); clear h; subst h2)
  (intro v h; have h2 := (id h : v = _); clear h; subst h2)
  (intro v h; have h2 := (id h : v = _); clear h; subst h2)
  rintro _ ⟨A_31, c_31, rfl, hl_31, hc_31, hr_31⟩
  have hv_31 := conv_bytes' c_31 hl_31 hr_31
  (intro v h; have h2 := (id h : v = _); clear h; subst h2)
  (intro v h; have h2 := (id h : v = _); clear h; subst h2)
  (intro v h; have h2 := (id h : v = _); clear h; subst h2)
  simp only [Act.put, dstIn, List.map_cons, List.getD_cons_zero, List.getD_cons_succ, List.setIfInBounds_toArray, List.set_cons_zero, List.set_cons_succ]
  go_wp2_with fail
  have LL := Pk.mk (And.intro (show (sumF la lb).length ≤ 140737488355000 by rw [sumF_length]; omega) (And.intro (show (axpy [] c lb).length ≤ 140737488355000 by rw [axpy_length]; simp; omega) (show (axpy la c lb).length ≤ 140737488355000 by rw [axpy_length]; omega)))
  have q1 := LT6.out.below (hwq.out.mono Zs.out.2.1)
  have q2 := (LS6.out.below (hwq.out.mono (Nat.le_trans Zs.out.1.2 Zs.out.2.1))).rb
  have q3 : ∀ a, As = some a → a.block < w4.heap.size ∨ w5.heap.size ≤ a.block := (fun a h => Or.inl (LS6.out.off a h).2)
  have q4 : w4.heap.size ≤ wq.heap.size := (by have := hwq.out.size; have := Zs.out; omega)
  have q5 := LL.out.2.1
  have q := apart_sl (m := (sumF la lb).length) (ca := cs) rfl q1 q2 q3 q4 q5
  with_reducible refine q.mono ?_
  clear q q1 q2 q3 q4 q5
  rintro e w7 ⟨rfl, ⟨ts, hT7⟩, hsp⟩
  have Hq := Pk.mk hwq.out.size
  have LT7 := Pk.mk hT7
  have LS7 := Pk.mk ((LS6.out.below (hwq.out.mono (Nat.le_trans Zs.out.1.2 Zs.out.2.1))).far hsp (Or.inl (Nat.le_refl _)))
  have LU7 := Pk.mk ((LU6.out.below hwq.out).far hsp (Or.inr (Nat.le_refl _)))
  have SP7 := Pk.mk hsp.1
  have Z7 := Pk.mk hsp.1.size
  clear hT7 hsp
  go_wp2_with fail
  have q4 : w5.heap.size ≤ w7.heap.size := by have := Hq.out; have := Z7.out; have := Zs.out; omega
  have q := apart_sl (ca := ct) LT7.out.1 LU7.out LT7.out.rb (fun a h => Or.inl (LT7.out.off a h).2) q4 LL.out.2.2
  with_reducible refine q.mono ?_
  clear q q4
  rintro e w8 ⟨rfl, ⟨us, hU8⟩, hsp⟩
  have LU8 := Pk.mk hU8
  have LS8 := Pk.mk (LS7.out.far hsp (Or.inl Zs.out.1.2))
  have SP8 := Pk.mk hsp.1
  clear hU8 hsp
  go_wp2_with fail
  have q4 : w3.heap.size ≤ w8.heap.size := by have := Hq.out; have := Z7.out; have := SP8.out.size; have := Zs.out; omega
  have q3 : ∀ a, Au = some a → a.block < w3.heap.size ∨ w4.heap.size ≤ a.block := fun a h => Or.inr (by have := (LU8.out.off a h).1; have := Zs.out; omega)
  have q := apart_sl (ca := cu) LU8.out.1 LS8.out LU8.out.rb q3 q4 LL.out.1
  with_reducible refine q.mono ?_
  clear q q3 q4
  rintro e w9 ⟨rfl, ⟨ss, hS9⟩, hsp⟩
  have b1 : Below w3.heap.size w6 wq := hwq.out.mono (by have := Zs.out; omega)
  have b2 : Below w3.heap.size wq w7 := SP7.out.mono (by have := Zs.out; omega)
  have b3 : Below w3.heap.size w7 w8 := SP8.out.mono (by have := Zs.out; omega)
  have B9 := Pk.mk (((b1.trans b2).trans b3).trans hsp.1)
  have HX9 := Pk.mk (show BB w9 g1 (la ++ marks) from (B9.out.block g1 (by have := S1.out; have := Zs.out; omega)).trans HX6.out)
  have HY9 := Pk.mk (show BB w9 g2 (lb ++ marks) from (B9.out.block g2 S2.out).trans HY6.out)
  have W9 := Pk.mk (B6w.out.trans (B9.out.mono Zs.out.2.2.2))
  have HA9 := Pk.mk (HA6o.out.mono W9.out)
  have HB9 := Pk.mk (HB6o.out.mono W9.out)
  clear hS9 hsp b1 b2 b3
  go_wp2_with fail
  have q := kept_calls g1 la A ca w9 HX9.out HA9.out hla
  with_reducible refine q.mono ?_
  clear q
  rintro e w10 ⟨rfl, n10, rfl⟩
  go_wp2_with fail
  have q := kept_calls g2 lb B cb (w9.drewN n10) (HY9.out.below (below_drewN (Below.refl _ _) n10)) (HB9.out.mono (below_drewN (Below.refl _ _) n10)) hlb
  with_reducible refine q.mono ?_
  clear q
  rintro e w11 ⟨rfl, n11, rfl⟩
  go_wp2_with fail
  exact ⟨rfl, _, results_tmp (t := 6) rfl _ _ _, rfl, below_drewN W9.out _⟩
end Go.Proofs.Ytfanaaiakalccaa
