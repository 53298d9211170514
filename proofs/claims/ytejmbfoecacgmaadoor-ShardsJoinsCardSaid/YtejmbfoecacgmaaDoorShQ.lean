/- The document's Join. -/
import Derived.Test.YtejmbfoecacgmaaDoorShP
import Derived.Test.YtejmbfoecacgmaaDoorHead
namespace Go.Proofs.YtejmbfoecacgmaaDoor
open Go Go.RowKit Go.Proofs.YtejmbfoecacgmaaDoor.Gf
set_option linter.unusedVariables false
set_option linter.unusedSimpArgs false

theorem refJoin_err (k size : Int) (A : Option Addr) (n ca : Nat) (w : World) (h0 : halfC k size ≠ 0) :
    Calls Tryd.prog 18 #[.int .i64 k, .int .i64 size, .slice A n ca] w fun e w' => e = .returned (.tuple #[.slice none 0 0, .int .i64 (halfC k size : Nat)]) ∧ w' = w := by
  have hv : halfV k size = 0 := by simp [halfV, h0]
  rcases halfC_cases k size with h | h | h | h
  · exact absurd h h0
  all_goals
    go_enter Tryd.func18, Tryd.ntmps18
    go_wp2_with fail
    refine (refHalf_calls k size w).mono ?_
    rw [h, hv]
    rintro e w' ⟨rfl, rfl⟩
    go_wp2
    go_ret2
    exact ⟨by rw [h]; rfl, rfl⟩

/-- What the document's Join answers. -/
def RJ (H : List Sh) (n hh size : Nat) (w : World) (e : Ending) (w' : World) : Prop :=
  Below w.heap.size w w' ∧ ((fitH H n hh ∧ ∃ v, e = .returned (.tuple #[v, .int .i64 0]) ∧ w'.ownsRow w.heap.size 5 1 v size (bvs ((joined H n).take size))) ∨ (¬ fitH H n hh ∧ e = .returned (.tuple #[.slice none 0 0, .int .i64 5])))
theorem joined_at {H : List Sh} {n h i : Nat} (hf : fitH H n h) (hi : i < n * h) (hh : 0 < h) : ∃ (hq : i / h < H.length) (hr : i % h < H[i / h].2.2.length), (joined H n)[i]? = some (H[i / h].2.2[i % h]) := by
  have hq : i / h < n := Nat.div_lt_of_lt_mul (by rw [Nat.mul_comm]; exact hi)
  have hq' : i / h < H.length := by rw [hf.1]; exact hq
  have hl := hf.2 _ (List.getElem_mem hq')
  have hr : i % h < H[i / h].2.2.length := by rw [hl]; exact Nat.mod_lt _ hh
  refine ⟨hq', hr, ?_⟩
  have key : ∀ t, t ≤ n → i < t * h → (joined H t)[i]? = some (H[i / h].2.2[i % h]) := by
    intro t
    induction t with
    | zero => intro _ hlt; omega
    | succ t ih =>
      intro ht hlt
      have htl : t < H.length := by rw [hf.1]; exact ht
      rw [joined_succ H t htl]
      have hjl : (joined H t).length = t * h := joined_length H h hf.2 t (by omega)
      by_cases hc : i < t * h
      · rw [List.getElem?_append_left (by omega)]
        exact ih (by omega) hc
      · have hqt : i / h = t := by
          have h1 : t ≤ i / h := (Nat.le_div_iff_mul_le hh).2 (by omega)
          have h2 : i / h < t + 1 := Nat.div_lt_of_lt_mul (by rw [Nat.mul_comm]; exact hlt)
          omega
        subst hqt
        rw [List.getElem?_append_right (by omega), hjl]
        have hm : i - i / h * h = i % h := by
          have := Nat.div_add_mod i h
          rw [Nat.mul_comm] at this
          omega
        rw [hm]
        exact List.getElem?_eq_getElem hr
  exact key n (Nat.le_refl _) hi
theorem joined_take_succ {H : List Sh} {n i : Nat} {b : F} (h : (joined H n)[i]? = some b) : (joined H n).take (i + 1) = (joined H n).take i ++ [b] := by
  rw [List.take_add_one, h]; rfl

set_option maxRecDepth 100000 in
set_option maxHeartbeats 4000000 in
theorem refJoin_calls (kk hh size : Nat) (A : Option Addr) (n ca : Nat) (H : List Sh) (w : World) (hL : LL w A H) (hn : H.length = n) (hnl : n ≤ 5864062014634) (h0 : halfC kk size = 0) (hv : halfV kk size = hh) :
    Calls Tryd.prog 18 #[.int .i64 kk, .int .i64 size, .slice A n ca] w (RJ H (2 * kk) hh size w) := by
  obtain ⟨k1, k2, s1, s2, v1, v2, m1, m2⟩ := half_ok h0
  rw [hv] at v1 v2 m1 m2
  have HSZ := Pk.mk (show size ≤ 2 * kk * hh by
    have e : ((2 * kk * hh : Nat) : Int) = 2 * (kk : Int) * (hh : Int) := by push_cast; rfl
    rw [← e] at m1; exact Int.ofNat_le.1 m1)
  have HL := Pk.mk hL
  have HN := Pk.mk hn
  clear hL hn m1 m2
  obtain ⟨b0, hb0⟩ : ∃ b0, ((n : Int) != 2 * (kk : Int)) = b0 := ⟨_, rfl⟩
  have HB0 := Pk.mk hb0
  go_enter Tryd.func18, Tryd.ntmps18
  go_wp2_with fail
  refine (refHalf_calls kk size w).mono ?_
  rw [h0, hv]
  rintro e w1 ⟨rfl, hw1⟩
  obtain rfl := Eq.symm hw1
  clear h0 hv
  go_wp2
  clear hb0
  go_loop [31, 10] (fun x b => ∃ (t : Nat) (bb : Bool), t ≤ n ∧ x = .int .i64 (t : Int) ∧ b = .bool bb ∧ Pk (bb = true ↔ (b0 = true ∨ ∃ (j : Nat) (y : Sh), j < t ∧ H[j]? = some y ∧ y.2.2.length ≠ hh))) (fun x _ => n - (intOf x).toNat)
  case atStart => exact ⟨0, b0, Nat.zero_le _, rfl, rfl, ⟨by simp⟩⟩
  case round =>
    obtain ⟨t, bb, ht, rfl, rfl, HI⟩ := hrel
    by_cases hlt : t < n
    · have hlt' : t < H.length := by rw [HN.out]; exact hlt
      obtain ⟨a, rfl, hcell, hrb⟩ := HL.out.at hlt'
      obtain ⟨x, Hx⟩ : ∃ x, Pk (H[t]? = some x) := ⟨_, ⟨List.getElem?_eq_getElem hlt'⟩⟩
      have hxe : H[t] = x := Option.some.inj ((List.getElem?_eq_getElem hlt').symm.trans Hx.out)
      rw [hxe] at hcell
      obtain ⟨X, cx, lx⟩ := x
      simp only [hdr] at hcell
      clear hxe hrb
      cases bb with
      | true =>
        have HI2 := Pk.mk (show (true = true ↔ (b0 = true ∨ ∃ (j : Nat) (y : Sh), j < t + 1 ∧ H[j]? = some y ∧ y.2.2.length ≠ hh)) from ⟨fun _ => by
          rcases HI.out.1 rfl with h | ⟨j, y, h1, h2⟩
          · exact Or.inl h
          · exact Or.inr ⟨j, y, by omega, h2⟩, fun _ => rfl⟩)
        clear HI
        go_wp2
        go_round
        · exact ⟨t + 1, true, by omega, by go_num, rfl, HI2⟩
        · simp [intOf]; omega
      | false =>
        obtain ⟨b1, hb1⟩ : ∃ b1, ((lx.length : Int) != (hh : Int)) = b1 := ⟨_, rfl⟩
        have HI2 := Pk.mk (show (b1 = true ↔ (b0 = true ∨ ∃ (j : Nat) (y : Sh), j < t + 1 ∧ H[j]? = some y ∧ y.2.2.length ≠ hh)) from ⟨fun h => by
          rw [h, bne_iff_ne] at hb1
          exact Or.inr ⟨t, _, by omega, Hx.out, by simp only; omega⟩, fun h => by
          rcases h with h | ⟨j, y, h1, h2, h3⟩
          · exact absurd (HI.out.2 (Or.inl h)) (by simp)
          · by_cases hj : j < t
            · exact absurd (HI.out.2 (Or.inr ⟨j, y, hj, h2, h3⟩)) (by simp)
            · obtain rfl : j = t := by omega
              rw [Hx.out] at h2
              cases h2
              rw [← hb1, bne_iff_ne]
              simp only at h3; omega⟩)
        clear HI
        go_wp2
        go_round
        · exact ⟨t + 1, b1, by omega, by go_num, rfl, HI2⟩
        · simp [intOf]; omega
    · have hte : t = n := by omega
      subst hte
      cases bb with
      | true =>
        have HB : ¬ fitH H (2 * kk) hh := fun hf => by
          rcases HI.out.1 rfl with h | ⟨j, y, h1, h2, h3⟩
          · rw [← HB0.out, bne_iff_ne] at h
            exact h (by have := hf.1; have := HN.out; omega)
          · exact h3 (hf.2 y (List.mem_of_getElem? h2))
        have HB := Pk.mk HB
        clear HI
        go_wp2
        go_ret2
        exact And.intro (Below.refl _ _) (Or.inr ⟨HB.out, rfl⟩)
      | false =>
        have HF := Pk.mk (show fitH H (2 * kk) hh from And.intro (by
            have : b0 = false := by cases hb : b0 with
              | false => rfl
              | true => exact absurd (HI.out.2 (Or.inl hb)) (by simp)
            have h := HB0.out
            rw [this, bne_eq_false_iff_eq] at h
            have := HN.out
            omega) (fun x hx => Classical.byContradiction fun h => by
            obtain ⟨j, hj, hjx⟩ := List.getElem_of_mem hx
            exact absurd (HI.out.2 (Or.inr ⟨j, x, by have := HN.out; omega, by rw [List.getElem?_eq_getElem hj, hjx], h⟩)) (by simp)))
        have HO0 := Pk.mk (own_of_blk (base := w.heap.size) (e := 5) (xs := []) (ex := []) (Nat.le_refl _) (heap_alloc_new w (.cells #[] 5)) (by unfold maxLen; simp))
        clear HI
        go_wp2
        go_loopw [14, 13] (fun x o wr => ∃ i : Nat, i ≤ size ∧ x = .int .i64 (i : Int) ∧ Pk (wr.ownsRow w.heap.size 5 1 o i (bvs ((joined H (2 * kk)).take i))) ∧ Pk (Below w.heap.size w wr)) (fun x _ _ => size - (intOf x).toNat)
        case atStart => exact ⟨0, Nat.zero_le _, rfl, HO0, ⟨below_alloc _ _⟩⟩
        case round =>
          clear HO0
          obtain ⟨i, hi, rfl, HO, B0⟩ := hrel
          by_cases hil : i < size
          · obtain ⟨hq, hr, hj⟩ := joined_at HF.out (i := i) (by have := HSZ.out; omega) (by omega)
            obtain ⟨a, rfl, hcell, hrb⟩ := (HL.out.mono B0.out).at hq
            have HJ := Pk.mk (joined_take_succ hj)
            have hrl := HF.out.2 _ (List.getElem_mem hq)
            generalize H[i / hh] = y at *
            obtain ⟨X, cx, lx⟩ := y
            simp only at hrb hrl hr
            simp only [hdr, hrl] at hcell
            obtain ⟨b, rfl, hcb⟩ := RB.at hrb hr
            generalize lx[i % hh] = z at *
            obtain ⟨q, hqe⟩ : ∃ q, i / hh = q := ⟨_, rfl⟩
            obtain ⟨r, hre⟩ : ∃ r, i % hh = r := ⟨_, rfl⟩
            rw [hqe] at hcell hq
            rw [hre] at hcb hr
            have i1 : IntKind.i64.wrap (q : Int) = (q : Int) := IntWalk.i64_in _ (by have := HN.out; omega)
            have i2 : IntKind.i64.wrap (r : Int) = (r : Int) := IntWalk.i64_in _ (by omega)
            have i1' : (i : Int).tdiv (hh : Int) = (q : Int) := by rw [Int.tdiv_eq_ediv_of_nonneg (by omega), ← Int.natCast_ediv, hqe]
            have i2' : (i : Int).tmod (hh : Int) = (r : Int) := by rw [Int.tmod_eq_emod_of_nonneg (by omega), ← Int.natCast_emod, hre]
            have i3 : ¬ hh = 0 := by omega
            have i4 : q < t := by have := HN.out; omega
            have i5 : r < hh := by omega
            have i6 : (q : Int) < (t : Int) := by omega
            have i7 : (r : Int) < (hh : Int) := by omega
            clear hrb hqe hre hq hr hj hrl
            go_wp2
            apply wp_region_head belowR belowPre 13 [(50, []), (51, []), (52, []), (53, []), (54, [2, 3]), (55, [1, 4]), (56, [5]), (57, []), (58, []), (59, [7, 8]), (60, [6, 9]), (61, [10]), (62, [11])] [isV _, isV _, isV _, isV _, isV _, isV _, isV _, isV _, isV _, isV _, isV _, isV _, isR [z] 1] (by kernel_rfl) (by kernel_rfl) (by kernel_rfl)
            case hstab => repeat' first | (intro _ _ _ _ h; exact h) | exact isR_stable | exact trivial | refine And.intro ?_ ?_ | assumption
            case hops =>
              refine eachOp_cons ?_ ?_
              · intro wz hwz
                simp only [eachDep]
                have hcell := cell_below hcell hwz.out
                have hcb := cell_below hcb hwz.out
                simp only [Step, Act.put, dstIn, List.map_cons, List.getD_cons_zero, List.getD_cons_succ, List.setIfInBounds_toArray, List.set_cons_zero, List.set_cons_succ]
                intro R hR
                rw [if_pos (by rfl)]
                go_simp
                first | exact hR _ _ ⟨⟨Below.refl _ _⟩, isV_mk (w := wz)⟩ | (rw [if_pos (by omega)]; exact hR _ _ ⟨⟨Below.refl _ _⟩, isV_mk (w := wz)⟩)
              refine eachOp_cons ?_ ?_
              · intro wz hwz
                simp only [eachDep]
                have hcell := cell_below hcell hwz.out
                have hcb := cell_below hcb hwz.out
                simp only [Step, Act.put, dstIn, List.map_cons, List.getD_cons_zero, List.getD_cons_succ, List.setIfInBounds_toArray, List.set_cons_zero, List.set_cons_succ]
                intro R hR
                rw [if_pos (by rfl)]
                go_simp
                first | exact hR _ _ ⟨⟨Below.refl _ _⟩, isV_mk (w := wz)⟩ | (rw [if_pos (by omega)]; exact hR _ _ ⟨⟨Below.refl _ _⟩, isV_mk (w := wz)⟩)
              refine eachOp_cons ?_ ?_
              · intro wz hwz
                simp only [eachDep]
                have hcell := cell_below hcell hwz.out
                have hcb := cell_below hcb hwz.out
                simp only [Step, Act.put, dstIn, List.map_cons, List.getD_cons_zero, List.getD_cons_succ, List.setIfInBounds_toArray, List.set_cons_zero, List.set_cons_succ]
                intro R hR
                rw [if_pos (by rfl)]
                go_simp
                first | exact hR _ _ ⟨⟨Below.refl _ _⟩, isV_mk (w := wz)⟩ | (rw [if_pos (by omega)]; exact hR _ _ ⟨⟨Below.refl _ _⟩, isV_mk (w := wz)⟩)
              refine eachOp_cons ?_ ?_
              · intro wz hwz
                simp only [eachDep]
                have hcell := cell_below hcell hwz.out
                have hcb := cell_below hcb hwz.out
                simp only [Step, Act.put, dstIn, List.map_cons, List.getD_cons_zero, List.getD_cons_succ, List.setIfInBounds_toArray, List.set_cons_zero, List.set_cons_succ]
                intro R hR
                rw [if_pos (by rfl)]
                go_simp
                first | exact hR _ _ ⟨⟨Below.refl _ _⟩, isV_mk (w := wz)⟩ | (rw [if_pos (by omega)]; exact hR _ _ ⟨⟨Below.refl _ _⟩, isV_mk (w := wz)⟩)
              refine eachOp_cons ?_ ?_
              · intro wz hwz
                simp only [eachDep]
                have hcell := cell_below hcell hwz.out
                have hcb := cell_below hcb hwz.out
                (intro v h; have h2 := (id h : v = _); clear h; subst h2)
                (intro v h; have h2 := (id h : v = _); clear h; subst h2)
                simp only [Step, Act.put, dstIn, List.map_cons, List.getD_cons_zero, List.getD_cons_succ, List.setIfInBounds_toArray, List.set_cons_zero, List.set_cons_succ]
                intro R hR
                rw [if_pos (by rfl)]
                go_simp
                first | exact hR _ _ ⟨⟨Below.refl _ _⟩, isV_mk (w := wz)⟩ | (rw [if_pos (by omega)]; exact hR _ _ ⟨⟨Below.refl _ _⟩, isV_mk (w := wz)⟩)
              refine eachOp_cons ?_ ?_
              · intro wz hwz
                simp only [eachDep]
                have hcell := cell_below hcell hwz.out
                have hcb := cell_below hcb hwz.out
                (intro v h; have h2 := (id h : v = _); clear h; subst h2)
                (intro v h; have h2 := (id h : v = _); clear h; subst h2)
                simp only [Step, Act.put, dstIn, List.map_cons, List.getD_cons_zero, List.getD_cons_succ, List.setIfInBounds_toArray, List.set_cons_zero, List.set_cons_succ]
                intro R hR
                rw [if_pos (by rfl)]
                go_simp
                first | exact hR _ _ ⟨⟨Below.refl _ _⟩, isV_mk (w := wz)⟩ | (rw [if_pos (by omega)]; exact hR _ _ ⟨⟨Below.refl _ _⟩, isV_mk (w := wz)⟩)
              refine eachOp_cons ?_ ?_
              · intro wz hwz
                simp only [eachDep]
                have hcell := cell_below hcell hwz.out
                have hcb := cell_below hcb hwz.out
                (intro v h; have h2 := (id h : v = _); clear h; subst h2)
                simp only [Step, Act.put, dstIn, List.map_cons, List.getD_cons_zero, List.getD_cons_succ, List.setIfInBounds_toArray, List.set_cons_zero, List.set_cons_succ]
                intro R hR
                rw [if_pos (by rfl)]
                go_simp
                first | exact hR _ _ ⟨⟨Below.refl _ _⟩, isV_mk (w := wz)⟩ | (rw [if_pos (by omega)]; exact hR _ _ ⟨⟨Below.refl _ _⟩, isV_mk (w := wz)⟩)
              refine eachOp_cons ?_ ?_
              · intro wz hwz
                simp only [eachDep]
                have hcell := cell_below hcell hwz.out
                have hcb := cell_below hcb hwz.out
                simp only [Step, Act.put, dstIn, List.map_cons, List.getD_cons_zero, List.getD_cons_succ, List.setIfInBounds_toArray, List.set_cons_zero, List.set_cons_succ]
                intro R hR
                rw [if_pos (by rfl)]
                go_simp
                first | exact hR _ _ ⟨⟨Below.refl _ _⟩, isV_mk (w := wz)⟩ | (rw [if_pos (by omega)]; exact hR _ _ ⟨⟨Below.refl _ _⟩, isV_mk (w := wz)⟩)
              refine eachOp_cons ?_ ?_
              · intro wz hwz
                simp only [eachDep]
                have hcell := cell_below hcell hwz.out
                have hcb := cell_below hcb hwz.out
                simp only [Step, Act.put, dstIn, List.map_cons, List.getD_cons_zero, List.getD_cons_succ, List.setIfInBounds_toArray, List.set_cons_zero, List.set_cons_succ]
                intro R hR
                rw [if_pos (by rfl)]
                go_simp
                first | exact hR _ _ ⟨⟨Below.refl _ _⟩, isV_mk (w := wz)⟩ | (rw [if_pos (by omega)]; exact hR _ _ ⟨⟨Below.refl _ _⟩, isV_mk (w := wz)⟩)
              refine eachOp_cons ?_ ?_
              · intro wz hwz
                simp only [eachDep]
                have hcell := cell_below hcell hwz.out
                have hcb := cell_below hcb hwz.out
                (intro v h; have h2 := (id h : v = _); clear h; subst h2)
                (intro v h; have h2 := (id h : v = _); clear h; subst h2)
                simp only [Step, Act.put, dstIn, List.map_cons, List.getD_cons_zero, List.getD_cons_succ, List.setIfInBounds_toArray, List.set_cons_zero, List.set_cons_succ]
                intro R hR
                rw [if_pos (by rfl)]
                go_simp
                first | exact hR _ _ ⟨⟨Below.refl _ _⟩, isV_mk (w := wz)⟩ | (rw [if_pos (by omega)]; exact hR _ _ ⟨⟨Below.refl _ _⟩, isV_mk (w := wz)⟩)
              refine eachOp_cons ?_ ?_
              · intro wz hwz
                simp only [eachDep]
                have hcell := cell_below hcell hwz.out
                have hcb := cell_below hcb hwz.out
                (intro v h; have h2 := (id h : v = _); clear h; subst h2)
                (intro v h; have h2 := (id h : v = _); clear h; subst h2)
                simp only [Step, Act.put, dstIn, List.map_cons, List.getD_cons_zero, List.getD_cons_succ, List.setIfInBounds_toArray, List.set_cons_zero, List.set_cons_succ]
                intro R hR
                rw [if_pos (by rfl)]
                go_simp
                first | exact hR _ _ ⟨⟨Below.refl _ _⟩, isV_mk (w := wz)⟩ | (rw [if_pos (by omega)]; exact hR _ _ ⟨⟨Below.refl _ _⟩, isV_mk (w := wz)⟩)
              refine eachOp_cons ?_ ?_
              · intro wz hwz
                simp only [eachDep]
                have hcell := cell_below hcell hwz.out
                have hcb := cell_below hcb hwz.out
                (intro v h; have h2 := (id h : v = _); clear h; subst h2)
                simp only [Step, Act.put, dstIn, List.map_cons, List.getD_cons_zero, List.getD_cons_succ, List.setIfInBounds_toArray, List.set_cons_zero, List.set_cons_succ]
                intro R hR
                rw [if_pos (by rfl)]
                go_simp
                first | exact hR _ _ ⟨⟨Below.refl _ _⟩, isV_mk (w := wz)⟩ | (rw [if_pos (by omega)]; exact hR _ _ ⟨⟨Below.refl _ _⟩, isV_mk (w := wz)⟩)
              refine eachOp_cons ?_ ?_
              · intro wz hwz
                simp only [eachDep]
                have hcell := cell_below hcell hwz.out
                have hcb := cell_below hcb hwz.out
                (intro v h; have h2 := (id h : v = _); clear h; subst h2)
                simp only [Step, Act.put, dstIn, List.map_cons, List.getD_cons_zero, List.getD_cons_succ, List.setIfInBounds_toArray, List.set_cons_zero, List.set_cons_succ]
                intro R hR
                rw [if_pos (by rfl)]
                go_simp
                exact hR _ _ ⟨⟨below_alloc _ _⟩, ⟨_, _, rfl, rfl, Nat.le_refl _, RB.lit [z] _ rfl rfl⟩⟩
              exact eachOp_nil
            intro wq hwq
            simp only [List.drop_succ_cons, List.drop_zero]
            simp only [eachDep, List.size_toArray, List.length_cons, List.length_nil, Nat.zero_add, Nat.reduceAdd, List.range, List.range.loop]
            (intro v h; have h2 := (id h : v = _); clear h; subst h2)
            (intro v h; have h2 := (id h : v = _); clear h; subst h2)
            (intro v h; have h2 := (id h : v = _); clear h; subst h2)
            (intro v h; have h2 := (id h : v = _); clear h; subst h2)
            (intro v h; have h2 := (id h : v = _); clear h; subst h2)
            (intro v h; have h2 := (id h : v = _); clear h; subst h2)
            (intro v h; have h2 := (id h : v = _); clear h; subst h2)
            (intro v h; have h2 := (id h : v = _); clear h; subst h2)
            (intro v h; have h2 := (id h : v = _); clear h; subst h2)
            (intro v h; have h2 := (id h : v = _); clear h; subst h2)
            (intro v h; have h2 := (id h : v = _); clear h; subst h2)
            (intro v h; have h2 := (id h : v = _); clear h; subst h2)
            rintro _ ⟨A_12, c_12, rfl, hl_12, hc_12, hr_12⟩
            have hv_12 := conv_bytes' c_12 hl_12 hr_12
            simp only [Act.put, dstIn, List.map_cons, List.getD_cons_zero, List.getD_cons_succ, List.setIfInBounds_toArray, List.set_cons_zero, List.set_cons_succ]
            refine app_bytes w.heap.size _ i ((joined H (2 * kk)).take i) (own_below HO.out hwq.out) (Nat.le_trans B0.out.size hwq.out.size) A_12 1 c_12 [z] hl_12 hr_12 (by omega) rfl rfl rfl rfl ?_
            intro v2 w2 hown hb _
            have HO2 := Pk.mk (show w2.ownsRow w.heap.size 5 1 v2 (i + 1) (bvs ((joined H (2 * kk)).take (i + 1))) by rw [HJ.out]; exact hown)
            have B2 := Pk.mk ((B0.out.trans (hwq.out.mono B0.out.size)).trans hb)
            clear hown hb HO HJ hr_12 hv_12 hwq hcell hcb B0 i1 i2 i1' i2'
            go_wp2
            go_roundw
            · exact ⟨i + 1, by omega, by go_num, HO2, B2⟩
            · simp [intOf]; omega
          · have hie : i = size := by omega
            subst hie
            go_wp2
            go_ret2
            exact And.intro B0.out (Or.inl (And.intro HF.out ⟨_, rfl, HO.out⟩))
end Go.Proofs.YtejmbfoecacgmaaDoor
