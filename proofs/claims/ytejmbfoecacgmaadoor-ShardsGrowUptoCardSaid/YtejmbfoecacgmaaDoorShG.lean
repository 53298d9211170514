/- ShardsSizes walked. -/
import Derived.Test.YtejmbfoecacgmaaDoorShF
namespace Go.Proofs.YtejmbfoecacgmaaDoor
open Go Go.RowKit Go.Proofs.YtejmbfoecacgmaaDoor.Gf
set_option linter.unusedVariables false
set_option linter.unusedSimpArgs false

theorem sameInts_calls' {n m : Nat} (A : Option Addr) (ca : Nat) (la : List Int) (B : Option Addr) (cb : Nat) (lb : List Int) (w : World) (hn : la.length = n) (hm : lb.length = m) (ha : IB w A la) (hb : IB w B lb) (hl : la = lb) (hs : la.length < 9000000000000000000) :
    Calls Tryd.prog 23 #[.slice A n ca, .slice B m cb] w fun e w' => e = .returned (.bool true) ∧ ∃ n, w' = w.drewN n := by
  subst hn hm; exact sameInts_calls A ca la B cb lb w ha hb hl hs
theorem wf_i64_bd {n : Int} (h : (Lit.int .i64 n).wf = true) : -9223372036854775808 ≤ n ∧ n ≤ 9223372036854775807 := by
  have := bounds_i64 h
  omega
theorem shErrs_sub : ∀ g ∈ shErrs, g ∈ errG := by decide

/-- Both Stripes at once: what they answer is the same. -/
theorem stripes_both (E : Nat → Addr) (k size : Int) (w : World) (hE : ErrW w E shErrs) :
    Calls Tryd.prog 21 #[.int .i64 k, .int .i64 size] w fun e w' => ∃ A n c l, e = .returned (.tuple #[.slice A n c, errN E (stripC k size)]) ∧ l.length = n ∧ IB w' A l ∧ n ≤ 4097 ∧ Below w.heap.size w w' ∧
      ∀ w2, Calls Tryd.prog 22 #[.int .i64 k, .int .i64 size] w2 fun e w' => ∃ B d, e = .returned (.tuple #[.slice B n d, .int .i64 (stripC k size : Nat)]) ∧ IB w' B l ∧ Below w2.heap.size w2 w' := by
  by_cases h0 : stripC k size = 0
  · obtain ⟨kk, rfl⟩ : ∃ kk : Nat, k = kk := ⟨k.toNat, by unfold stripC at h0; split at h0 <;> first | cases h0 | omega⟩
    obtain ⟨ss, rfl⟩ : ∃ ss : Nat, size = ss := ⟨size.toNat, by
      have : ¬ size < 0 := fun h => by
        unfold stripC at h0; split at h0
        · cases h0
        · simp [h] at h0
      omega⟩
    refine (stripes_ok E kk ss w hE h0).mono ?_
    rintro e w' ⟨t, v, rfl, he, ho, hb⟩
    obtain ⟨A, c, rfl, hc, hcs, _⟩ := own_form ho
    have ht : t ≤ 4097 := by
      obtain ⟨_, h2⟩ := he
      have hk1 : 1 ≤ kk := by unfold stripC at h0; split at h0 <;> first | cases h0 | omega
      have hs : ss ≤ 4096 := by
        unfold stripC at h0
        split at h0
        · cases h0
        · split at h0
          · cases h0
          · split at h0
            · cases h0
            · omega
      rcases h2 with h2 | h2
      · omega
      · have : (t - 1) * 1 ≤ (t - 1) * (128 * kk) := Nat.mul_le_mul_left _ (by omega)
        omega
    refine ⟨A, t, c, strp (128 * kk) ss t, by rw [h0, errN_0], strp_length _ _ _, hcs, ht, hb, fun w2 => ?_⟩
    refine (refStripes_ok kk ss w2 h0).mono ?_
    rintro e w' ⟨u, v, rfl, hu, ho, hb⟩
    obtain rfl := strpEnd_inj he hu
    obtain ⟨B, d, rfl, hd, hcs, _⟩ := own_form ho
    exact ⟨B, d, by rw [h0]; rfl, hcs, hb⟩
  · refine (stripes_err E k size w hE h0).mono ?_
    rintro e w' ⟨rfl, n, rfl⟩
    refine ⟨none, 0, 0, [], rfl, rfl, Cs.nil _ _, by omega, below_drewN (Below.refl _ _) n, fun w2 => ?_⟩
    refine (refStripes_err k size w2 h0).mono ?_
    rintro e w' ⟨rfl, rfl⟩
    exact ⟨none, 0, rfl, Cs.nil _ _, Below.refl _ _⟩

set_option maxRecDepth 100000 in
set_option maxHeartbeats 4000000 in
theorem shardsSizes_walk (E : Nat → Addr) (k size : Int) (w : World) (hE : ErrW w E errG) (wk : (Lit.int .i64 k).wf = true) (ws : (Lit.int .i64 size).wf = true) :
    Calls Tryd.prog 6 #[.int .i64 k, .int .i64 size] w fun e w' => e = .returned (.bool true) ∧ Below w.heap.size w w' := by
  have hs : size ≤ 9223372036854775807 := (wf_i64_bd ws).2
  have HE := Pk.mk hE
  clear hE
  have c25 : halfC k size ≤ 25 := by rcases halfC_cases k size with h | h | h | h <;> omega
  have d25 : stripC k size ≤ 25 := by rcases stripC_cases k size with h | h | h | h <;> omega
  go_enter Tryd.func6, Tryd.ntmps6
  go_wp2_with fail
  refine (alive06_calls E w (HE.out.sub shErrs_sub)).mono ?_
  rintro e w1 ⟨rfl, hb⟩
  have Hb := Pk.mk hb
  clear hb
  have HE1 := Pk.mk (HE.out.below Hb.out)
  go_wp2_with fail
  refine (half_calls E k size w1 (HE1.out.sub shErrs_sub) hs).mono ?_
  rintro e w2 ⟨rfl, n1, rfl⟩
  go_wp2_with fail
  refine (refHalf_calls k size _).mono ?_
  rintro e w3 ⟨rfl, rfl⟩
  go_wp2_with fail
  refine (stripes_both E k size _ ((HE1.out.below (below_drewN (Below.refl _ _) n1)).sub shErrs_sub)).mono ?_
  rintro e w4 ⟨A, n, c, l, rfl, hl, hA, hn, hb4, href⟩
  have B4 := Pk.mk (Hb.out.trans ((below_drewN (Below.refl _ _) n1).trans (hb4.mono (by simp)) |>.mono Hb.out.size))
  have HA := Pk.mk hA
  have HL := Pk.mk hl
  have HR := Pk.mk href
  have Hn := Pk.mk hn
  clear hl hA hb4 href hn
  go_wp2_with fail
  refine (HR.out w4).mono ?_
  rintro e w5 ⟨B, d, rfl, hB, hb5⟩
  have HB := Pk.mk hB
  have B5 := Pk.mk hb5
  have HE5 := Pk.mk (HE.out.below (B4.out.trans (hb5.mono B4.out.size)))
  clear hB hb5
  go_wp2_with fail
  refine (num_calls E _ w5 HE5.out c25).mono ?_
  rintro e w6 ⟨rfl, hb6⟩
  have B6 := Pk.mk hb6
  clear hb6
  go_wp2_with fail
  refine (sameInts_calls' A c l B d l w6 HL.out HL.out (HA.out.mono (B5.out.trans (B6.out.mono B5.out.size))) (HB.out.mono B6.out) rfl (by have := Hn.out; have := HL.out; omega)).mono ?_
  rintro e w7 ⟨rfl, n7, rfl⟩
  go_wp2_with fail
  refine (num_calls E _ _ ((HE5.out.below B6.out).below (below_drewN (Below.refl _ _) n7)) d25).mono ?_
  rintro e w8 ⟨rfl, hb8⟩
  go_wp2_with fail
  have W5 := Pk.mk (B4.out.trans (B5.out.mono B4.out.size))
  have W6 := Pk.mk (W5.out.trans (B6.out.mono W5.out.size))
  have W7 := Pk.mk (below_drewN W6.out n7)
  exact ⟨rfl, _, results_tmp (t := 4) rfl _ _ _, rfl, W7.out.trans (hb8.mono W7.out.size)⟩
end Go.Proofs.YtejmbfoecacgmaaDoor
