/- The laws of the field's elements: each Go law answers true, whatever its numbers. -/
import Derived.Test.YtfanaaiakalccaaGfL
namespace Go.Proofs.Ytfanaaiakalccaa
open Go Go.RowKit Go.Proofs.Ytfanaaiakalccaa.Gf
set_option linter.unusedSimpArgs false
set_option linter.unusedVariables false

set_option maxRecDepth 100000 in
set_option maxHeartbeats 1000000 in
theorem alive01_calls (w : World) : Calls Try.prog 10 #[] w fun e w' => e = .returned (.bool true) ∧ Below w.heap.size w w' := by
  have e1 : i (inv 2) = 142 := by decide +kernel
  have e2 : nz 2 = true := rfl
  have e3 : i (mul 2 128) = 29 := by decide +kernel
  have e4 : i (mul 3 7) = 9 := by decide +kernel
  have e5 : i (dot [1, 2] [3, 4, 5]) = 11 := by decide +kernel
  have Hw := Pk.mk (Below.refl w.heap.size w)
  go_enter Try.func10, Try.ntmps10
  go_wp2_with fail
  refine (inv_calls 2 _).mono ?_
  rintro e w' ⟨rfl, rfl⟩
  go_wp2_with fail
  refine (mul_calls 2 128 _).mono ?_
  rintro e w' ⟨rfl, rfl⟩
  go_wp2_with fail
  refine (mul_calls 3 7 _).mono ?_
  rintro e w' ⟨rfl, rfl⟩
  go_wp2_with fail
  refine (dot_calls _ _ [1, 2] _ _ [3, 4, 5] _ ?_ ?_ (by decide) (by decide)).mono ?_
  · exact (RB.lit [1, 2] _ rfl rfl).alloc _
  · exact RB.lit [3, 4, 5] _ (by simp) rfl
  rintro e w2 ⟨rfl, hb⟩
  go_wp2
  go_ret
  exact ⟨rfl, ((Hw.out.alloc (Nat.le_refl _) _).alloc (by simp) _).trans (hb.mono (by simp; omega))⟩

theorem wf_i64_bd {n : Int} (h : (Lit.int .i64 n).wf = true) : -9223372036854775808 ≤ n ∧ n ≤ 9223372036854775807 := by
  have := bounds_i64 h
  omega

/-- The logarithm, in the law's words. -/
theorem lgV_zero : lgV 0 = (0, false) := by unfold lgV; rw [lg_zero]
theorem lgV_ne {a : F} (h : a ≠ 0) : ∃ n : Nat, lg a = some n ∧ lgV a = ((n : Int), true) ∧ n < 255 ∧ pow 2 n = a := by
  obtain ⟨n, h1, h2, h3⟩ := lg_some h
  exact ⟨n, h1, by unfold lgV; rw [h1], h2, h3⟩
theorem i_ne {a : F} (h : a ≠ 0) : (i a == 0) = false := by simp only [beq_eq_false_iff_ne]; exact fun e => h (i_eq_zero.1 e)

theorem add_zero_calls (a : F) (w : World) :
    Calls Try.prog 11 #[.int .u8 (i a), .int .u8 0] w fun e w' => e = .returned (.int .u8 (i a)) ∧ w' = w :=
  (add_calls a 0 w).mono fun e w' ⟨h, h'⟩ => ⟨by rw [h, UInt8.xor_zero], h'⟩
theorem mul_one_calls (a : F) (w : World) :
    Calls Try.prog 12 #[.int .u8 (i a), .int .u8 1] w fun e w' => e = .returned (.int .u8 (i a)) ∧ w' = w :=
  (mul_calls a 1 w).mono fun e w' ⟨h, h'⟩ => ⟨by rw [h, mul_one], h'⟩
theorem mul_zero_calls (a : F) (w : World) :
    Calls Try.prog 12 #[.int .u8 (i a), .int .u8 0] w fun e w' => e = .returned (.int .u8 0) ∧ w' = w :=
  (mul_calls a 0 w).mono fun e w' ⟨h, h'⟩ => ⟨by rw [h, mul_zero]; rfl, h'⟩
theorem nz_zero : nz 0 = false := rfl
theorem nz_ne {a : F} (h : a ≠ 0) : nz a = true := decide_eq_true h

set_option maxRecDepth 100000 in
set_option maxHeartbeats 2000000 in
theorem gfLaws_walk (a b c : F) (w : World) : Calls Try.prog 3 #[.int .u8 (i a), .int .u8 (i b), .int .u8 (i c)] w fun e w' => e = .returned (.bool true) ∧ Below w.heap.size w w' := by
  have e1 : i (b ^^^ a) = i (a ^^^ b) := by rw [UInt8.xor_comm]
  have e2 : i (mul b a) = i (mul a b) := by rw [mul_comm]
  have e3 : i (a ^^^ a) = 0 := by rw [add_self]; rfl
  have e4 : i (a ^^^ 0) = i a := by rw [UInt8.xor_zero]
  have e5 : i (mul a 1) = i a := by rw [mul_one]
  have e6 : i (mul a 0) = 0 := by rw [mul_zero]; rfl
  have e7 : i (a ^^^ b ^^^ c) = i (a ^^^ (b ^^^ c)) := by rw [UInt8.xor_assoc]
  have e8 : i (mul (mul a b) c) = i (mul a (mul b c)) := by rw [mul_assoc]
  have e9 : i (mul a (b ^^^ c)) = i (mul a b ^^^ mul a c) := by rw [mul_add]
  have Hw := Pk.mk (Below.refl w.heap.size w)
  rcases Decidable.em (a = 0) with ha | ha
  all_goals
    rcases Decidable.em (b = 0) with hb | hb
    all_goals
      first
        | (have f1 : nz a = false := (by rw [ha]; rfl); have f2 : (i a == 0) = true := (by rw [ha]; rfl); have f3 : (i a != 0) = false := (by rw [ha]; rfl))
        | (have f1 : nz a = true := nz_ne ha; have f2 : (i a == 0) = false := i_ne ha; have f3 : (i a != 0) = true := (by simp [bne, i_ne ha]); have f4 : i (mul a (inv a)) = 1 := (by rw [mul_inv ha]; rfl))
      first
        | (have g1 : nz b = false := (by rw [hb]; rfl); have g2 : (i b == 0) = true := (by rw [hb]; rfl); have g3 : (i b != 0) = false := (by rw [hb]; rfl))
        | (have g1 : nz b = true := nz_ne hb; have g2 : (i b == 0) = false := i_ne hb; have g3 : (i b != 0) = true := (by simp [bne, i_ne hb]); have g4 : i (mul (mul a b) (inv b)) = i a := (by rw [mul_assoc, mul_inv hb, mul_one]))
      clear ha hb
      go_enter Try.func3, Try.ntmps3
      go_wp2_with fail
      refine (alive01_calls _).mono ?_
      rintro e w1 ⟨rfl, hb⟩
      have Hb := Pk.mk hb
      clear hb
      go_wp2_with (first
        | (go_at_call 11; ((first | (with_reducible refine (add_calls _ _ _).mono ?_) | (with_reducible refine (add_zero_calls _ _).mono ?_)); rintro e w' ⟨rfl, rfl⟩))
        | (go_at_call 12; ((first | (with_reducible refine (mul_calls _ _ _).mono ?_) | (with_reducible refine (mul_zero_calls _ _).mono ?_) | (with_reducible refine (mul_one_calls _ _).mono ?_)); rintro e w' ⟨rfl, rfl⟩))
        | (go_at_call 13; refine (inv_calls _ _).mono ?_; rintro e w' ⟨rfl, rfl⟩)
        | (go_at_call 14; refine (div_calls _ _ _).mono ?_; rintro e w' ⟨rfl, rfl⟩))
      go_ret
      exact ⟨rfl, Hb.out⟩

set_option maxRecDepth 100000 in
set_option maxHeartbeats 2000000 in
theorem gfLogs_walk (a b : F) (w : World) : Calls Try.prog 5 #[.int .u8 (i a), .int .u8 (i b)] w fun e w' => e = .returned (.bool true) ∧ Below w.heap.size w w' := by
  rcases Decidable.em (a = 0) with ha | ha
  · have f1 : (lgV a).2 = false := by rw [ha, lgV_zero]
    have f2 : (lgV (mul a b)).2 = false := by rw [ha, zero_mul, lgV_zero]
    have f3 : (i a != 0) = false := by rw [ha]; rfl
    clear ha
    rcases Decidable.em (b = 0) with hb | hb
    all_goals
      first
        | (have g1 : (lgV b).2 = false := (by rw [hb, lgV_zero]); have g3 : (i b != 0) = false := (by rw [hb]; rfl))
        | (have g1 : (lgV b).2 = true := (by obtain ⟨n, _, h, _⟩ := lgV_ne hb; rw [h]); have g3 : (i b != 0) = true := (by simp [bne, i_ne hb]))
      clear hb
      go_enter Try.func5, Try.ntmps5
      go_wp2_with fail
      refine (alive01_calls _).mono ?_
      rintro e w1 ⟨rfl, hb⟩
      have Hb := Pk.mk hb
      clear hb
      go_wp2_with (first
        | (go_at_call 15; refine (log_calls _ _).mono ?_; rintro e w' ⟨rfl, rfl⟩)
        | (go_at_call 12; refine (mul_calls _ _ _).mono ?_; rintro e w' ⟨rfl, rfl⟩))
      go_ret
      exact ⟨rfl, Hb.out⟩
  · obtain ⟨m, m1, m2, m3, m4⟩ := lgV_ne ha
    have f1 : (lgV a).2 = true := by rw [m2]
    have f2 : (lgV a).1 = (m : Int) := by rw [m2]
    have f3 : (i a != 0) = true := by simp [bne, i_ne ha]
    rcases Decidable.em (b = 0) with hb | hb
    · have g1 : (lgV b).2 = false := by rw [hb, lgV_zero]
      have g2 : (lgV (mul a b)).2 = false := by rw [hb, mul_zero, lgV_zero]
      have g3 : (i b != 0) = false := by rw [hb]; rfl
      clear hb ha m1 m2 m4
      go_enter Try.func5, Try.ntmps5
      go_wp2_with fail
      refine (alive01_calls _).mono ?_
      rintro e w1 ⟨rfl, hb⟩
      have Hb := Pk.mk hb
      clear hb
      go_wp2_with (first
        | (go_at_call 15; refine (log_calls _ _).mono ?_; rintro e w' ⟨rfl, rfl⟩)
        | (go_at_call 12; refine (mul_calls _ _ _).mono ?_; rintro e w' ⟨rfl, rfl⟩))
      go_ret
      exact ⟨rfl, Hb.out⟩
    · obtain ⟨n, n1, n2, n3, n4⟩ := lgV_ne hb
      have g1 : (lgV b).2 = true := by rw [n2]
      have g2 : (lgV b).1 = (n : Int) := by rw [n2]
      have g3 : (i b != 0) = true := by simp [bne, i_ne hb]
      obtain ⟨k, k1, k2, _, _⟩ := lgV_ne (mul_ne_zero ha hb)
      have hk : k = (m + n) % 255 := by
        have := lg_mul ha hb m1 n1
        rw [k1] at this
        exact Option.some.inj this
      have h1 : (lgV (mul a b)).2 = true := by rw [k2]
      have h2 : (lgV (mul a b)).1 = ((m : Int) + (n : Int)) % 255 := by rw [k2, hk]; simp
      rcases Decidable.em (a = b) with hab | hab
      all_goals
        first
          | (have x1 : (i a == i b) = true := (by rw [hab]; simp); have x2 : (m == n) = true := (by subst hab; rw [m1] at n1; simp; exact Option.some.inj n1))
          | (have x1 : (i a == i b) = false := (by simp only [beq_eq_false_iff_ne]; exact fun h => hab (i_inj h)); have x2 : (m == n) = false := (by simp only [beq_eq_false_iff_ne]; exact fun h => hab (lg_inj ha hb m1 (h ▸ n1))))
        have x3 : ((m : Int) == (n : Int)) = (m == n) := by
          rw [Bool.eq_iff_iff]; simp; omega
        rw [x2] at x3
        clear hab ha hb m1 m2 m4 n1 n2 n4 k1 k2 hk x2
        go_enter Try.func5, Try.ntmps5
        go_wp2_with fail
        refine (alive01_calls _).mono ?_
        rintro e w1 ⟨rfl, hb⟩
        have Hb := Pk.mk hb
        clear hb
        go_wp2_with (first
          | (go_at_call 15; refine (log_calls _ _).mono ?_; rintro e w' ⟨rfl, rfl⟩)
          | (go_at_call 12; refine (mul_calls _ _ _).mono ?_; rintro e w' ⟨rfl, rfl⟩))
        go_ret
        exact ⟨rfl, Hb.out⟩

theorem pow2_calls (n : Int) (w : World) :
    Calls Try.prog 16 #[.int .u8 2, .int .i64 n] w fun e w' => e = .returned (.int .u8 (i (powZ 2 n))) ∧ w' = w := pow_calls 2 n w
theorem tmod_40 (n : Int) : -1099511627776 < Int.tmod n 1099511627776 ∧ Int.tmod n 1099511627776 < 1099511627776 := by
  have h1 : 0 ≤ n % 1099511627776 := Int.emod_nonneg _ (by decide)
  have h2 : n % 1099511627776 < 1099511627776 := Int.emod_lt_of_pos _ (by decide)
  by_cases h : 0 ≤ n
  · rw [Int.tmod_eq_emod_of_nonneg h]; omega
  · rw [Int.tmod_eq_emod]; split <;> omega
set_option maxRecDepth 100000 in
set_option maxHeartbeats 2000000 in
theorem gfPowers_walk (a : F) (n m : Int) (w : World) (_hn : (Lit.int .i64 n).wf = true) (_hm : (Lit.int .i64 m).wf = true) : Calls Try.prog 4 #[.int .u8 (i a), .int .i64 n, .int .i64 m] w fun e w' => e = .returned (.bool true) ∧ Below w.heap.size w w' := by
  obtain ⟨p1, p2⟩ := tmod_40 n
  obtain ⟨q1, q2⟩ := tmod_40 m
  have f1 : i (powZ a 1) = i a := by rw [powZ_one]
  have f2 : i (powZ a 0) = 1 := by rw [powZ_zero]; rfl
  rcases Decidable.em (a = 0) with ha | ha
  · have g1 : (lgV a).2 = false := by rw [ha, lgV_zero]
    have g2 : (i a != 0) = false := by rw [ha]; rfl
    have g3 : (i a == 0) = true := by rw [ha]; rfl
    clear ha
    go_enter Try.func4, Try.ntmps4
    go_wp2_with fail
    refine (alive01_calls _).mono ?_
    rintro e w1 ⟨rfl, hb⟩
    have Hb := Pk.mk hb
    clear hb
    go_wp2_with (first
      | (go_at_call 15; refine (log_calls _ _).mono ?_; rintro e w' ⟨rfl, rfl⟩)
      | (go_at_call 16; with_reducible refine (pow_calls _ _ _).mono ?_; rintro e w' ⟨rfl, rfl⟩))
    go_ret
    exact ⟨rfl, Hb.out⟩
  · obtain ⟨k, k1, k2, k3, k4⟩ := lgV_ne ha
    have g1 : (lgV a).2 = true := by rw [k2]
    have g2 : (lgV a).1 = (k : Int) := by rw [k2]
    have g3 : (i a != 0) = true := by simp [bne, i_ne ha]
    have g4 : (i a == 0) = false := i_ne ha
    have g5 : i (powZ 2 (k : Int)) = i a := by
      rw [powZ_ne two_ne, ← k4]
      congr 2
      omega
    have h1 : i (mul (powZ a (Int.tmod n 1099511627776)) (powZ a (Int.tmod m 1099511627776))) = i (powZ a (Int.tmod n 1099511627776 + Int.tmod m 1099511627776)) := by rw [powZ_add ha]
    have h2 : i (mul (powZ a (Int.tmod n 1099511627776)) (powZ a (-Int.tmod n 1099511627776))) = 1 := by rw [powZ_neg ha]; rfl
    clear ha k1 k2 k4
    go_enter Try.func4, Try.ntmps4
    go_wp2_with fail
    refine (alive01_calls _).mono ?_
    rintro e w1 ⟨rfl, hb⟩
    have Hb := Pk.mk hb
    clear hb
    go_wp2_with (first
      | (go_at_call 15; refine (log_calls _ _).mono ?_; rintro e w' ⟨rfl, rfl⟩)
      | (go_at_call 12; refine (mul_calls _ _ _).mono ?_; rintro e w' ⟨rfl, rfl⟩)
      | (go_at_call 16; ((first | (with_reducible refine (pow_calls _ _ _).mono ?_) | (with_reducible refine (pow2_calls _ _).mono ?_)); rintro e w' ⟨rfl, rfl⟩)))
    go_ret
    exact ⟨rfl, Hb.out⟩
end Go.Proofs.Ytfanaaiakalccaa
