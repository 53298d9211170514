/- The document's answers for the field, walked: each is the field's own. -/
import Derived.Test.YtfanaaiakalccaaGfL
import Derived.Test.YtfanaaiakalccaaGfRef
import Derived.Test.YtfanaaiakalccaaNum
namespace Go.Proofs.Ytfanaaiakalccaa
open Go Go.RowKit Go.Proofs.Ytfanaaiakalccaa.Gf
set_option linter.unusedSimpArgs false
set_option linter.unusedVariables false

theorem bit_u8 : ∀ (a : Fin 256) (k : Fin 8), (bits .and .u8 ((a.val : Int) / 2 ^ k.val) 1 == 1) = a.val.testBit k.val := by decide +kernel
theorem bit_byte (a : F) (k : Nat) (hk : k < 8) : (bits .and .u8 (i a / 2 ^ k) 1 == 1) = a.toNat.testBit k := bit_u8 ⟨a.toNat, a.toNat_lt⟩ ⟨k, hk⟩

theorem shl_xor (q e : Nat) (hq : q < 2 ^ 15) (he : e < 15) : bits .xor .i64 (q : Int) (wrap64 (2 ^ e)) = ((q ^^^ 2 ^ e : Nat) : Int) := by
  have h : (2 : Nat) ^ e ≤ 2 ^ 14 := Nat.pow_le_pow_right (by decide) (by omega)
  have hc : (2 : Int) ^ e = ((2 ^ e : Nat) : Int) := by simp
  rw [hc]
  generalize 2 ^ e = z at h
  have hw : wrap64 (z : Int) = (z : Int) := by unfold wrap64; omega
  rw [hw, xor_i64n _ _ (by omega) (by omega)]
theorem bit_int (p k : Nat) (hp : p < 2 ^ 15) : (bits .and .i64 ((p : Int) / 2 ^ k) 1 == 1) = p.testBit k := by
  have hc : (p : Int) / 2 ^ k = ((p / 2 ^ k : Nat) : Int) := by simp
  have hle : p / 2 ^ k ≤ p := Nat.div_le_self _ _
  rw [hc, Nat.testBit_eq_decide_div_mod_eq]
  generalize p / 2 ^ k = z at hle
  rw [and1 _ (by omega) (by omega), Bool.eq_iff_iff]
  simp
  omega
theorem shl285 (q m : Nat) (hq : q < 2 ^ 15) (hm : m < 7) : bits .xor .i64 (q : Int) (wrap64 (285 * 2 ^ m)) = ((q ^^^ (285 <<< m) : Nat) : Int) := by
  have h : (2 : Nat) ^ m ≤ 2 ^ 6 := Nat.pow_le_pow_right (by decide) (by omega)
  have hc : (285 : Int) * 2 ^ m = ((285 * 2 ^ m : Nat) : Int) := by simp
  rw [hc, Nat.shiftLeft_eq]
  have h2 : 285 * 2 ^ m ≤ 285 * 2 ^ 6 := Nat.mul_le_mul_left _ h
  generalize 285 * 2 ^ m = z at h2
  have hw : wrap64 (z : Int) = (z : Int) := by unfold wrap64; omega
  rw [hw, xor_i64n _ _ (by omega) (by omega)]
set_option maxRecDepth 100000 in
set_option maxHeartbeats 2000000 in
theorem refMul_calls (a b : F) (w : World) :
    Calls Try.prog 25 #[.int .u8 (i a), .int .u8 (i b)] w fun e w' => e = .returned (.int .u8 (i (mul a b))) ∧ w' = w := by
  have ha := i_nonneg a
  have ha' := i_lt a
  have hb := i_nonneg b
  have hb' := i_lt b
  go_enter Try.func25, Try.ntmps25
  go_wp2
  go_loop [5, 6] (fun p n => ∃ (k pp : Nat), k ≤ 8 ∧ n = .int .i64 (k : Int) ∧ p = .int .i64 (pp : Int) ∧ pp < 2 ^ 15 ∧ Pk (pp = clp a.toNat b.toNat k)) (fun _ n => 8 - (intOf n).toNat)
  case atStart => exact ⟨0, 0, by omega, rfl, rfl, by decide, ⟨rfl⟩⟩
  case round =>
    obtain ⟨k, pp, hk, rfl, rfl, hpp, HP⟩ := hrel
    by_cases hlt : k < 8
    · have hbk := bit_byte a k hlt
      generalize hbt : a.toNat.testBit k = bt at hbk
      have Hbt := Pk.mk hbt
      clear hbt
      go_wp2
      go_loop [5, 7] (fun p n => ∃ (j qq : Nat), j ≤ 8 ∧ n = .int .i64 (j : Int) ∧ p = .int .i64 (qq : Int) ∧ qq < 2 ^ 15 ∧ Pk (qq = pp ^^^ (if bt then inn b.toNat j k else 0))) (fun _ n => 8 - (intOf n).toNat)
      case atStart => exact ⟨0, pp, by omega, rfl, rfl, hpp, ⟨by rw [inn_zero]; simp⟩⟩
      case round =>
        obtain ⟨j, qq, hj, rfl, rfl, hqq, HQ⟩ := hrel
        by_cases hjl : j < 8
        · cases bt with
          | false =>
            have HQ2 := Pk.mk (show qq = pp ^^^ 0 from HQ.out)
            clear HQ
            go_wp2
            exact ⟨⟨j + 1, qq, by omega, by go_num, rfl, hqq, ⟨by simpa using HQ2.out⟩⟩, by simp [intOf]; omega⟩
          | true =>
            have hbj := bit_byte b j hjl
            have HQ2 := Pk.mk (show qq = pp ^^^ inn b.toNat j k from HQ.out)
            clear HQ
            cases htj : b.toNat.testBit j with
            | false =>
              rw [htj] at hbj
              have Htj := Pk.mk htj
              clear htj
              go_wp2
              exact ⟨⟨j + 1, qq, by omega, by go_num, rfl, hqq, ⟨by rw [inn_no _ _ _ Htj.out]; simpa using HQ2.out⟩⟩, by simp [intOf]; omega⟩
            | true =>
              rw [htj] at hbj
              have Htj := Pk.mk htj
              have Hsh := Pk.mk (shl_xor qq (k + j) hqq (by omega))
              have Hlt := Pk.mk (show qq ^^^ 2 ^ (k + j) < 2 ^ 15 from Nat.xor_lt_two_pow hqq (Nat.pow_lt_pow_right (by decide) (by omega)))
              clear htj
              go_wp2
              refine ⟨⟨j + 1, qq ^^^ 2 ^ (k + j), by omega, by go_num, by rw [Hsh.out], Hlt.out, ⟨?_⟩⟩, by simp [intOf]; omega⟩
              rw [inn_yes _ _ _ Htj.out, HQ2.out]
              rw [Nat.xor_assoc]
        · have Hn := Pk.mk (show qq = clp a.toNat b.toNat (k + 1) by
            have hj8 : j = 8 := by omega
            rw [HQ.out, HP.out, hj8, inn_all _ _ b.toNat_lt]
            simp only [clp, Hbt.out])
          go_wp2
          exact ⟨⟨k + 1, qq, by omega, by go_num, rfl, hqq, Hn⟩, by simp [intOf]; omega⟩
    · have hk8 : k = 8 := by omega
      subst hk8
      go_wp2
      go_loop [5, 8] (fun p n => ∃ (m qq : Nat), m ≤ 7 ∧ n = .int .i64 ((m : Int) + 7) ∧ p = .int .i64 (qq : Int) ∧ qq < 2 ^ 15 ∧ Pk (redN m qq = redN 7 (clp a.toNat b.toNat 8))) (fun _ n => (intOf n).toNat)
      case atStart => exact ⟨7, pp, by omega, rfl, rfl, hpp, ⟨by rw [HP.out]⟩⟩
      case round =>
        clear HP
        obtain ⟨m, qq, hm, rfl, rfl, hqq, HQ⟩ := hrel
        cases m with
        | zero =>
          have Hr := Pk.mk (show (qq : Int) % 256 = i (mul a b) by
            have h : qq = (mul a b).toNat := by rw [← red_mul, ← HQ.out]; rfl
            rw [h]; exact i_mod _)
          go_wp2
          go_ret
          exact ⟨ret_int Hr.out, rfl⟩
        | succ m =>
          have hbk := bit_int qq (m + 8) hqq
          cases htb : qq.testBit (m + 8) with
          | false =>
            rw [htb] at hbk
            have Htb := Pk.mk htb
            clear htb
            go_wp2
            refine ⟨⟨m, qq, by omega, by congr 1; omega, rfl, hqq, ⟨?_⟩⟩, by simp [intOf]; omega⟩
            rw [← HQ.out]
            simp only [redN, Htb.out, Bool.false_eq_true, if_false, Nat.xor_zero]
          | true =>
            rw [htb] at hbk
            have Htb := Pk.mk htb
            have Hsh := Pk.mk (shl285 qq m hqq (by omega))
            have Hlt := Pk.mk (show qq ^^^ (285 <<< m) < 2 ^ 15 from Nat.xor_lt_two_pow hqq (by
              rw [Nat.shiftLeft_eq]
              have h : (2 : Nat) ^ m ≤ 2 ^ 6 := Nat.pow_le_pow_right (by decide) (by omega)
              omega))
            clear htb
            go_wp2
            refine ⟨⟨m, qq ^^^ (285 <<< m), by omega, by congr 1; omega, by rw [Hsh.out], Hlt.out, ⟨?_⟩⟩, by simp [intOf]; omega⟩
            rw [← HQ.out]
            simp only [redN, Htb.out, if_true]

theorem refMul_num (a : F) (n : Int) (w : World) (h0 : 0 ≤ n) (h1 : n < 256) :
    Calls Try.prog 25 #[.int .u8 (i a), .int .u8 n] w fun e w' => e = .returned (.int .u8 (i (mul a (b8 n)))) ∧ w' = w := by
  have := refMul_calls a (b8 n) w
  rwa [i_b8 h0 h1] at this
theorem b8_nat (k : Nat) : b8 (k : Int) = UInt8.ofNat k := by simp [b8]

theorem nz_ne' {a : F} (h : a ≠ 0) : nz a = true := decide_eq_true h
set_option maxRecDepth 100000 in
set_option maxHeartbeats 1000000 in
theorem refInv_calls (a : F) (w : World) :
    Calls Try.prog 22 #[.int .u8 (i a)] w fun e w' => e = .returned (.tuple #[.int .u8 (i (inv a)), .bool (nz a)]) ∧ w' = w := by
  by_cases ha : a = 0
  · have Hr := Pk.mk (show i (inv a) = 0 by rw [ha, inv_zero]; rfl)
    have Hn := Pk.mk (show nz a = false by rw [ha]; rfl)
    have Hm := Pk.mk (show ∀ b, i (mul a b) = 0 by intro b; rw [ha, zero_mul]; rfl)
    clear ha
    go_enter Try.func22, Try.ntmps22
    go_wp2
    go_loop [4] (fun n => ∃ k : Nat, 1 ≤ k ∧ k ≤ 256 ∧ n = .int .i64 (k : Int)) (fun n => 256 - (intOf n).toNat)
    case atStart => exact ⟨1, by omega, by omega, rfl⟩
    case round =>
      obtain ⟨k, hk1, hk2, rfl⟩ := hrel
      by_cases hl : k < 256
      · have hm := Hm.out (b8 (k : Int))
        go_wp2_with (go_at_call 25; refine (refMul_num a _ _ (by omega) (by omega)).mono ?_; rintro e w' ⟨rfl, rfl⟩)
        exact ⟨⟨k + 1, by omega, by omega, by go_num⟩, by simp [intOf]; omega⟩
      · go_wp2
        go_ret2
        exact ⟨ret_ib Hr.out.symm Hn.out.symm, rfl⟩
  · obtain ⟨n, Hn, hn⟩ : ∃ n : Nat, Pk (inv a = UInt8.ofNat n) ∧ n < 256 := ⟨(inv a).toNat, ⟨by simp⟩, (inv a).toNat_lt⟩
    have hn1 : 1 ≤ n := by
      rcases Nat.eq_zero_or_pos n with h | h
      · subst h
        exact absurd Hn.out (inv_ne_zero ha)
      · exact h
    have Hm := Pk.mk (show ∀ k : Nat, k < 256 → (i (mul a (b8 (k : Int))) == 1) = decide (k = n) by
      intro k hk
      rw [Bool.eq_iff_iff]
      simp only [beq_iff_eq, decide_eq_true_eq]
      rw [b8_nat]
      constructor
      · intro e
        have h1 := inv_unique (i_eq_one.1 e)
        rw [Hn.out] at h1
        have h2 := congrArg UInt8.toNat h1
        simp only [UInt8.toNat_ofNat'] at h2
        omega
      · intro e
        rw [e, ← Hn.out, mul_inv ha]; rfl)
    have Hz := Pk.mk (show nz a = true from nz_ne' ha)
    have Hi := Pk.mk (show i (inv a) = (n : Int) by rw [Hn.out]; simp [i]; omega)
    clear ha
    go_enter Try.func22, Try.ntmps22
    go_wp2
    go_loop [4] (fun q => ∃ k : Nat, 1 ≤ k ∧ k ≤ n ∧ q = .int .i64 (k : Int)) (fun q => 256 - (intOf q).toNat)
    case atStart => exact ⟨1, by omega, by omega, rfl⟩
    case round =>
      obtain ⟨k, hk1, hk2, rfl⟩ := hrel
      have hm := Hm.out k (by omega)
      by_cases hl : k = n
      · subst hl
        rw [decide_eq_true rfl] at hm
        go_wp2_with (go_at_call 25; refine (refMul_num a _ _ (by omega) (by omega)).mono ?_; rintro e w' ⟨rfl, rfl⟩)
        go_ret2
        exact ⟨ret_ib (by rw [Hi.out]) Hz.out.symm, rfl⟩
      · rw [decide_eq_false hl] at hm
        go_wp2_with (go_at_call 25; refine (refMul_num a _ _ (by omega) (by omega)).mono ?_; rintro e w' ⟨rfl, rfl⟩)
        exact ⟨⟨k + 1, by omega, by omega, by go_num⟩, by simp [intOf]; omega⟩

theorem refDiv_calls (a b : F) (w : World) :
    Calls Try.prog 23 #[.int .u8 (i a), .int .u8 (i b)] w fun e w' => e = .returned (.tuple #[.int .u8 (i (mul a (inv b))), .bool (nz b)]) ∧ w' = w := by
  by_cases hb : b = 0
  · have Hr := Pk.mk (show i (mul a (inv b)) = 0 by rw [hb, inv_zero, mul_zero]; rfl)
    have Hn := Pk.mk (show nz b = false by rw [hb]; rfl)
    have hn := Hn.out
    clear hb
    go_enter Try.func23, Try.ntmps23
    go_wp2_with (first | (go_at_call 22; refine (refInv_calls _ _).mono ?_; rintro e w' ⟨rfl, rfl⟩) | (go_at_call 25; refine (refMul_calls _ _ _).mono ?_; rintro e w' ⟨rfl, rfl⟩))
    go_ret2
    exact ⟨ret_ib Hr.out.symm Hn.out.symm, rfl⟩
  · have hn : nz b = true := nz_ne' hb
    have Hn := Pk.mk hn
    clear hb
    go_enter Try.func23, Try.ntmps23
    go_wp2_with (first | (go_at_call 22; refine (refInv_calls _ _).mono ?_; rintro e w' ⟨rfl, rfl⟩) | (go_at_call 25; refine (refMul_calls _ _ _).mono ?_; rintro e w' ⟨rfl, rfl⟩))
    go_ret2
    exact ⟨ret_ib rfl Hn.out.symm, rfl⟩

theorem refMul2_calls (a : F) (w : World) :
    Calls Try.prog 25 #[.int .u8 (i a), .int .u8 2] w fun e w' => e = .returned (.int .u8 (i (dbl a))) ∧ w' = w := by
  rw [dbl_mul]
  exact refMul_calls a 2 w
set_option maxRecDepth 100000 in
theorem refLog_calls (a : F) (w : World) :
    Calls Try.prog 24 #[.int .u8 (i a)] w fun e w' => e = .returned (.tuple #[.int .i64 (lgV a).1, .bool (lgV a).2]) ∧ w' = w := by
  go_enter Try.func24, Try.ntmps24
  go_wp2
  go_loop [4, 5] (fun x n => ∃ (k : Nat) (xx : F), k ≤ 255 ∧ x = .int .u8 (i xx) ∧ n = .int .i64 (k : Int) ∧ Pk (lg a = lgB (255 - k) a.toBitVec xx.toBitVec k)) (fun _ n => 255 - (intOf n).toNat)
  case atStart => exact ⟨0, 1, by omega, rfl, rfl, Pk.mk rfl⟩
  case round =>
    obtain ⟨k, xx, hk, rfl, rfl, H⟩ := hrel
    by_cases hlt : k < 255
    · by_cases he : xx = a
      · subst he
        have he' : (i xx == i xx) = true := by simp
        have Hr := Pk.mk (show lgV xx = ((k : Int), true) by
          unfold lgV
          rw [H.out, show 255 - k = (254 - k) + 1 by omega]
          simp [lgB])
        go_wp2
        go_ret2
        exact ⟨ret_ib (by rw [Hr.out]) (by rw [Hr.out]), rfl⟩
      · have he' : (i xx == i a) = false := by simp only [beq_eq_false_iff_ne]; exact fun h => he (i_inj h)
        have Hr := Pk.mk (show lg a = lgB (255 - (k + 1)) a.toBitVec (dbl xx).toBitVec (k + 1) by
          rw [H.out, show 255 - k = (254 - k) + 1 by omega]
          simp only [lgB]
          rw [if_neg (fun h => he (fext h)), show 255 - (k + 1) = 254 - k by omega]
          rfl)
        clear he
        go_wp2_with (go_at_call 25; refine (refMul2_calls _ _).mono ?_; rintro e w' ⟨rfl, rfl⟩)
        exact ⟨⟨k + 1, dbl xx, by omega, rfl, by go_num, Hr⟩, by simp [intOf]; omega⟩
    · have Hr := Pk.mk (show lgV a = (0, false) by
        unfold lgV
        rw [H.out, show 255 - k = 0 by omega]
        rfl)
      go_wp2
      go_ret2
      exact ⟨ret_ib (by rw [Hr.out]) (by rw [Hr.out]), rfl⟩

set_option maxRecDepth 100000 in
set_option maxHeartbeats 1000000 in
theorem refPow_calls (a : F) (n : Int) (w : World) :
    Calls Try.prog 26 #[.int .u8 (i a), .int .i64 n] w fun e w' => e = .returned (.int .u8 (i (powZ a n))) ∧ w' = w := by
  by_cases h0 : n = 0
  · have Hr := Pk.mk (show 1 = i (powZ a n) by rw [h0]; rfl)
    subst h0
    go_enter Try.func26, Try.ntmps26
    go_wp2
    go_ret
    exact ⟨ret_int Hr.out, rfl⟩
  · have h0' : (n == 0) = false := by simpa using h0
    by_cases ha : a = 0
    · have Hr := Pk.mk (show 0 = i (powZ a n) by rw [ha]; unfold powZ; rw [if_neg h0, if_pos rfl]; rfl)
      have ha' : (i a == 0) = true := by rw [ha]; rfl
      clear h0 ha
      go_enter Try.func26, Try.ntmps26
      go_wp2
      go_ret
      exact ⟨ret_int Hr.out, rfl⟩
    · have ha' : (i a == 0) = false := by simp only [beq_eq_false_iff_ne]; exact fun h => ha (i_eq_zero.1 h)
      have Hp := Pk.mk (powZ_ne ha n)
      by_cases hn : Int.tmod n 255 < 0
      all_goals
        obtain ⟨m, Hm, Hs⟩ : ∃ m : Nat, Pk (m = (n % 255).toNat) ∧ Pk (m < 255) := ⟨_, Pk.mk rfl, Pk.mk (by first | exact (tmod_neg n hn).2 | exact (tmod_pos n hn).2)⟩
        have He : Int.tmod n 255 = (m : Int) ∨ Int.tmod n 255 + 255 = (m : Int) := by rw [Hm.out]; first | exact Or.inr (tmod_neg n hn).1 | exact Or.inl (tmod_pos n hn).1
        first | (have hn' : decide (Int.tmod n 255 < 0) = true := decide_eq_true hn) | (have hn' : decide (Int.tmod n 255 < 0) = false := decide_eq_false hn)
        obtain ⟨hb1, hb2⟩ := tmod_bd n
        have hms := Hs.out
        first | (have Hv := Pk.mk (show Int.tmod n 255 + 255 = (m : Int) by omega)) | (have Hv := Pk.mk (show Int.tmod n 255 = (m : Int) by omega))
        clear h0 ha hn He
        go_enter Try.func26, Try.ntmps26
        go_wp2
        rw [Hv.out]
        go_loop [6, 7] (fun o x => ∃ (t : Nat) (out : F), o = .int .u8 (i out) ∧ x = .int .i64 (t : Int) ∧ t ≤ m ∧ Pk (out = pow a t)) (fun _ x => m - (intOf x).toNat)
        case atStart => exact ⟨0, 1, rfl, rfl, Nat.zero_le _, ⟨rfl⟩⟩
        case round =>
          obtain ⟨t, out, rfl, rfl, ht, H⟩ := hrel
          by_cases hl : t < m
          · go_wp2_with (go_at_call 25; refine (refMul_calls _ _ _).mono ?_; rintro e w' ⟨rfl, rfl⟩)
            exact ⟨⟨t + 1, mul out a, rfl, by go_num, by omega, ⟨by rw [H.out]; rfl⟩⟩, by simp [intOf]; omega⟩
          · have Hr := Pk.mk (show i out = i (powZ a n) by rw [Hp.out, ← Hm.out, H.out, show t = m by omega])
            go_wp2
            go_ret
            exact ⟨ret_int Hr.out, rfl⟩

set_option maxRecDepth 100000 in
set_option maxHeartbeats 1000000 in
theorem refDot_calls (A : Option Addr) (ca : Nat) (la : List F) (B : Option Addr) (cb : Nat) (lb : List F) (w : World)
    (ha : RB w A la) (hb : RB w B lb) (hca : la.length ≤ 140737488355328) (hcb : lb.length ≤ 140737488355328) :
    Calls Try.prog 28 #[.slice A la.length ca, .slice B lb.length cb] w fun e w' => e = .returned (.int .u8 (i (dot la lb))) ∧ Below w.heap.size w w' := by
  have HA := Pk.mk ha
  have HB := Pk.mk hb
  clear ha hb
  go_enter Try.func28, Try.ntmps28
  go_wp2
  go_loopw [5, 6] (fun o n wr => ∃ (t : Nat) (acc : F), t ≤ min la.length lb.length ∧ n = .int .i64 (t : Int) ∧ o = .int .u8 (i acc) ∧ Pk (acc ^^^ dot (la.drop t) (lb.drop t) = dot la lb) ∧ Pk (Below w.heap.size w wr)) (fun _ n _ => min la.length lb.length - (intOf n).toNat)
  case atStart => exact ⟨0, 0, Nat.zero_le _, rfl, rfl, ⟨UInt8.zero_xor⟩, ⟨Below.refl _ _⟩⟩
  case round =>
    obtain ⟨t, acc, ht, rfl, rfl, H, Hb⟩ := hrel
    by_cases hl : t < min la.length lb.length
    · have hla : t < la.length := by omega
      have hlb : t < lb.length := by omega
      obtain ⟨a, rfl, hcA⟩ := RB.at (HA.out.mono Hb.out) hla
      obtain ⟨b, rfl, hcB⟩ := RB.at (HB.out.mono Hb.out) hlb
      have Hs := Pk.mk (dot_step hla hlb)
      generalize hx : la[t] = x at hcA Hs
      generalize hy : lb[t] = y at hcB Hs
      have Hx := Pk.mk (xor_u8 acc (mul x y))
      clear hx hy ht
      go_wp2
      go_quiet ((go_at_call 25; exact Calls.quiet_of_same (refMul_calls _ _ _)))
      go_wp2
      go_roundw
      case rel => exact ⟨t + 1, acc ^^^ mul x y, by omega, by go_num, by rw [Hx.out], ⟨by rw [← H.out, Hs.out, UInt8.xor_assoc]⟩, ⟨below_drewN Hb.out _⟩⟩
      case measure => simp [intOf]; omega
    · have Hr := Pk.mk (show acc = dot la lb by have := H.out; rwa [dot_end (by omega), UInt8.xor_zero] at this)
      by_cases h1 : t < la.length
      · have h2 : ¬ t < lb.length := by omega
        go_wp2
        go_ret
        exact ⟨ret_int (by rw [Hr.out]), Hb.out⟩
      · go_wp2
        go_ret
        exact ⟨ret_int (by rw [Hr.out]), Hb.out⟩

theorem axpy_length (a : List F) (c : F) (b : List F) : (axpy a c b).length = max a.length b.length := eachF_length _ _ _
/-- AddScaled, place by place. -/
theorem axpy_at (a : List F) (c : F) (b : List F) (t : Nat) (x y : F) (hx : x = a.getD t 0) (hy : y = if h : t < b.length then x ^^^ mul c b[t] else x) (h : t < (axpy a c b).length) : (axpy a c b)[t] = y := by
  subst hy hx
  have hp : t < (pad a b.length).length := by rw [axpy_length] at h; rw [pad_length]; exact h
  have hpv : (pad a b.length)[t] = a.getD t 0 := by
    simp only [pad]
    by_cases hta : t < a.length
    · rw [List.getElem_append_left hta]; simp [hta]
    · rw [List.getElem_append_right (by omega)]; simp [List.getElem?_eq_none (by omega : a.length ≤ t)]
  simp only [axpy, eachF]
  by_cases htb : t < b.length
  · rw [List.getElem_append_left (by simp [pad_length]; omega)]
    simp only [List.getElem_zipWith, htb, dite_true, hpv]
  · rw [List.getElem_append_right (by simp [pad_length]; omega)]
    simp only [htb, dite_false, List.getElem_drop]
    rw [← hpv]
    congr 1
    simp [pad_length]
    omega
set_option maxRecDepth 100000 in
set_option maxHeartbeats 2000000 in
theorem refAddScaled_calls (A : Option Addr) (ca : Nat) (la : List F) (c : F) (B : Option Addr) (cb : Nat) (lb : List F) (w : World)
    (ha : RB w A la) (hb : RB w B lb) (hca : la.length ≤ 140737488355000) (hcb : lb.length ≤ 140737488355000) :
    Calls Try.prog 29 #[.slice A la.length ca, .int .u8 (i c), .slice B lb.length cb] w fun e w' => Made w w' e (axpy la c lb) := by
  obtain ⟨i8, hi, hz0, hz1, hz2⟩ := info_parts info8
  have HA := Pk.mk ha
  have HB := Pk.mk hb
  have Hal := Pk.mk (axpy_length la c lb)
  have H0 := Pk.mk (show Below w.heap.size w (w.alloc (.cells #[] 5)) from below_alloc w _)
  have H1 := Pk.mk (show (w.alloc (.cells #[] 5)).ownsRow w.heap.size 5 1 (.slice (some ⟨w.heap.size, 0, none⟩) 0 0) 0 (bvs ((axpy la c lb).take 0)) from
    own_of_blk (xs := []) (ex := []) (Nat.le_refl _) (heap_alloc_new w _) (by decide))
  clear ha hb
  go_enter Try.func29, Try.ntmps29
  go_wp2
  go_loopw [7, 8] (fun v n wr => ∃ t : Nat, t ≤ max la.length lb.length ∧ n = .int .i64 (t : Int) ∧ Pk (wr.ownsRow w.heap.size 5 1 v t (bvs ((axpy la c lb).take t))) ∧ Pk (Below w.heap.size w wr)) (fun _ n _ => max la.length lb.length - (intOf n).toNat)
  case atStart => exact ⟨0, Nat.zero_le _, rfl, H1, H0⟩
  case round =>
    clear H0 H1
    obtain ⟨t, ht, rfl, HO, Hb⟩ := hrel
    by_cases hl : t < max la.length lb.length
    · have hta : t < (axpy la c lb).length := by rw [Hal.out]; exact hl
      by_cases hA : t < la.length
      · obtain ⟨a, rfl, hcA⟩ := RB.at (HA.out.mono Hb.out) hA
        obtain ⟨x, Hx⟩ : ∃ x, Pk (x = la.getD t 0) := ⟨_, ⟨rfl⟩⟩
        rw [show la[t] = x by rw [Hx.out]; simp [hA]] at hcA
        by_cases hB : t < lb.length
        · obtain ⟨b, rfl, hcB⟩ := RB.at (HB.out.mono Hb.out) hB
          obtain ⟨z, Hz⟩ : ∃ z, Pk (z = x ^^^ mul c lb[t]) := ⟨_, ⟨rfl⟩⟩
          have Hnext := Pk.mk (show (axpy la c lb).take (t + 1) = (axpy la c lb).take t ++ [z] by rw [List.take_succ_eq_append_getElem hta, axpy_at la c lb t x z Hx.out (by rw [dif_pos hB, Hz.out]) hta])
          generalize hy : lb[t] = y at hcB Hz
          have Hv := Pk.mk (show bits .xor .u8 (i x) (i (mul c y)) = i z by rw [Hz.out, xor_u8])
          clear hy ht hta
          go_wp2_with (first | (go_at_call 25; refine (refMul_calls _ _ _).mono ?_; rintro e w' ⟨rfl, rfl⟩) | ((with_reducible refine gate_b (b := .append) (xs := #[.tmp 43, .tmp 45]) rfl ?_); refine Pk.out ?_))
          refine ⟨?_⟩
          rw [Hv.out]
          refine wpList_append_src rfl (.tmp 43) (.tmp 45) 33 rfl w.heap.size 5 i8 (.int .u8 0) 1 Try.underlying33 hi hz0 hz1 hz2 rfl _ t (bvs ((axpy la c lb).take t)) rfl (HO.out.alloc _) (some ⟨_, 0, none⟩) 1 1 (bvs [z]) rfl rfl (RB.lit [z] _ rfl rfl) (bvs_one _) (by unfold maxLen; omega) (by omega) (Nat.le_trans Hb.out.size (by simp)) ?_
          intro v2 w2 hown hgr
          have HO2 := Pk.mk (show w2.ownsRow w.heap.size 5 1 v2 (t + 1) (bvs ((axpy la c lb).take (t + 1))) by rw [Hnext.out, bvs_append]; exact hown)
          have Hb2 := Pk.mk ((Hb.out.alloc Hb.out.size _).grown hgr (Nat.le_trans Hb.out.size (by simp)) (fun k hk => (HO.out.lt k hk).1))
          clear hown hgr HO Hb Hnext Hv
          go_wp2
          go_roundw
          case rel => exact ⟨t + 1, by omega, by go_num, HO2, Hb2⟩
          case measure => simp [intOf]; omega
        · obtain ⟨z, Hz⟩ : ∃ z, Pk (z = x) := ⟨_, ⟨rfl⟩⟩
          have Hnext := Pk.mk (show (axpy la c lb).take (t + 1) = (axpy la c lb).take t ++ [z] by rw [List.take_succ_eq_append_getElem hta, axpy_at la c lb t x z Hx.out (by rw [dif_neg hB, Hz.out]) hta])
          have Hv := Pk.mk (show i x = i z by rw [Hz.out])
          clear ht hta
          go_wp2_with (first | (go_at_call 25; refine (refMul_calls _ _ _).mono ?_; rintro e w' ⟨rfl, rfl⟩) | ((with_reducible refine gate_b (b := .append) (xs := #[.tmp 43, .tmp 45]) rfl ?_); refine Pk.out ?_))
          refine ⟨?_⟩
          rw [Hv.out]
          refine wpList_append_src rfl (.tmp 43) (.tmp 45) 33 rfl w.heap.size 5 i8 (.int .u8 0) 1 Try.underlying33 hi hz0 hz1 hz2 rfl _ t (bvs ((axpy la c lb).take t)) rfl (HO.out.alloc _) (some ⟨_, 0, none⟩) 1 1 (bvs [z]) rfl rfl (RB.lit [z] _ rfl rfl) (bvs_one _) (by unfold maxLen; omega) (by omega) (Nat.le_trans Hb.out.size (by simp)) ?_
          intro v2 w2 hown hgr
          have HO2 := Pk.mk (show w2.ownsRow w.heap.size 5 1 v2 (t + 1) (bvs ((axpy la c lb).take (t + 1))) by rw [Hnext.out, bvs_append]; exact hown)
          have Hb2 := Pk.mk ((Hb.out.alloc Hb.out.size _).grown hgr (Nat.le_trans Hb.out.size (by simp)) (fun k hk => (HO.out.lt k hk).1))
          clear hown hgr HO Hb Hnext Hv
          go_wp2
          go_roundw
          case rel => exact ⟨t + 1, by omega, by go_num, HO2, Hb2⟩
          case measure => simp [intOf]; omega
      · have hB : t < lb.length := by omega
        obtain ⟨b, rfl, hcB⟩ := RB.at (HB.out.mono Hb.out) hB
        obtain ⟨z, Hz⟩ : ∃ z, Pk (z = 0 ^^^ mul c lb[t]) := ⟨_, ⟨rfl⟩⟩
        have Hnext := Pk.mk (show (axpy la c lb).take (t + 1) = (axpy la c lb).take t ++ [z] by rw [List.take_succ_eq_append_getElem hta, axpy_at la c lb t 0 z (by simp [List.getElem?_eq_none (by omega : la.length ≤ t)]) (by rw [dif_pos hB, Hz.out]) hta])
        generalize hy : lb[t] = y at hcB Hz
        have Hv := Pk.mk (show bits .xor .u8 0 (i (mul c y)) = i z by rw [Hz.out]; exact xor_u8 0 _)
        clear hy ht hta
        go_wp2_with (first | (go_at_call 25; refine (refMul_calls _ _ _).mono ?_; rintro e w' ⟨rfl, rfl⟩) | ((with_reducible refine gate_b (b := .append) (xs := #[.tmp 43, .tmp 45]) rfl ?_); refine Pk.out ?_))
        refine ⟨?_⟩
        rw [Hv.out]
        refine wpList_append_src rfl (.tmp 43) (.tmp 45) 33 rfl w.heap.size 5 i8 (.int .u8 0) 1 Try.underlying33 hi hz0 hz1 hz2 rfl _ t (bvs ((axpy la c lb).take t)) rfl (HO.out.alloc _) (some ⟨_, 0, none⟩) 1 1 (bvs [z]) rfl rfl (RB.lit [z] _ rfl rfl) (bvs_one _) (by unfold maxLen; omega) (by omega) (Nat.le_trans Hb.out.size (by simp)) ?_
        intro v2 w2 hown hgr
        have HO2 := Pk.mk (show w2.ownsRow w.heap.size 5 1 v2 (t + 1) (bvs ((axpy la c lb).take (t + 1))) by rw [Hnext.out, bvs_append]; exact hown)
        have Hb2 := Pk.mk ((Hb.out.alloc Hb.out.size _).grown hgr (Nat.le_trans Hb.out.size (by simp)) (fun k hk => (HO.out.lt k hk).1))
        clear hown hgr HO Hb Hnext Hv
        go_wp2
        go_roundw
        case rel => exact ⟨t + 1, by omega, by go_num, HO2, Hb2⟩
        case measure => simp [intOf]; omega
    · have Hr := Pk.mk (show t = (axpy la c lb).length by rw [Hal.out]; omega)
      have h1 : ¬ t < la.length := by omega
      have h2 : ¬ t < lb.length := by omega
      go_wp2
      go_ret
      refine ⟨_, rfl, ?_, Hb.out⟩
      have h := HO.out
      rw [Hr.out, List.take_length] at h
      exact h
end Go.Proofs.Ytfanaaiakalccaa
