/- The field's Go functions on single elements: what each call answers (contracts by walking). -/
import Derived.Test.YtfanaaiakalccaaProg
import Derived.Test.YtfanaaiakalccaaMem
import Derived.WalkKit
import Derived.LoopTactic
namespace Go.Proofs.Ytfanaaiakalccaa
open Go Go.RowKit Go.Proofs.Ytfanaaiakalccaa.Gf
set_option linter.unusedSimpArgs false
set_option linter.unusedVariables false

/-- Is it another one than 0? -/
def nz (a : F) : Bool := decide (a ≠ 0)

theorem double_calls (a : F) (w : World) :
    Calls Try.prog 32 #[.int .i64 (i a)] w fun e w' => e = .returned (.int .i64 (i (dbl a))) ∧ w' = w := by
  have H := Pk.mk (dbl_i a)
  by_cases h : wrap64 (i a * 2) > 255
  · have h' : decide (255 < wrap64 (i a * 2)) = true := decide_eq_true h
    have H1 : i (dbl a) = bits .xor .i64 (wrap64 (i a * 2)) 285 := by rw [← H.out, if_pos h]
    have H2 := Pk.mk H1
    clear h H H1
    go_enter Try.func32, Try.ntmps32
    go_wp2
    go_ret
    exact ⟨ret_int H2.out.symm, rfl⟩
  · have h' : decide (255 < wrap64 (i a * 2)) = false := decide_eq_false h
    have H1 : i (dbl a) = wrap64 (i a * 2) := by rw [← H.out, if_neg h]
    have H2 := Pk.mk H1
    clear h H H1
    go_enter Try.func32, Try.ntmps32
    go_wp2
    go_ret
    exact ⟨ret_int H2.out.symm, rfl⟩

theorem mul_calls (a b : F) (w : World) :
    Calls Try.prog 12 #[.int .u8 (i a), .int .u8 (i b)] w fun e w' => e = .returned (.int .u8 (i (mul a b))) ∧ w' = w := by
  have ha := i_nonneg a
  have ha' := i_lt a
  have hb := i_nonneg b
  have hb' := i_lt b
  go_enter Try.func12, Try.ntmps12
  go_wp2
  go_loop [5, 6, 7] (fun o x y => ∃ (n yy : Nat) (acc xx : F), yy < 2 ^ n ∧ n ≤ 8 ∧ o = .int .i64 (i acc) ∧ x = .int .i64 (i xx) ∧ y = .int .i64 (yy : Int) ∧ Pk (acc ^^^ mulR n xx yy = mul a b)) (fun _ _ y => (intOf y).toNat)
  case atStart =>
    exact ⟨8, b.toNat, 0, a, b.toNat_lt, Nat.le_refl _, by simp [i], rfl, by simp [i], ⟨by rw [mulR_mul]; exact UInt8.zero_xor⟩⟩
  case round =>
    obtain ⟨n, yy, acc, xx, hy, hn, rfl, rfl, rfl, H⟩ := hrel
    have hlt : yy < 2 ^ 8 := Nat.lt_of_lt_of_le hy (Nat.pow_le_pow_right (by decide) hn)
    by_cases h0 : 0 < yy
    · have h0' : decide ((0 : Int) < (yy : Int)) = true := by simp; omega
      obtain ⟨n, rfl⟩ : ∃ m, n = m + 1 := ⟨n - 1, by cases n with | zero => simp at hy; omega | succ n => rfl⟩
      have hy2 : yy / 2 < 2 ^ n := by rw [Nat.pow_succ] at hy; omega
      have Hd := Pk.mk (show (yy : Int) / 2 = ((yy / 2 : Nat) : Int) by omega)
      have Hs := Pk.mk (show mulR (n + 1) xx yy = (if yy % 2 = 1 then xx else 0) ^^^ mulR n (dbl xx) (yy / 2) from rfl)
      by_cases h1 : yy % 2 = 1
      · have h1' : (bits .and .i64 (yy : Int) 1 == 1) = true := by
          rw [and1 _ (by omega) (by omega)]; simp; omega
        have Hx := Pk.mk (xor_i64 acc xx)
        have H1 := Pk.mk h1
        clear hy hlt h1
        go_wp2_with (go_at_call 32; refine (double_calls _ _).mono ?_; rintro e w' ⟨rfl, rfl⟩)
        refine ⟨⟨n, yy / 2, acc ^^^ xx, dbl xx, hy2, by omega, by rw [Hx.out], rfl, by rw [Hd.out], ?_⟩, by simp [intOf]; omega⟩
        have e := H.out
        rw [Hs.out, if_pos H1.out, ← UInt8.xor_assoc] at e
        exact ⟨e⟩
      · have h1' : (bits .and .i64 (yy : Int) 1 == 1) = false := by
          rw [and1 _ (by omega) (by omega)]; simp; omega
        have H1 := Pk.mk h1
        clear hy hlt h1
        go_wp2_with (go_at_call 32; refine (double_calls _ _).mono ?_; rintro e w' ⟨rfl, rfl⟩)
        refine ⟨⟨n, yy / 2, acc, dbl xx, hy2, by omega, rfl, rfl, by rw [Hd.out], ?_⟩, by simp [intOf]; omega⟩
        have e := H.out
        rw [Hs.out, if_neg H1.out, UInt8.zero_xor] at e
        exact ⟨e⟩
    · have h0' : decide ((0 : Int) < (yy : Int)) = false := by simp; omega
      have hz : yy = 0 := by omega
      subst hz
      have Hr := Pk.mk (show i acc % 256 = i (mul a b) by have := H.out; rw [mulR_zero, UInt8.xor_zero] at this; rw [this, i_mod])
      clear hy hlt h0
      go_wp2
      go_ret
      exact ⟨ret_int Hr.out, rfl⟩

theorem tmod_255 (n : Int) : Int.tmod n 255 = if 0 ≤ n then n % 255 else if n % 255 = 0 then 0 else n % 255 - 255 := by
  by_cases h : 0 ≤ n
  · rw [if_pos h, Int.tmod_eq_emod_of_nonneg h]
  · rw [if_neg h, Int.tmod_eq_emod]
    split <;> split <;> omega
theorem tmod_bd (n : Int) : -255 < Int.tmod n 255 ∧ Int.tmod n 255 < 255 := by
  have h1 : 0 ≤ n % 255 := Int.emod_nonneg _ (by decide)
  have h2 : n % 255 < 255 := Int.emod_lt_of_pos _ (by decide)
  rw [tmod_255]
  split
  · omega
  · split <;> omega
theorem tmod_neg (n : Int) (h : Int.tmod n 255 < 0) : Int.tmod n 255 + 255 = (((n % 255).toNat : Nat) : Int) ∧ (n % 255).toNat < 255 := by
  have h1 : 0 ≤ n % 255 := Int.emod_nonneg _ (by decide)
  have h2 : n % 255 < 255 := Int.emod_lt_of_pos _ (by decide)
  rw [tmod_255] at h ⊢
  split at h
  · omega
  · split at h <;> omega
theorem tmod_pos (n : Int) (h : ¬ Int.tmod n 255 < 0) : Int.tmod n 255 = (((n % 255).toNat : Nat) : Int) ∧ (n % 255).toNat < 255 := by
  have h1 : 0 ≤ n % 255 := Int.emod_nonneg _ (by decide)
  have h2 : n % 255 < 255 := Int.emod_lt_of_pos _ (by decide)
  rw [tmod_255] at h ⊢
  split at h
  · rw [if_pos ‹_›]; omega
  · rw [if_neg ‹_›]; split at h <;> omega
theorem pow_sq (a : F) (m : Nat) : pow (mul a a) m = pow a (2 * m) := by rw [pow_mul]; congr 1; show _ = mul (mul 1 a) a; rw [one_mul]

theorem pow_calls (a : F) (n : Int) (w : World) :
    Calls Try.prog 16 #[.int .u8 (i a), .int .i64 n] w fun e w' => e = .returned (.int .u8 (i (powZ a n))) ∧ w' = w := by
  by_cases h0 : n = 0
  · have Hr := Pk.mk (show 1 = i (powZ a n) by rw [h0]; rfl)
    subst h0
    go_enter Try.func16, Try.ntmps16
    go_wp2
    go_ret
    exact ⟨ret_int Hr.out, rfl⟩
  · have h0' : (n == 0) = false := by simpa using h0
    by_cases ha : a = 0
    · have Hr := Pk.mk (show 0 = i (powZ a n) by rw [ha]; unfold powZ; rw [if_neg h0, if_pos rfl]; rfl)
      have ha' : (i a == 0) = true := by rw [ha]; rfl
      clear h0 ha
      go_enter Try.func16, Try.ntmps16
      go_wp2
      go_ret
      exact ⟨ret_int Hr.out, rfl⟩
    · have ha' : (i a == 0) = false := by simp only [beq_eq_false_iff_ne]; exact fun h => ha (i_eq_zero.1 h)
      have Hp := Pk.mk (powZ_ne ha n)
      by_cases hn : Int.tmod n 255 < 0
      all_goals
        obtain ⟨m, Hm, Hs⟩ : ∃ m : Nat, Pk (m = (n % 255).toNat) ∧ Pk (m < 255) := ⟨_, Pk.mk rfl, Pk.mk (by first | exact (tmod_neg n hn).2 | exact (tmod_pos n hn).2)⟩
        have He : Pk (Int.tmod n 255 = (m : Int) ∨ Int.tmod n 255 + 255 = (m : Int)) := Pk.mk (by rw [Hm.out]; first | exact Or.inr (tmod_neg n hn).1 | exact Or.inl (tmod_pos n hn).1)
        first | (have hn' : decide (Int.tmod n 255 < 0) = true := decide_eq_true hn) | (have hn' : decide (Int.tmod n 255 < 0) = false := decide_eq_false hn)
        obtain ⟨hb1, hb2⟩ := tmod_bd n
        have Hn := Pk.mk hn
        clear h0 ha hn
        go_enter Try.func16, Try.ntmps16
        go_wp2
        go_loop [0, 1, 5] (fun x y o => ∃ (yy : Nat) (xx out : F), x = .int .u8 (i xx) ∧ y = .int .i64 (yy : Int) ∧ o = .int .u8 (i out) ∧ yy < 256 ∧ Pk (mul out (pow xx yy) = pow a m)) (fun _ y _ => (intOf y).toNat)
        case atStart =>
          refine ⟨m, a, 1, rfl, ?_, rfl, by have := Hs.out; omega, ⟨one_mul _⟩⟩
          have h1 := He.out
          have h3 := Hs.out
          have h2 := Hn.out
          congr 1
          omega
        case round =>
          obtain ⟨yy, xx, out, rfl, rfl, rfl, hy, H⟩ := hrel
          by_cases hz : 0 < yy
          · have hz' : decide ((0 : Int) < (yy : Int)) = true := by simp; omega
            have Hd := Pk.mk (show (yy : Int) / 2 = ((yy / 2 : Nat) : Int) by omega)
            by_cases h1 : yy % 2 = 1
            · have h1' : (bits .and .i64 (yy : Int) 1 == 1) = true := by
                rw [and1 _ (by omega) (by omega)]; simp; omega
              have H1 := Pk.mk h1
              clear h1
              go_wp2_with (go_at_call 12; refine (mul_calls _ _ _).mono ?_; rintro e w' ⟨rfl, rfl⟩)
              refine ⟨⟨yy / 2, mul xx xx, mul out xx, rfl, by rw [Hd.out], rfl, by omega, ?_⟩, by simp [intOf]; omega⟩
              show Pk _
              refine Pk.mk ?_
              rw [pow_sq, mul_assoc, mul_comm xx]
              have e := H.out
              have h1 := H1.out
              rw [show yy = 2 * (yy / 2) + 1 by omega] at e
              exact e
            · have h1' : (bits .and .i64 (yy : Int) 1 == 1) = false := by
                rw [and1 _ (by omega) (by omega)]; simp; omega
              have H1 := Pk.mk h1
              clear h1
              go_wp2_with (go_at_call 12; refine (mul_calls _ _ _).mono ?_; rintro e w' ⟨rfl, rfl⟩)
              refine ⟨⟨yy / 2, mul xx xx, out, rfl, by rw [Hd.out], rfl, by omega, ?_⟩, by simp [intOf]; omega⟩
              refine Pk.mk ?_
              rw [pow_sq]
              have e := H.out
              have h1 := H1.out
              rw [show yy = 2 * (yy / 2) by omega] at e
              exact e
          · obtain rfl : yy = 0 := by omega
            have Hr := Pk.mk (show i out = i (powZ a n) by
              rw [Hp.out, ← Hm.out, ← H.out]
              show _ = i (mul out 1)
              rw [mul_one])
            clear hz
            go_wp2
            go_ret
            exact ⟨ret_int Hr.out, rfl⟩

theorem inv_calls (a : F) (w : World) :
    Calls Try.prog 13 #[.int .u8 (i a)] w fun e w' => e = .returned (.tuple #[.int .u8 (i (inv a)), .bool (nz a)]) ∧ w' = w := by
  by_cases ha : a = 0
  · subst ha
    have h : (i 0 == 0) = true := rfl
    have Hi := Pk.mk (show i (inv 0) = 0 by rw [inv_zero]; rfl)
    go_enter Try.func13, Try.ntmps13
    go_wp2
    go_ret2
    exact ⟨ret_ib Hi.out.symm rfl, rfl⟩
  · have ha' : (i a == 0) = false := by simp only [beq_eq_false_iff_ne]; exact fun h => ha (i_eq_zero.1 h)
    have Hi := Pk.mk (show powZ a 254 = inv a by rw [powZ_ne ha]; exact pow_254 a)
    have Hd := Pk.mk (show nz a = true from decide_eq_true ha)
    clear ha
    go_enter Try.func13, Try.ntmps13
    go_wp2_with (go_at_call 16; refine (pow_calls _ _ _).mono ?_; rintro e w' ⟨rfl, rfl⟩)
    go_ret2
    exact ⟨ret_ib (by rw [← Hi.out]) Hd.out.symm, rfl⟩

theorem div_calls (a b : F) (w : World) :
    Calls Try.prog 14 #[.int .u8 (i a), .int .u8 (i b)] w fun e w' => e = .returned (.tuple #[.int .u8 (i (mul a (inv b))), .bool (nz b)]) ∧ w' = w := by
  go_enter Try.func14, Try.ntmps14
  go_wp2_with (first | (go_at_call 13; refine (inv_calls _ _).mono ?_; rintro e w' ⟨rfl, rfl⟩) | (go_at_call 12; refine (mul_calls _ _ _).mono ?_; rintro e w' ⟨rfl, rfl⟩))
  go_ret2
  exact ⟨rfl, rfl⟩

theorem add_calls (a b : F) (w : World) :
    Calls Try.prog 11 #[.int .u8 (i a), .int .u8 (i b)] w fun e w' => e = .returned (.int .u8 (i (a ^^^ b))) ∧ w' = w := by
  have Hx := Pk.mk (xor_u8 a b)
  go_enter Try.func11, Try.ntmps11
  go_wp2
  go_ret
  exact ⟨ret_int Hx.out, rfl⟩

/-- What Log answers. -/
def lgV (a : F) : Int × Bool := match lg a with | some n => ((n : Int), true) | none => (0, false)
attribute [irreducible] lgV
set_option maxRecDepth 100000 in
theorem log_calls (a : F) (w : World) :
    Calls Try.prog 15 #[.int .u8 (i a)] w fun e w' => e = .returned (.tuple #[.int .i64 (lgV a).1, .bool (lgV a).2]) ∧ w' = w := by
  have Ha := Pk.mk (i_wrap64 a)
  have ha0 := i_nonneg a
  have ha1 := i_lt a
  go_enter Try.func15, Try.ntmps15
  go_wp2
  go_loop [4, 6] (fun x n => ∃ (k : Nat) (xx : F), k ≤ 255 ∧ x = .int .i64 (i xx) ∧ n = .int .i64 (k : Int) ∧ Pk (lg a = lgB (255 - k) a.toBitVec xx.toBitVec k)) (fun _ n => 255 - (intOf n).toNat)
  case atStart => exact ⟨0, 1, by omega, rfl, rfl, Pk.mk rfl⟩
  case round =>
    obtain ⟨k, xx, hk, rfl, rfl, H⟩ := hrel
    by_cases hlt : k < 255
    · by_cases he : xx = a
      · subst he
        have he' : (i xx == i xx) = true := by simp
        have Hr := Pk.mk (show lgV xx = ((k : Int), true) by
          unfold lgV
          rw [H.out, show 255 - k = (254 - k) + 1 by omega]
          simp [lgB])
        go_wp2
        go_ret2
        exact ⟨ret_ib (by rw [Hr.out]) (by rw [Hr.out]), rfl⟩
      · have he' : (i xx == i a) = false := by simp only [beq_eq_false_iff_ne]; exact fun h => he (i_inj h)
        have Hr := Pk.mk (show lg a = lgB (255 - (k + 1)) a.toBitVec (dbl xx).toBitVec (k + 1) by
          rw [H.out, show 255 - k = (254 - k) + 1 by omega]
          simp only [lgB]
          rw [if_neg (fun h => he (fext h)), show 255 - (k + 1) = 254 - k by omega]
          rfl)
        clear he
        go_wp2_with (go_at_call 32; refine (double_calls _ _).mono ?_; rintro e w' ⟨rfl, rfl⟩)
        exact ⟨⟨k + 1, dbl xx, by omega, rfl, by go_num, Hr⟩, by simp [intOf]; omega⟩
    · have Hr := Pk.mk (show lgV a = (0, false) by
        unfold lgV
        rw [H.out, show 255 - k = 0 by omega]
        rfl)
      go_wp2
      go_ret2
      exact ⟨ret_ib (by rw [Hr.out]) (by rw [Hr.out]), rfl⟩
end Go.Proofs.Ytfanaaiakalccaa
