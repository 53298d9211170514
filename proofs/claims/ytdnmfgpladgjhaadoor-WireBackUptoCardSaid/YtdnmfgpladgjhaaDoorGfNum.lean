/- Bytes as the program's whole numbers: doubling, exclusive or, powers and logarithms over numbers. No program's text in sight. -/
import Derived.Test.YtdnmfgpladgjhaaDoorGf
import Derived.Laws.BitsLemmas
import Derived.RowKit
import Derived.IntWalk
import Derived.WalkArith
import Derived.OpenShut
namespace Go.Proofs.YtdnmfgpladgjhaaDoor.Gf
open Go Go.RowKit
set_option linter.unusedSimpArgs false

/-- A fact laid aside: no tactic looks into it. -/
structure Pk (p : Prop) : Prop where mk :: (out : p)

/-- A byte as a number. -/
def i (a : F) : Int := (a.toNat : Int)
theorem i_nonneg (a : F) : 0 ≤ i a := Int.natCast_nonneg _
theorem i_lt (a : F) : i a < 256 := by unfold i; have := a.toNat_lt; omega
theorem i_inj {a b : F} (h : i a = i b) : a = b := by unfold i at h; exact UInt8.toNat_inj.1 (by omega)
theorem i_iff {a b : F} : i a = i b ↔ a = b := ⟨i_inj, fun h => by rw [h]⟩
theorem i_zero : i 0 = 0 := rfl
theorem i_one : i 1 = 1 := rfl
theorem i_eq_zero {a : F} : i a = 0 ↔ a = 0 := by rw [← i_zero]; exact i_iff
theorem i_eq_one {a : F} : i a = 1 ↔ a = 1 := by rw [← i_one]; exact i_iff
/-- A number of a byte's range as a byte. -/
def b8 (x : Int) : F := UInt8.ofNat x.toNat
theorem i_b8 {x : Int} (h0 : 0 ≤ x) (h1 : x < 256) : i (b8 x) = x := by
  unfold i b8
  rw [UInt8.toNat_ofNat']
  omega
theorem wf_u8 {x : Int} (h : (Lit.int .u8 x).wf = true) : ∃ a : F, x = i a := by
  have h' := bounds_u8 h
  exact ⟨b8 x, (i_b8 h'.1 (by omega)).symm⟩
theorem b8_i (a : F) : b8 (i a) = a := i_inj (i_b8 (i_nonneg a) (i_lt a))
theorem i_wrap64 (a : F) : wrap64 (i a) = i a := by have := i_nonneg a; have := i_lt a; unfold wrap64; omega
theorem i_mod (a : F) : i a % 256 = i a := by have := i_nonneg a; have := i_lt a; omega
theorem i_wf (a : F) : (Lit.int .u8 (i a)).wf = true := by
  have h0 := i_nonneg a; have h1 := i_lt a
  exact WalkArith.wf_u8 (by omega)

theorem xor_nat (k : IntKind) (j : Nat) (hj : j ≤ k.bits) (hk : ∀ n : Int, 0 ≤ n → n < 2 ^ j → k.wrap n = n) (a b : Nat) (ha : a < 2 ^ j) (hb : b < 2 ^ j) :
    bits .xor k a b = ((a ^^^ b : Nat) : Int) := by
  have hp : 2 ^ j ≤ 2 ^ k.bits := Nat.pow_le_pow_right (by decide) hj
  have ha' : a % 2 ^ k.bits = a := Nat.mod_eq_of_lt (Nat.lt_of_lt_of_le ha hp)
  have hb' : b % 2 ^ k.bits = b := Nat.mod_eq_of_lt (Nat.lt_of_lt_of_le hb hp)
  simp only [bits, BitVec.ofInt_natCast, BitVec.toNat_xor, BitVec.toNat_ofNat, ha', hb']
  exact hk _ (Int.natCast_nonneg _) (by have := Nat.xor_lt_two_pow ha hb; exact_mod_cast this)
theorem wraps_i64 (n : Int) (h0 : 0 ≤ n) (h1 : n < 2 ^ 63) : IntKind.i64.wrap n = n := by rw [IntKind.wrap_i64]; omega
theorem xor_u8 (a b : F) : bits .xor .u8 (i a) (i b) = i (a ^^^ b) := by
  unfold i
  rw [xor_nat .u8 8 (by decide) wraps_u8 _ _ a.toNat_lt b.toNat_lt, UInt8.toNat_xor]
theorem xor_i64n (a b : Nat) (ha : a < 2 ^ 63) (hb : b < 2 ^ 63) : bits .xor .i64 a b = ((a ^^^ b : Nat) : Int) :=
  xor_nat .i64 63 (by decide) wraps_i64 a b ha hb
theorem xor_i64 (a b : F) : bits .xor .i64 (i a) (i b) = i (a ^^^ b) := by
  unfold i
  have ha := a.toNat_lt; have hb := b.toNat_lt
  rw [xor_i64n _ _ (by omega) (by omega), UInt8.toNat_xor]
theorem and1 (x : Int) (h0 : 0 ≤ x) (h1 : x < 2 ^ 63) : bits .and .i64 x 1 = x % 2 := by
  have := bits_mask .i64 63 (by decide) wraps_i64 1 (by decide) x h0 h1
  simpa using this

/-! ### multiplication, round by round -/
/-- Twice a byte. -/
def dbl (a : F) : F := ⟨xt a.toBitVec⟩
/-- The number's low n bits told off, one by one. -/
def mulR : Nat → F → Nat → F
  | 0, _, _ => 0
  | n + 1, x, y => (if y % 2 = 1 then x else 0) ^^^ mulR n (dbl x) (y / 2)
theorem sel_bit (x : F) (y : Nat) : (if y % 2 = 1 then x else 0) = ⟨sel (y.testBit 0) x.toBitVec⟩ := by
  rw [Nat.testBit_zero]
  by_cases h : y % 2 = 1 <;> simp [h, sel] <;> rfl
theorem mulR_mul (a b : F) : mulR 8 a b.toNat = mul a b := by
  apply fext
  have e : ∀ j, b.toBitVec.getLsbD j = b.toNat.testBit j := fun j => rfl
  simp only [mulR, sel_bit, UInt8.toBitVec_xor, toBitVec_mul, mulB, e, Nat.testBit_succ, dbl]
  show _ ^^^ (_ ^^^ (_ ^^^ (_ ^^^ (_ ^^^ (_ ^^^ (_ ^^^ (_ ^^^ 0#8))))))) = _
  rw [BitVec.xor_zero]

theorem mulR_zero (m : Nat) : ∀ (x : F), mulR m x 0 = 0 := by
  induction m with
  | zero => intro x; rfl
  | succ m ih => intro x; show (if 0 % 2 = 1 then x else 0) ^^^ mulR m (dbl x) (0 / 2) = 0; rw [Nat.zero_div, ih]; simp

/-- Doubling over numbers. -/
theorem dbl_num : ∀ a : Fin 256, (if wrap64 ((a.val : Int) * 2) > 255 then bits .xor .i64 (wrap64 ((a.val : Int) * 2)) 285 else wrap64 ((a.val : Int) * 2)) = (((dbl (UInt8.ofNat a.val)).toNat : Nat) : Int) := by decide +kernel
theorem dbl_i (a : F) : (if wrap64 (i a * 2) > 255 then bits .xor .i64 (wrap64 (i a * 2)) 285 else wrap64 (i a * 2)) = i (dbl a) := by
  have := dbl_num ⟨a.toNat, a.toNat_lt⟩
  simp only [UInt8.ofNat_toNat] at this
  exact this
theorem dbl_mul : ∀ a : F, dbl a = mul a 2 := by
  intro a
  apply fext
  show xt a.toBitVec = mulB a.toBitVec 2#8
  generalize a.toBitVec = x
  revert x; decide +kernel

/-! ### powers with whole exponents; logarithms -/
/-- A power, as the chapter tells it. -/
def powZ (a : F) (n : Int) : F := if n = 0 then 1 else if a = 0 then 0 else pow a (n % 255).toNat
theorem powZ_ne {a : F} (h : a ≠ 0) (n : Int) : powZ a n = pow a (n % 255).toNat := by
  unfold powZ
  by_cases hn : n = 0
  · subst hn; rfl
  · rw [if_neg hn, if_neg h]
theorem powZ_add {a : F} (h : a ≠ 0) (m n : Int) : mul (powZ a m) (powZ a n) = powZ a (m + n) := by
  rw [powZ_ne h, powZ_ne h, powZ_ne h, ← pow_add, ← pow_mod h]
  congr 1
  have h1 : 0 ≤ m % 255 := Int.emod_nonneg _ (by decide)
  have h2 : 0 ≤ n % 255 := Int.emod_nonneg _ (by decide)
  omega
theorem powZ_neg {a : F} (h : a ≠ 0) (n : Int) : mul (powZ a n) (powZ a (-n)) = 1 := by
  rw [powZ_add h, Int.add_right_neg]; rfl
theorem powZ_zero (a : F) : powZ a 0 = 1 := rfl
theorem powZ_one (a : F) : powZ a 1 = a := by
  by_cases h : a = 0
  · subst h; rfl
  · rw [powZ_ne h]; exact pow_one a

def lgB : Nat → B → B → Nat → Option Nat
  | 0, _, _, _ => none
  | f + 1, a, x, n => if x = a then some n else lgB f a (xt x) (n + 1)
def expB : Nat → B → B
  | 0, x => x
  | n + 1, x => expB n (xt x)
theorem lg_all : ∀ a : B, lgB 255 a 1#8 0 = none ∧ a = 0#8 ∨ a ≠ 0#8 ∧ ((lgB 255 a 1#8 0).map fun n => decide (n < 255) && expB n 1#8 == a) = some true := by decide +kernel
theorem lg_exp : ∀ n : Fin 255, lgB 255 (expB n.val 1#8) 1#8 0 = some n.val := by decide +kernel
theorem exp_pow (n : Nat) : ∀ x : F, (⟨expB n x.toBitVec⟩ : F) = mul x (pow 2 n) := by
  induction n with
  | zero => intro x; show x = mul x 1; rw [mul_one]
  | succ n ih =>
    intro x
    show (⟨expB n (xt x.toBitVec)⟩ : F) = mul x (mul (pow 2 n) 2)
    have := ih (dbl x)
    rw [show xt x.toBitVec = (dbl x).toBitVec from rfl, this, dbl_mul, mul_assoc, mul_comm 2]
/-- The logarithm by 2. -/
def lg (a : F) : Option Nat := lgB 255 a.toBitVec 1#8 0
theorem lg_zero : lg 0 = none := by decide +kernel
theorem lg_some {a : F} (h : a ≠ 0) : ∃ n, lg a = some n ∧ n < 255 ∧ pow 2 n = a := by
  rcases lg_all a.toBitVec with ⟨_, h'⟩ | ⟨_, h'⟩
  · exact absurd (fext h') h
  · unfold lg
    cases hl : lgB 255 a.toBitVec 1#8 0 with
    | none => rw [hl] at h'; cases h'
    | some n =>
      rw [hl] at h'
      simp at h'
      refine ⟨n, rfl, h'.1, ?_⟩
      have := exp_pow n 1
      rw [one_mul] at this
      rw [← this]
      exact fext h'.2
theorem lg_pow {n : Nat} (h : n < 255) : lg (pow 2 n) = some n := by
  have := exp_pow n 1
  rw [one_mul] at this
  rw [← this]
  exact lg_exp ⟨n, h⟩
theorem two_ne : (2 : F) ≠ 0 := by decide
theorem pow_ne {a : F} (h : a ≠ 0) (n : Nat) : pow a n ≠ 0 := by
  induction n with
  | zero => exact one_ne_zero
  | succ n ih => exact mul_ne_zero ih h
theorem lg_mul {a b : F} {m n : Nat} (ha : a ≠ 0) (hb : b ≠ 0) (hm : lg a = some m) (hn : lg b = some n) : lg (mul a b) = some ((m + n) % 255) := by
  obtain ⟨m', h1, h2, h3⟩ := lg_some ha
  obtain ⟨n', k1, k2, k3⟩ := lg_some hb
  rw [hm] at h1; rw [hn] at k1
  cases h1; cases k1
  rw [← h3, ← k3, ← pow_add, ← pow_mod two_ne]
  exact lg_pow (Nat.mod_lt _ (by decide))
theorem lg_inj {a b : F} {m : Nat} (ha : a ≠ 0) (hb : b ≠ 0) (h : lg a = some m) (h' : lg b = some m) : a = b := by
  obtain ⟨m', h1, _, h3⟩ := lg_some ha
  obtain ⟨n', k1, _, k3⟩ := lg_some hb
  rw [h] at h1; rw [h'] at k1
  cases h1; cases k1
  rw [← h3, ← k3]
end Go.Proofs.YtdnmfgpladgjhaaDoor.Gf
