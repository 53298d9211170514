/- The document's product, bit by bit, is the field's product. Plain Lean. -/
import Derived.Test.YtfanaaiakalccaaGfNum
namespace Go.Proofs.Ytfanaaiakalccaa.Gf
open Go Go.RowKit
set_option linter.unusedSimpArgs false

/-- b's first j bits, moved up by s. -/
def inn (b j s : Nat) : Nat := (b % 2 ^ j) <<< s
theorem inn_zero (b s : Nat) : inn b 0 s = 0 := by simp [inn, Nat.mod_one]
theorem inn_all (b s : Nat) (h : b < 256) : inn b 8 s = b <<< s := by unfold inn; rw [Nat.mod_eq_of_lt h]
theorem inn_yes (b j s : Nat) (h : b.testBit j = true) : inn b (j + 1) s = inn b j s ^^^ 2 ^ (s + j) := by
  apply Nat.eq_of_testBit_eq
  intro k
  simp only [inn, Nat.testBit_xor, Nat.testBit_shiftLeft, Nat.testBit_mod_two_pow, Nat.testBit_two_pow]
  by_cases hk : s ≤ k
  · simp only [hk, decide_true, ge_iff_le, Bool.true_and]
    by_cases hj : k - s = j
    · have : s + j = k := by omega
      simp [hj, this, h]
    · have : ¬ s + j = k := by omega
      have e : decide (k - s < j + 1) = decide (k - s < j) := by rw [decide_eq_decide]; omega
      simp [e, this]
  · have : ¬ s + j = k := by omega
    simp [hk, this]
theorem inn_no (b j s : Nat) (h : b.testBit j = false) : inn b (j + 1) s = inn b j s := by
  apply Nat.eq_of_testBit_eq
  intro k
  simp only [inn, Nat.testBit_shiftLeft, Nat.testBit_mod_two_pow]
  by_cases hk : s ≤ k
  · by_cases hj : k - s = j
    · simp [hj, h]
    · have e : decide (k - s < j + 1) = decide (k - s < j) := by rw [decide_eq_decide]; omega
      simp [e]
  · simp [hk]
theorem inn_lt (b j s : Nat) (hj : j ≤ 8) (hs : s < 8) : inn b j s < 2 ^ 15 := by
  unfold inn
  rw [Nat.shiftLeft_eq]
  have h1 : b % 2 ^ j < 2 ^ j := Nat.mod_lt _ (Nat.two_pow_pos j)
  have h2 : 2 ^ j ≤ 2 ^ 8 := Nat.pow_le_pow_right (by decide) hj
  have h3 : 2 ^ s ≤ 2 ^ 7 := Nat.pow_le_pow_right (by decide) (by omega)
  have h4 : b % 2 ^ j * 2 ^ s ≤ 255 * 2 ^ 7 := Nat.mul_le_mul (by omega) h3
  omega
/-- The product without carries, of a's first n bits. -/
def clp (a b : Nat) : Nat → Nat
  | 0 => 0
  | n + 1 => clp a b n ^^^ (if a.testBit n then b <<< n else 0)
theorem clp_lt (a b : Nat) (hb : b < 256) : ∀ n, n ≤ 8 → clp a b n < 2 ^ 15
  | 0, _ => by simp [clp]
  | n + 1, h => by
    have := clp_lt a b hb n (by omega)
    refine Nat.xor_lt_two_pow this ?_
    split
    · rw [← inn_all b n hb]; exact inn_lt b 8 n (by decide) (by omega)
    · decide
/-- Less what can be divided by 285: bits 7 + m down to 8. -/
def redN : Nat → Nat → Nat
  | 0, p => p
  | m + 1, p => redN m (p ^^^ (if p.testBit (m + 8) then 285 <<< m else 0))
theorem sel_nat_xor (x y : Bool) (c : Nat) : (if (x ^^ y) then c else 0) = (if x then c else 0) ^^^ (if y then c else 0) := by
  cases x <;> cases y <;> simp
theorem nxor4 (a b c d : Nat) : a ^^^ b ^^^ (c ^^^ d) = a ^^^ c ^^^ (b ^^^ d) := by
  rw [Nat.xor_assoc, Nat.xor_assoc, ← Nat.xor_assoc b c d, Nat.xor_comm b c, Nat.xor_assoc c b d]
theorem redN_xor (m : Nat) : ∀ p q, redN m (p ^^^ q) = redN m p ^^^ redN m q := by
  induction m with
  | zero => intro p q; rfl
  | succ m ih =>
    intro p q
    simp only [redN, Nat.testBit_xor]
    rw [sel_nat_xor, nxor4, ih]
theorem redN_zero (m : Nat) : redN m 0 = 0 := by
  have := redN_xor m 0 0
  simpa using this
theorem red_shift : ∀ (n : Fin 8) (b : Fin 256), redN 7 (b.val <<< n.val) = (expB n.val (BitVec.ofNat 8 b.val)).toNat := by decide +kernel
theorem red_clp (a b : Nat) (hb : b < 256) : ∀ n, n ≤ 8 → redN 7 (clp a b n) = ((List.range n).foldl (fun (x : B) k => x ^^^ sel (a.testBit k) (expB k (BitVec.ofNat 8 b))) 0#8).toNat
  | 0, _ => by simp [clp, redN_zero]
  | n + 1, h => by
    have ih := red_clp a b hb n (by omega)
    simp only [clp, redN_xor, ih, List.range_succ, List.foldl_append, List.foldl_cons, List.foldl_nil, BitVec.toNat_xor]
    congr 1
    by_cases ht : a.testBit n
    · simp only [ht, if_true, sel]
      exact red_shift ⟨n, by omega⟩ ⟨b, hb⟩
    · simp [ht, sel, redN_zero]
theorem red_mul (a b : F) : redN 7 (clp a.toNat b.toNat 8) = (mul a b).toNat := by
  rw [red_clp _ _ b.toNat_lt 8 (Nat.le_refl _), mul_comm]
  have hb : BitVec.ofNat 8 b.toNat = b.toBitVec := by
    apply BitVec.eq_of_toNat_eq
    simp
  rw [hb]
  show _ = (mulB b.toBitVec a.toBitVec).toNat
  have e : ∀ j, a.toBitVec.getLsbD j = a.toNat.testBit j := fun j => rfl
  congr 1
  simp only [List.range, List.range.loop, List.foldl, expB, mulB, e, BitVec.zero_xor, BitVec.xor_assoc]
end Go.Proofs.Ytfanaaiakalccaa.Gf
