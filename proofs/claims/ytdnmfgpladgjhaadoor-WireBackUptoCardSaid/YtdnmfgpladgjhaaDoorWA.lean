/- Numbers as bytes, and sums of bytes: plain Lean. -/
import Derived.Test.YtdnmfgpladgjhaaDoorGfNum
namespace Go.Proofs.YtdnmfgpladgjhaaDoor
open Go Go.RowKit Go.Proofs.YtdnmfgpladgjhaaDoor.Gf
set_option linter.unusedVariables false
set_option linter.unusedSimpArgs false

/-- A number's bytes. -/
def numB (n : Nat) : List F := if n < 128 then [UInt8.ofNat n] else UInt8.ofNat (n % 128 + 128) :: numB (n / 128)
termination_by n
decreasing_by omega
theorem numB_lt {n : Nat} (h : n < 128) : numB n = [UInt8.ofNat n] := by rw [numB, if_pos h]
theorem numB_ge {n : Nat} (h : ¬ n < 128) : numB n = UInt8.ofNat (n % 128 + 128) :: numB (n / 128) := by rw [numB, if_neg h]
theorem toNat_ofNat_lt {n : Nat} (h : n < 256) : (UInt8.ofNat n : F).toNat = n := by rw [UInt8.toNat_ofNat']; omega
theorem numB_pos (n : Nat) : 1 ≤ (numB n).length := by
  rw [numB]; split <;> simp
theorem numB_len (k : Nat) : ∀ n : Nat, n < 128 ^ (k + 1) → (numB n).length ≤ k + 1 := by
  induction k with
  | zero => intro n h; rw [numB_lt (by simpa using h)]; simp
  | succ k ih =>
    intro n h
    by_cases hn : n < 128
    · rw [numB_lt hn]; simp
    · rw [numB_ge hn, List.length_cons]
      have := ih (n / 128) (Nat.div_lt_of_lt_mul (by rw [Nat.mul_comm]; rw [Nat.pow_succ] at h; exact h))
      omega
theorem numB_len9 {n : Nat} (h : n < 9223372036854775808) : (numB n).length ≤ 9 := numB_len 8 n (by omega)
theorem numB_mono : ∀ (b a : Nat), a ≤ b → (numB a).length ≤ (numB b).length := by
  intro b
  induction b using Nat.strongRecOn with
  | _ b ih =>
    intro a h
    by_cases ha : a < 128
    · rw [numB_lt ha]; exact numB_pos b
    · have hb : ¬ b < 128 := by omega
      rw [numB_ge ha, numB_ge hb, List.length_cons, List.length_cons]
      have := ih (b / 128) (by omega) (a / 128) (Nat.div_le_div_right h)
      omega
/-- None is the beginning of another. -/
theorem numB_inj : ∀ (a b : Nat) (s t : List F), numB a ++ s = numB b ++ t → a = b ∧ s = t := by
  intro a
  induction a using Nat.strongRecOn with
  | _ a ih =>
    intro b s t h
    by_cases ha : a < 128
    · by_cases hb : b < 128
      · rw [numB_lt ha, numB_lt hb] at h
        simp only [List.cons_append, List.nil_append, List.cons.injEq] at h
        have := congrArg UInt8.toNat h.1
        rw [toNat_ofNat_lt (by omega), toNat_ofNat_lt (by omega)] at this
        exact ⟨this, h.2⟩
      · rw [numB_lt ha, numB_ge hb] at h
        simp only [List.cons_append, List.nil_append, List.cons.injEq] at h
        have := congrArg UInt8.toNat h.1
        rw [toNat_ofNat_lt (by omega), toNat_ofNat_lt (by omega)] at this
        omega
    · by_cases hb : b < 128
      · rw [numB_ge ha, numB_lt hb] at h
        simp only [List.cons_append, List.nil_append, List.cons.injEq] at h
        have := congrArg UInt8.toNat h.1
        rw [toNat_ofNat_lt (by omega), toNat_ofNat_lt (by omega)] at this
        omega
      · rw [numB_ge ha, numB_ge hb] at h
        simp only [List.cons_append, List.cons.injEq] at h
        have h1 := congrArg UInt8.toNat h.1
        rw [toNat_ofNat_lt (by omega), toNat_ofNat_lt (by omega)] at h1
        obtain ⟨h2, h3⟩ := ih (a / 128) (by omega) (b / 128) s t h.2
        exact ⟨by omega, h3⟩
theorem numB_take {a b : Nat} (h : a ≠ b) (n : Nat) (hn : n = min (numB a).length (numB b).length) : (numB a).take n ≠ (numB b).take n := by
  intro e
  rcases Nat.le_total (numB a).length (numB b).length with hl | hl
  · rw [hn, Nat.min_eq_left hl, List.take_length] at e
    have key : numB a ++ (numB b).drop (numB a).length = numB b ++ [] := by
      have h2 := List.take_append_drop (numB a).length (numB b)
      rw [← e] at h2
      rw [h2, List.append_nil]
    exact h (numB_inj a b _ _ key).1
  · rw [hn, Nat.min_eq_right hl, List.take_length] at e
    have key : numB b ++ (numB a).drop (numB b).length = numB a ++ [] := by
      have h2 := List.take_append_drop (numB b).length (numB a)
      rw [e] at h2
      rw [h2, List.append_nil]
    exact h (numB_inj b a _ _ key).1.symm

/-- The sum of bytes. -/
def sumS (s : Nat) (c : F) : Nat := ((s ^^^ c.toNat) * 16777619) % 4294967296
def sumB (l : List F) : Nat := l.foldl sumS 2166136261
theorem sumS_lt (s : Nat) (c : F) : sumS s c < 4294967296 := Nat.mod_lt _ (by omega)
theorem foldl_sumS_lt (l : List F) : ∀ s, s < 4294967296 → l.foldl sumS s < 4294967296 := by
  induction l with
  | nil => intro s h; exact h
  | cons c l ih => intro s _; exact ih _ (sumS_lt s c)
theorem sumB_lt (l : List F) : sumB l < 4294967296 := foldl_sumS_lt l _ (by omega)
theorem sumB_snoc (l : List F) (c : F) : sumB (l ++ [c]) = sumS (sumB l) c := by unfold sumB; rw [List.foldl_append, List.foldl_cons, List.foldl_nil]
theorem mul_odd_inj {x y : Nat} (hx : x < 4294967296) (hy : y < 4294967296) (h : (x * 16777619) % 4294967296 = (y * 16777619) % 4294967296) : x = y := by
  have key : ∀ z, z < 4294967296 → (((z * 16777619) % 4294967296) * 899433627) % 4294967296 = z := by
    intro z hz
    rw [Nat.mod_mul_mod, Nat.mul_assoc, show 16777619 * 899433627 = 1 + 4294967296 * 3513497 from by omega, Nat.mul_add, Nat.mul_one, ← Nat.mul_assoc, Nat.mul_right_comm, Nat.add_mul_mod_self_right]
    exact Nat.mod_eq_of_lt hz
  rw [← key x hx, ← key y hy, h]
end Go.Proofs.YtdnmfgpladgjhaaDoor
