/- Sums of stripes. -/
import Derived.Test.YtejmbfoecacgmaaDoorShI
namespace Go.Proofs.YtejmbfoecacgmaaDoor
open Go Go.RowKit Go.Proofs.YtejmbfoecacgmaaDoor.Gf
set_option linter.unusedVariables false
set_option linter.unusedSimpArgs false

theorem strp_get (d size t j : Nat) (hj : j < t) (h : j < (strp d size t).length) : (strp d size t)[j] = ((min (size - j * d) d : Nat) : Int) := by simp [strp]
/-- The sum of the first t: what is covered. -/
theorem strp_sum (d size : Nat) : ∀ t, (strp d size t).sum = ((min size (t * d) : Nat) : Int)
  | 0 => by simp [strp]
  | t + 1 => by
    rw [strp_succ, List.sum_append, strp_sum d size t, List.sum_singleton, Nat.add_mul, Nat.one_mul]
    omega
theorem strp_sum_end {d size t : Nat} (h : strpEnd d size t) : (strp d size t).sum = (size : Int) := by
  rw [strp_sum, Nat.min_eq_left h.1]
/-- An entry: all but the last are full; each is one that Half takes. -/
theorem strp_entry {d size t j : Nat} (h : strpEnd d size t) (hj : j < t) : 1 ≤ min (size - j * d) d ∧ (j + 1 < t → min (size - j * d) d = d) := by
  obtain ⟨h1, h2⟩ := h
  have ht : (t - 1) * d < size := by rcases h2 with h2 | h2 <;> omega
  have hjd : j * d ≤ (t - 1) * d := Nat.mul_le_mul_right _ (by omega)
  have hd : 0 < d := by
    rcases Nat.eq_zero_or_pos d with h0 | h0
    · subst h0; omega
    · exact h0
  refine ⟨by omega, fun hlt => ?_⟩
  have : (j + 1) * d ≤ (t - 1) * d := Nat.mul_le_mul_right _ (by omega)
  rw [Nat.add_mul, Nat.one_mul] at this
  omega
theorem half_of_stripe {k : Int} {q : Nat} (h1 : 1 ≤ k) (h2 : k ≤ 14) (h3 : 1 ≤ q) (h4 : (q : Int) ≤ 128 * k) : halfC k q = 0 := by
  unfold halfC
  rw [if_neg (by omega), if_neg (by omega), if_neg (by omega)]
theorem half_stripe {k : Int} {n : Nat} (h : halfC k n = 0) : stripC k n = 0 := by
  obtain ⟨k1, k2, s1, s2, _⟩ := half_ok h
  unfold stripC
  rw [if_neg (by omega), if_neg (by omega), if_neg (by omega)]
end Go.Proofs.YtejmbfoecacgmaaDoor
