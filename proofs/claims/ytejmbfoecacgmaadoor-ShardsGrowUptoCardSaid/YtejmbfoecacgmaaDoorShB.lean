/- The document's Half. -/
import Derived.Test.YtejmbfoecacgmaaDoorShA
namespace Go.Proofs.YtejmbfoecacgmaaDoor
open Go Go.RowKit Go.Proofs.YtejmbfoecacgmaaDoor.Gf
set_option linter.unusedVariables false
set_option linter.unusedSimpArgs false

theorem ceil_eq {s d j : Int} (hd : 0 < d) (h1 : d * (j - 1) < s) (h2 : s ≤ d * j) : (s + d - 1) / d = j := by
  have e : d * (j - 1) = d * j - d := by rw [Int.mul_sub, Int.mul_one]
  apply Int.le_antisymm
  · apply Int.le_of_lt_add_one
    apply Int.ediv_lt_of_lt_mul hd
    rw [Int.add_mul, Int.one_mul, Int.mul_comm j d]; omega
  · apply Int.le_ediv_of_mul_le hd
    rw [Int.mul_comm j d]; omega

theorem mul_bound {k j : Int} (h1 : 1 ≤ k) (h2 : k ≤ 14) (h3 : 1 ≤ j) (h4 : j ≤ 65) : 0 ≤ 2 * k * j ∧ 2 * k * j ≤ 1820 := by
  have a : 0 ≤ 2 * k * j := Int.mul_nonneg (by omega) (by omega)
  have b : 2 * k * j ≤ 28 * 65 := Int.mul_le_mul (by omega) h4 (by omega) (by omega)
  exact ⟨a, by omega⟩

theorem refHalf_calls (k size : Int) (w : World) :
    Calls Tryd.prog 20 #[.int .i64 k, .int .i64 size] w fun e w' => e = .returned (.tuple #[.int .i64 (halfV k size), .int .i64 (halfC k size : Nat)]) ∧ w' = w := by
  by_cases h1 : k < 1 ∨ 14 < k
  · have e1 : halfC k size = 1 := by simp [halfC, h1]
    have e2 : halfV k size = 0 := by simp [halfV, e1]
    rw [e1, e2]
    go_enter Tryd.func20, Tryd.ntmps20
    rcases h1 with h1 | h1
    · go_wp2
      go_ret2
      exact ⟨rfl, rfl⟩
    · by_cases hk : k < 1
      · omega
      · go_wp2
        go_ret2
        exact ⟨rfl, rfl⟩
  · have hk1 : 1 ≤ k := by omega
    have hk2 : k ≤ 14 := by omega
    by_cases h2 : size < 1
    · have e1 : halfC k size = 12 := by simp [halfC, h1, h2]
      have e2 : halfV k size = 0 := by simp [halfV, e1]
      rw [e1, e2]
      go_enter Tryd.func20, Tryd.ntmps20
      go_wp2
      go_ret2
      exact ⟨rfl, rfl⟩
    · go_enter Tryd.func20, Tryd.ntmps20
      go_wp2
      go_loop [6] (fun x => ∃ j : Int, 1 ≤ j ∧ j ≤ 65 ∧ x = .int .i64 j ∧ Pk (2 * k * (j - 1) < size)) (fun x => 65 - (intOf x).toNat)
      case atStart => exact ⟨1, by omega, by omega, rfl, ⟨by omega⟩⟩
      case round =>
        obtain ⟨j, hj1, hj2, rfl, hj⟩ := hrel
        obtain ⟨hm1, hm2⟩ := mul_bound hk1 hk2 hj1 hj2
        by_cases hl : j ≤ 64
        · by_cases hc : size ≤ 2 * k * j
          · go_wp2
            go_ret2
            have e3 : 2 * k * j ≤ 2 * k * 64 := Int.mul_le_mul_of_nonneg_left hl (by omega)
            have e1 : halfC k size = 0 := by
              unfold halfC
              rw [if_neg h1, if_neg (by omega), if_neg (by omega)]
            have e2 : halfV k size = j := by
              unfold halfV
              rw [if_pos e1]
              exact ceil_eq (by omega) hj.out hc
            rw [e1, e2]
            exact ⟨rfl, rfl⟩
          · have hj' : 2 * k * (j + 1 - 1) < size := by rw [show j + 1 - 1 = j by omega]; omega
            go_wp2
            exact ⟨⟨j + 1, by omega, by omega, by go_num, ⟨hj'⟩⟩, by simp [intOf]; omega⟩
        · have hj65 : j = 65 := by omega
          subst hj65
          have hh := hj.out
          have e1 : halfC k size = 20 := by
            unfold halfC
            rw [if_neg h1, if_neg (by omega), if_pos (by omega)]
          have e2 : halfV k size = 0 := by simp [halfV, e1]
          go_wp2
          go_ret2
          exact ⟨rfl, rfl⟩
end Go.Proofs.YtejmbfoecacgmaaDoor
