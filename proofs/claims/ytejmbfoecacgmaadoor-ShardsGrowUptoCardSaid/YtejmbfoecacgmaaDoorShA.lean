/- shards.params, Half, and the document's Half. -/
import Derived.Test.YtejmbfoecacgmaaDoorNumE
namespace Go.Proofs.YtejmbfoecacgmaaDoor
open Go Go.RowKit Go.Proofs.YtejmbfoecacgmaaDoor.Gf
set_option linter.unusedVariables false
set_option linter.unusedSimpArgs false

def shErrs : List Nat := [1, 12, 0]
def halfC (k size : Int) : Nat := if k < 1 ∨ 14 < k then 1 else if size < 1 then 12 else if 2 * k * 64 < size then 20 else 0
def halfV (k size : Int) : Int := if halfC k size = 0 then (size + 2 * k - 1) / (2 * k) else 0

theorem errN_0 (E : Nat → Addr) : errN E 0 = .nilIface := rfl
theorem errN_1 (E : Nat → Addr) : errN E 1 = .iface 55 (.pointer (some (E 1))) := rfl
theorem errN_12 (E : Nat → Addr) : errN E 12 = .iface 55 (.pointer (some (E 12))) := rfl
theorem errN_20 (E : Nat → Addr) : errN E 20 = .iface 55 (.pointer (some (E 0))) := rfl
theorem params_calls (E : Nat → Addr) (k : Int) (w : World) (hE : ErrW w E shErrs) :
    Calls Tryd.prog 24 #[.int .i64 k] w fun e w' => e = .returned (errN E (if k < 1 ∨ 14 < k then 1 else 0)) ∧ ∃ n, w' = w.drewN n := by
  have c1 := hE.cell 1 (by decide)
  simp only [errV] at c1
  by_cases h1 : k < 1
  · rw [if_pos (Or.inl h1)]
    go_enter Tryd.func24, Tryd.ntmps24
    go_wp2
    go_ret
    exact ⟨rfl, 0, rfl⟩
  · by_cases h2 : 14 < k
    · rw [if_pos (Or.inr h2)]
      go_enter Tryd.func24, Tryd.ntmps24
      go_wp2
      go_ret
      exact ⟨rfl, 0, rfl⟩
    · rw [if_neg (by omega)]
      go_enter Tryd.func24, Tryd.ntmps24
      go_wp2
      go_ret
      exact ⟨rfl, 0, rfl⟩

theorem half_calls (E : Nat → Addr) (k size : Int) (w : World) (hE : ErrW w E shErrs) (hs : size ≤ 9223372036854775807) :
    Calls Tryd.prog 19 #[.int .i64 k, .int .i64 size] w fun e w' => e = .returned (.tuple #[.int .i64 (halfV k size), errN E (halfC k size)]) ∧ ∃ n, w' = w.drewN n := by
  have c0 := hE.cell 12 (by decide)
  have c1 := hE.cell 0 (by decide)
  have HE := Pk.mk hE
  clear hE
  simp only [errV] at c0 c1
  have hn := fun (w : World) (g : Nat) => err_neq_nil (w := w) E g
  by_cases h1 : k < 1 ∨ 14 < k
  · have e1 : halfC k size = 1 := by simp [halfC, h1]
    have e2 : halfV k size = 0 := by simp [halfV, e1]
    rw [e1, e2, errN_1]
    go_enter Tryd.func19, Tryd.ntmps19
    go_wp2_with fail
    refine (params_calls E k w HE.out).mono ?_
    rw [if_pos h1, errN_1]
    rintro e w' ⟨rfl, n, rfl⟩
    go_wp2
    go_ret2
    exact ⟨rfl, n, rfl⟩
  · have hk1 : 1 ≤ k := by omega
    have hk2 : k ≤ 14 := by omega
    by_cases h2 : size < 1
    · have e1 : halfC k size = 12 := by simp [halfC, h1, h2]
      have e2 : halfV k size = 0 := by simp [halfV, e1]
      rw [e1, e2, errN_12]
      go_enter Tryd.func19, Tryd.ntmps19
      go_wp2_with fail
      refine (params_calls E k w HE.out).mono ?_
      rw [if_neg h1, errN_0]
      rintro e w' ⟨rfl, n, rfl⟩
      go_wp2
      go_quiet (fail)
      go_wp2
      go_ret2
      exact ⟨rfl, n + nq, by first | rfl | simp [World.drewN, Nat.add_assoc]⟩
    · by_cases h3 : 2 * k * 64 < size
      · have e1 : halfC k size = 20 := by simp [halfC, h1, h2, h3]
        have e2 : halfV k size = 0 := by simp [halfV, e1]
        rw [e1, e2, errN_20]
        go_enter Tryd.func19, Tryd.ntmps19
        go_wp2_with fail
        refine (params_calls E k w HE.out).mono ?_
        rw [if_neg h1, errN_0]
        rintro e w' ⟨rfl, n, rfl⟩
        go_wp2
        go_quiet (fail)
        go_wp2
        go_ret2
        exact ⟨rfl, n + nq, by first | rfl | simp [World.drewN, Nat.add_assoc]⟩
      · have e1 : halfC k size = 0 := by simp [halfC, h1, h2, h3]
        have e2 : halfV k size = (size + 2 * k - 1) / (2 * k) := by simp [halfV, e1]
        rw [e1, e2, errN_0]
        go_enter Tryd.func19, Tryd.ntmps19
        go_wp2_with fail
        refine (params_calls E k w HE.out).mono ?_
        rw [if_neg h1, errN_0]
        rintro e w' ⟨rfl, n, rfl⟩
        go_wp2
        go_ret2
        exact ⟨rfl, n, rfl⟩
end Go.Proofs.YtejmbfoecacgmaaDoor
