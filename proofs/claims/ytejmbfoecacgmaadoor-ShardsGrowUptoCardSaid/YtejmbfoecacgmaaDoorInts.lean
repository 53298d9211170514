/- Lists of ints; SameInts. -/
import Derived.Test.YtejmbfoecacgmaaDoorMem
import Derived.WalkLawsBesides
import Derived.Laws.BytesArg
import Derived.Laws.CopyOwn
import Derived.Deep.LoopGhost
import Derived.Deep.QuietTactic
import Derived.BigQuiet
import Derived.WalkSpells
namespace Go.Proofs.YtejmbfoecacgmaaDoor
open Go Go.RowKit Go.Proofs.YtejmbfoecacgmaaDoor.Gf
set_option linter.unusedVariables false
set_option linter.unusedSimpArgs false

def iv (n : Int) : Value := .int .i64 n
def ivs (l : List Int) : List Value := l.map iv
theorem ivs_length (l : List Int) : (ivs l).length = l.length := by simp [ivs]
theorem ivs_append (l m : List Int) : ivs (l ++ m) = ivs l ++ ivs m := by simp [ivs]
theorem ivs_one (l : List Int) : ∀ u ∈ ivs l, u.oneCell' = true := by
  intro u hu
  simp only [ivs, List.mem_map] at hu
  obtain ⟨x, _, rfl⟩ := hu
  rfl
theorem infoI : ∃ i, Tryd.prog.info? 3 = some i ∧ i.zero = some (.int .i64 0) ∧ i.size = 1 ∧ i.bytes = 8 := by
  have h : (Tryd.prog.info? 3).map (fun i => (i.zero, i.size, i.bytes)) = some (some (.int .i64 0), 1, 8) := by kernel_rfl
  cases e : Tryd.prog.info? 3 with
  | none => rw [e] at h; cases h
  | some i => rw [e] at h; simp at h; exact ⟨i, rfl, h.1, h.2.1, h.2.2⟩
/-- Cells of a list of ints. -/
def IB (w : World) (A : Option Addr) (l : List Int) : Prop := Cs w A (ivs l)
theorem IB.at {w : World} {A : Option Addr} {l : List Int} (h : IB w A l) {j : Nat} (hj : j < l.length) : ∃ a, A = some a ∧ w.cell? (a.add j) = some (.int .i64 l[j]) :=
  h j _ (by simp [ivs, List.getElem?_eq_getElem hj, iv])

def sameI (a b : List Int) : Bool := decide (a = b)

set_option maxRecDepth 100000 in
theorem sameInts_calls (A : Option Addr) (ca : Nat) (la : List Int) (B : Option Addr) (cb : Nat) (lb : List Int) (w : World) (ha : IB w A la) (hb : IB w B lb) (hl : la = lb) (hs : la.length < 9000000000000000000) :
    Calls Tryd.prog 23 #[.slice A la.length ca, .slice B lb.length cb] w fun e w' => e = .returned (.bool true) ∧ ∃ n, w' = w.drewN n := by
  subst hl
  have HA := Pk.mk ha
  have HB := Pk.mk hb
  clear ha hb
  go_enter Tryd.func23, Tryd.ntmps23
  go_wp2
  go_loopw [13] (fun n wr => ∃ t q : Nat, t ≤ la.length ∧ n = .int .i64 (t : Int) ∧ wr = w.drewN q) (fun n _ => la.length - (intOf n).toNat)
  case atStart => exact ⟨0, 0, Nat.zero_le _, rfl, rfl⟩
  case round =>
    obtain ⟨t, q, ht, rfl, rfl⟩ := hrel
    by_cases hl : t < la.length
    · obtain ⟨a, rfl, hA0⟩ := IB.at HA.out hl
      obtain ⟨b, rfl, hB0⟩ := IB.at HB.out hl
      obtain ⟨z, Hz⟩ : ∃ z, Pk (z = la[t]) := ⟨_, ⟨rfl⟩⟩
      rw [← Hz.out] at hA0 hB0
      have hcA : ∀ q, (w.drewN q).cell? (a.add t) = some (.int .i64 z) := fun q => hA0
      have hcB : ∀ q, (w.drewN q).cell? (b.add t) = some (.int .i64 z) := fun q => hB0
      go_wp2
      go_quiet (fail)
      go_wp2
      go_roundw
      · exact ⟨t + 1, q + nq, by omega, by go_num, by first | rfl | simp [World.drewN, Nat.add_assoc]⟩
      · simp [intOf]; omega
    · go_wp2
      go_ret
      exact ⟨by first | rfl | simp, q, rfl⟩
end Go.Proofs.YtejmbfoecacgmaaDoor
