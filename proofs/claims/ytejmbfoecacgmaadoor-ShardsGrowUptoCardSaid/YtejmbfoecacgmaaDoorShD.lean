/- Split's errors; the chapter's examples. -/
import Derived.Test.YtejmbfoecacgmaaDoorShC
import Derived.Test.YtejmbfoecacgmaaDoorConv
namespace Go.Proofs.YtejmbfoecacgmaaDoor
open Go Go.RowKit Go.Proofs.YtejmbfoecacgmaaDoor.Gf
set_option linter.unusedVariables false
set_option linter.unusedSimpArgs false

theorem halfC_cases (k size : Int) : halfC k size = 0 ∨ halfC k size = 1 ∨ halfC k size = 12 ∨ halfC k size = 20 := by
  unfold halfC; split
  · simp
  · split
    · simp
    · split <;> simp
theorem split_err (E : Nat → Addr) (k : Int) (A : Option Addr) (ca : Nat) (la : List F) (w : World) (hE : ErrW w E shErrs) (h0 : halfC k la.length ≠ 0) (hl : la.length ≤ 9000000000000000000) :
    Calls Tryd.prog 10 #[.int .i64 k, .slice A la.length ca] w fun e w' => e = .returned (.tuple #[.slice none 0 0, errN E (halfC k la.length)]) ∧ ∃ n, w' = w.drewN n := by
  have hn := fun (w : World) (g : Nat) => err_neq_nil (w := w) E g
  have hv : halfV k la.length = 0 := by simp [halfV, h0]
  rcases halfC_cases k la.length with h | h | h | h
  · exact absurd h h0
  all_goals
    go_enter Tryd.func10, Tryd.ntmps10
    go_wp2_with fail
    refine (half_calls E k la.length w hE (by omega)).mono ?_
    rw [h, hv]
    first | rw [errN_1] | rw [errN_12] | rw [errN_20]
    rintro e w' ⟨rfl, n, rfl⟩
    go_wp2
    go_ret2
    exact ⟨by rw [h]; rfl, n, rfl⟩

theorem split_ok' (E : Nat → Addr) (kk hh N n : Nat) (k : Int) (A : Option Addr) (ca : Nat) (la : List F) (w : World) (hk : k = (kk : Int)) (hn : la.length = n) (hE : ErrW w E shErrs) (ha : RB w A la) (h0 : halfC kk la.length = 0) (hv : halfV kk la.length = hh) (hN : N = 2 * kk * hh) :
    Calls Tryd.prog 10 #[.int .i64 k, .slice A n ca] w fun e w' => ∃ g v, e = .returned (.tuple #[v, .nilIface]) ∧ w.heap.size ≤ g ∧ BB w' g (padB la N) ∧ w'.ownsRow w.heap.size 22 1 v (2 * kk) (heads g hh (2 * kk)) ∧ Below w.heap.size w w' := by
  subst hk hn; exact split_ok E kk hh N A ca la w hE ha h0 hv hN

set_option maxRecDepth 100000 in
theorem alive06_calls (E : Nat → Addr) (w : World) (hE : ErrW w E shErrs) :
    Calls Tryd.prog 8 #[] w fun e w' => e = .returned (.bool true) ∧ Below w.heap.size w w' := by
  have HE := Pk.mk hE
  clear hE
  have e1 : halfV 2 5 = 2 := by decide
  have e2 : halfC 2 5 = 0 := by decide
  go_enter Tryd.func8, Tryd.ntmps8
  go_wp2_with fail
  refine (half_calls E 2 5 w HE.out (by omega)).mono ?_
  rw [e1, e2, errN_0]
  rintro e w1 ⟨rfl, n1, rfl⟩
  have cs := conv_const (w.drewN n1) #[.int .u8 97, .int .u8 98, .int .u8 99, .int .u8 100, .int .u8 101] 5 5 w.heap.size rfl
  go_wp2_with fail
  clear cs
  refine (split_ok' E 2 2 8 5 2 (some ⟨w.heap.size, 0, none⟩) 5 [97, 98, 99, 100, 101] _ rfl rfl ?_ ?_ e2 e1 rfl).mono ?_
  · exact (HE.out.below (below_drewN (Below.refl _ _) n1)).below (below_alloc _ _)
  · exact rb_const (w.drewN n1) _ _ rfl _ rfl _
  rintro e w2 ⟨g, v, rfl, hg, hB, ho, hb⟩
  obtain ⟨g2, ex, rfl, _, hrow, _, _⟩ := own_blk ho (Or.inl (by omega))
  have f1 : w2.cell? ⟨g2, 1, none⟩ = some (.slice (some ⟨g, 2, none⟩) 2 2) := by rw [cell_of_row _ _ _ _ _ _ hrow]; rfl
  have f2 : w2.cell? ⟨g2, 2, none⟩ = some (.slice (some ⟨g, 4, none⟩) 2 2) := by rw [cell_of_row _ _ _ _ _ _ hrow]; rfl
  have r1 := conv_bytes' (n := 2) 2 rfl (BB.sub hB 2 2)
  have r2 := conv_bytes' (n := 2) 2 rfl (BB.sub hB 4 2)
  have z1 : bs (((padB [97, 98, 99, 100, 101] 8).drop 2).take 2) = ⟨#[99, 100]⟩ := by rfl
  have z2 : bs (((padB [97, 98, 99, 100, 101] 8).drop 4).take 2) = ⟨#[101, 0]⟩ := by rfl
  rw [z1] at r1
  rw [z2] at r2
  have Hb := Pk.mk hb
  clear z1 z2 hB ho hrow hb hg
  go_wp2
  go_ret
  exact ⟨by first | rfl | simp, ((below_drewN (Below.refl _ _) n1).trans ((below_alloc _ _).trans (Hb.out.mono (by simp)))).trans (Below.refl _ _)⟩
end Go.Proofs.YtejmbfoecacgmaaDoor
