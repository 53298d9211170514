/- The statement GfBilinear: for every input the Go law returns true and leaves its arguments as they were. No condition. -/
import Derived.Test.YtfanaaiakalccaaRows
import Derived.Test.YtfanaaiakalccaaRowKit
import Derived.Test.YtfanaaiakalccaaGfLaw3
import Derived.WalkKit
import Derived.ProofKit
import Derived.OpenShut
import Derived.ShutString
import Derived.ChangeOld
import Derived.Below
import Derived.SizedLaws
import Derived.Lib.SmallJoins
namespace Go.Proofs.Ytfanaaiakalccaa.gfBilinear
open Go.ChangeShapes Go.WideShapes Go.ChangeAt Go.RowKit Go.Proofs.Ytfanaaiakalccaa.Gf Go
open Go.ChangeMaps (open_string shut_string)
set_option linter.unusedVariables false
theorem own : ownKnob Try.prog.godebug = none := by kernel_rfl
theorem laidOut : laidOutB Try.prog = true := by kernel_rfl
set_option maxRecDepth 100000 in
theorem lifted (os : Os) (started : os.Started) (H : Type) (enc : TypeId × Value → H) :
    ReturnsInHanded {} Try.checked os 6 .any (Rows.gfBilinearSpec.pre6 enc Try.prog Try.f6 Rows.gfBilinearRow.domain false) (Rows.gfBilinearSpec.post enc Try.prog Try.f6 false true false false) := by
  refine returnsInHanded_of_change_sized (C := Try.checked) own started (by kernel_rfl) Try.func6
    (ChangeSpec.witness6 (enc := enc) (C := Try.checked) false ⟨#[], #[.agg #[.slice none 0 0, .slice none 0 0, .slice none 0 0, .int .u8 0]], []⟩ 8 (by kernel_rfl) (by kernel_rfl) (by kernel_rfl) (by kernel_rfl)) ?_
  intro W base args ds gs before hval0 hW hcnd hsz0 _
  have hsz : (DataW.weightsEach Try.prog (Try.f6.params.toList ++ Rows.gfBilinearSpec.plain.varTypes Try.prog) (ds ++ gs)).all (· ≤ reachBytes) = true := hsz0
  have hval : ∀ (j : Nat) t v, Try.f6.params[j]? = some t → args[j]? = some v → Value.okWide Try.prog W .any base t v := hval0
  have hW' := hW
  obtain ⟨p, q, hA0, hV, rfl, hfz, hnd⟩ := hW
  have hA : DataW.TrodAll enc Try.prog W 0 (fun _ => true) true Try.f6.params.toList args.toList ds p := hA0
  rw [Try.params6] at hA hval hsz
  obtain ⟨v0, vs0, d0, ds0, p0, q0, hargs, rfl, rfl, h0, r0⟩ := trodAll_cons hA
  obtain ⟨rfl, rfl, rfl⟩ := trodAll_nil r0
  obtain rfl : args = #[v0] := by cases args; simp_all
  obtain ⟨rfl, rfl⟩ := trodVars_none hV
  have k0 := h0
  have lt0 : ∀ x ∈ p0, x.block < W.heap.size := by obtain ⟨m, hm⟩ := k0; exact DataW.trod_lt m _ _ _ hm
  obtain ⟨v0_0, v0_1, v0_2, v0_3, y0_0, y0_1, y0_2, y0_3, m0, rfl, rfl, rfl, t0_0, t0_1, t0_2, t0_3⟩ := Joins.open_agg4 Try.underlying35 (by kernel_rfl) (by kernel_rfl) (hval 0 35 v0 rfl rfl) h0
  have wt0 := wt_arg hsz 0 rfl rfl
  obtain ⟨A0_0, c0_0, l0_0, rfl, hr0_0, hc0_0, hl0_0⟩ := bytes_cell t0_0 (wt_field Try.underlying35 wt0 0 rfl rfl)
  obtain ⟨A0_1, c0_1, l0_1, rfl, hr0_1, hc0_1, hl0_1⟩ := bytes_cell t0_1 (wt_field Try.underlying35 wt0 1 rfl rfl)
  obtain ⟨A0_2, c0_2, l0_2, rfl, hr0_2, hc0_2, hl0_2⟩ := bytes_cell t0_2 (wt_field Try.underlying35 wt0 2 rfl rfl)
  obtain ⟨x0_3, rfl⟩ := u8_cell t0_3
  clear hA0 hval0 hsz0 hsz
  refine (gfBilinear_walk A0_0 c0_0 l0_0 A0_1 c0_1 l0_1 A0_2 c0_2 l0_2 x0_3 W hr0_0 hc0_0 hl0_0 hr0_1 hc0_1 hl0_1 hr0_2 hc0_2 hl0_2).mono fun e W' ⟨he, bel⟩ => ?_
  subst he
  exact ⟨_, rfl, _, _, _, [], _, [], hW', trodAll_mk1 (shut_bool Try.underlying4 _), (trodAll_cons_mk (Below.trod laidOut (by kernel_rfl) (of_decide_eq_true (by kernel_rfl)) k0 bel lt0) trodAll_mk0), rfl, bel.frame _, fun h => by cases h⟩
theorem over : Rows.gfBilinearRow.holds Try.pinned (OpenSpec.ofChange Rows.gfBilinearSpec) :=
  OpenClaim.holds_of_wide 6 Try.f6 rfl rfl rfl rfl rfl rfl rfl ⟨rfl, rfl, rfl, rfl, rfl⟩ rfl rfl rfl rfl rfl (by kernel_rfl) Try.func6 (by kernel_rfl)
    (of_decide_eq_true (by kernel_rfl)) (by unfold Func.isWrapper; first | (rw [if_pos (by decide +kernel)]; kernel_rfl) | (rw [if_neg (by decide +kernel)]; exact ⟨rfl, rfl⟩))
    (fun os started H enc _ => lifted os started H enc)
theorem proved : Rows.GfBilinearSaid := over
#print axioms proved
end Go.Proofs.Ytfanaaiakalccaa.gfBilinear
namespace Go.Proofs.Ytfanaaiakalccaa
/-- The statement, under a short name. -/
theorem gfBilinear_holds : Rows.GfBilinearSaid := gfBilinear.proved
end Go.Proofs.Ytfanaaiakalccaa
