/- The statement WireSums: for every input the Go law returns true and leaves its arguments as they were. No condition. -/
import Derived.Test.YtdnmfgpladgjhaaDoorCards
import Derived.Test.YtdnmfgpladgjhaaDoorTie
import Derived.Test.YtdnmfgpladgjhaaDoorRowKit
import Derived.Test.YtdnmfgpladgjhaaDoorErr
import Derived.Test.YtdnmfgpladgjhaaDoorWJ
import Derived.WalkKit
import Derived.ProofKit
import Derived.OpenShut
import Derived.ShutString
import Derived.ChangeOld
import Derived.Below
import Derived.SizedLaws
import Derived.Lib.SmallJoins
import Derived.Deep.DeepHandedRow
import Derived.Lay
import Derived.SevenTiedAt
import Derived.MakeChecks
namespace Go.Proofs.YtdnmfgpladgjhaaDoor.wireSums
open Go.ChangeShapes Go.WideShapes Go.ChangeAt Go.RowKit Go.Proofs.YtdnmfgpladgjhaaDoor.Gf Go
open Go.ChangeMaps (open_string shut_string)
set_option linter.unusedVariables false
theorem own : ownKnob Tryd.prog.godebug = none := by kernel_rfl
theorem laidOut : laidOutB Tryd.prog = true := by kernel_rfl
set_option maxRecDepth 100000 in
def gsL : List Nat := [3, 4, 5, 6, 7, 8, 9, 10, 11, 1, 2, 0, 12, 13, 14, 15, 16, 17, 18, 19, 20, 21, 22, 23, 24]
theorem laidFits : laidOk Tryd.prog Rows.wireSumsRow.laid gsL := ⟨⟨by kernel_rfl, by kernel_rfl, _, rfl⟩, ⟨⟨by kernel_rfl, by kernel_rfl, _, rfl⟩, ⟨⟨by kernel_rfl, by kernel_rfl, _, rfl⟩, ⟨⟨by kernel_rfl, by kernel_rfl, _, rfl⟩, ⟨⟨by kernel_rfl, by kernel_rfl, _, rfl⟩, ⟨⟨by kernel_rfl, by kernel_rfl, _, rfl⟩, ⟨⟨by kernel_rfl, by kernel_rfl, _, rfl⟩, ⟨⟨by kernel_rfl, by kernel_rfl, _, rfl⟩, ⟨⟨by kernel_rfl, by kernel_rfl, _, rfl⟩, ⟨⟨by kernel_rfl, by kernel_rfl, _, rfl⟩, ⟨⟨by kernel_rfl, by kernel_rfl, _, rfl⟩, ⟨⟨by kernel_rfl, by kernel_rfl, _, rfl⟩, ⟨⟨by kernel_rfl, by kernel_rfl, _, rfl⟩, ⟨⟨by kernel_rfl, by kernel_rfl, _, rfl⟩, ⟨⟨by kernel_rfl, by kernel_rfl, _, rfl⟩, ⟨⟨by kernel_rfl, by kernel_rfl, _, rfl⟩, ⟨⟨by kernel_rfl, by kernel_rfl, _, rfl⟩, ⟨⟨by kernel_rfl, by kernel_rfl, _, rfl⟩, ⟨⟨by kernel_rfl, by kernel_rfl, _, rfl⟩, ⟨⟨by kernel_rfl, by kernel_rfl, _, rfl⟩, ⟨⟨by kernel_rfl, by kernel_rfl, _, rfl⟩, ⟨⟨by kernel_rfl, by kernel_rfl, _, rfl⟩, ⟨⟨by kernel_rfl, by kernel_rfl, _, rfl⟩, ⟨⟨by kernel_rfl, by kernel_rfl, _, rfl⟩, ⟨⟨by kernel_rfl, by kernel_rfl, _, rfl⟩, trivial⟩⟩⟩⟩⟩⟩⟩⟩⟩⟩⟩⟩⟩⟩⟩⟩⟩⟩⟩⟩⟩⟩⟩⟩⟩
noncomputable def laidWorld (os : Os) : World := World.laidAll Tryd.prog os Rows.wireSumsRow.laid
theorem laid_met (os : Os) : laidMetH Tryd.prog Rows.wireSumsRow.laid ((laidWorld os).forCall (fun _ _ => 0) ⟨#[], #[.slice none 0 0], []⟩).memory := by
  rw [MakeChecks.laidMetH_plain _ _ _ (by kernel_rfl)]
  exact laidMet_laidAll #[.slice none 0 0] (by kernel_rfl) (by kernel_rfl)
theorem reads (os : Os) {H : Type} (enc : TypeId × Value → H) : ∃ places, DataW.whole enc Tryd.prog ((laidWorld os).forCall (fun _ _ => 0) ⟨#[], #[.slice none 0 0], []⟩).memory Tryd.f8.params.toList Rows.wireSumsSpec.vars false (#[.slice none 0 0] : Array Value).toList 8 = some ([.nil], [], places) :=
  ⟨[], by kernel_rfl⟩
set_option maxRecDepth 100000 in
theorem lifted (os : Os) (started : os.Started) (H : Type) (enc : TypeId × Value → H) (F : Stop.Interp) :
    ReturnsInHanded {} Tryd.checked os 8 .any ((OpenSpec.ofChange Rows.wireSumsSpec).preRow enc Tryd.prog Tryd.f8 Rows.wireSumsRow.domain false Rows.wireSumsRow.laid) (((OpenSpec.ofChange Rows.wireSumsSpec).at F).post enc Tryd.prog Tryd.f8 false true false false) := by
  obtain ⟨places, hx⟩ := reads os enc
  refine returnsInHanded_of_row (C := Tryd.checked) (s := (OpenSpec.ofChange Rows.wireSumsSpec)) own started (by kernel_rfl) Tryd.func8
    (witness_row_at (enc := enc) (C := Tryd.checked) false (laidWorld os) #[.slice none 0 0] (World.laidAll_os _ _ _) (by kernel_rfl) (by kernel_rfl) (by kernel_rfl)
      (OpenSpec.preRow_of_cond 8 hx (by kernel_rfl) (fun k hk => by cases hk) (by kernel_rfl) (laid_met os))) ?_
  intro W base args ds gs before hval0 hW _ _ hsz0 hL _ _
  rw [MakeChecks.laidMetH_plain _ _ _ (by kernel_rfl)] at hL
  obtain ⟨E, hE⟩ := errs_of_laid hL laidFits (by decide)
  have hsz : (DataW.weightsEach Tryd.prog (Tryd.f8.params.toList ++ Rows.wireSumsSpec.plain.varTypes Tryd.prog) (ds ++ gs)).all (· ≤ reachBytes) = true := hsz0
  have hval : ∀ (j : Nat) t v, Tryd.f8.params[j]? = some t → args[j]? = some v → Value.okWide Tryd.prog W .any base t v := hval0
  have hW' := hW
  obtain ⟨p, q, hA0, hV, rfl, hfz, hnd⟩ := hW
  have hA : DataW.TrodAll enc Tryd.prog W 0 (fun _ => true) true Tryd.f8.params.toList args.toList ds p := hA0
  rw [Tryd.params8] at hA hval hsz
  obtain ⟨v0, vs0, d0, ds0, p0, q0, hargs, rfl, rfl, h0, r0⟩ := trodAll_cons hA
  obtain ⟨rfl, rfl, rfl⟩ := trodAll_nil r0
  obtain rfl : args = #[v0] := by cases args; simp_all
  obtain ⟨rfl, rfl⟩ := trodVars_none hV
  have k0 := h0
  have lt0 : ∀ x ∈ p0, x.block < W.heap.size := by obtain ⟨m, hm⟩ := k0; exact DataW.trod_lt m _ _ _ hm
  obtain ⟨A0, c0, l0, rfl, hr0, hc0, hl0⟩ := open_bytes hsz (j := 0) rfl rfl (hval 0 26 v0 rfl rfl) h0
  clear hA0 hval0 hsz0 hsz
  refine (wireSums_walk E A0 c0 l0 W (hE.sub (by decide)) hr0 hc0 hl0).mono fun e W' ⟨he, bel⟩ => ?_
  subst he
  exact ⟨_, rfl, _, _, _, [], _, [], hW', trodAll_mk1 (shut_bool Tryd.underlying4 _), (trodAll_cons_mk (Below.trod laidOut (by kernel_rfl) (of_decide_eq_true (by kernel_rfl)) k0 bel lt0) trodAll_mk0), rfl, bel.frame _, fun h => by cases h⟩
theorem said : Rows.WireSumsSaid :=
  OpenClaim.holds_of_cond 8 Tryd.f8 rfl rfl rfl rfl rfl rfl rfl ⟨rfl, rfl, rfl, rfl, rfl⟩ rfl rfl rfl rfl rfl (by kernel_rfl) Tryd.func8 (by kernel_rfl)
    (of_decide_eq_true (by kernel_rfl)) (by unfold Func.isWrapper; first | (rw [if_pos (by decide +kernel)]; kernel_rfl) | (rw [if_neg (by decide +kernel)]; exact ⟨rfl, rfl⟩))
    (fun os started H enc _ F => by rw [OpenClaim.pre_eq_preRow]; exact lifted os started H enc F)
theorem plain (f : FuncId) (fn : Func) (hf : Tryd.pinned.checked.prog.funcNamed "tessera/tesseralaw13.WireSums" = some f) (hfn : Tryd.pinned.checked.prog.funcs[f]? = some fn) :
    Tryd.pinned.checked.prog.looks [] = Tryd.pinned.checked.prog.looks [] ∧ ∀ (j : Nat) t, fn.params[j]? = some t → Tryd.pinned.checked.prog.wantsStandIn t = false := by
  obtain rfl : f = 8 := Option.some.inj ((show Tryd.prog.funcNamed "tessera/tesseralaw13.WireSums" = some 8 by kernel_rfl).symm.trans hf) |>.symm
  obtain rfl : fn = Tryd.f8 := (Option.some.inj (Tryd.func8.symm.trans hfn)).symm
  refine ⟨rfl, fun j t ht => ?_⟩
  rw [Tryd.params8] at ht
  have hm : t ∈ [26] := by simpa using Array.mem_of_getElem? ht
  have hall : ([26].all fun u => !Tryd.prog.wantsStandIn u) = true := by kernel_rfl
  exact (show Tryd.prog.wantsStandIn t = false by simpa using List.all_eq_true.1 hall t hm)
theorem card : Rows.WireSumsCardSaid :=
  Claim7.holds_tied_plain_at .later [] _ _ _ _ said (fun _ h => by cases h) (by kernel_rfl) (fun _ h => by cases h) wireSums_row_tie rfl ⟨rfl, rfl⟩ (by kernel_rfl) rfl
    (fun f fn hf hfn => ⟨by kernel_rfl, (plain f fn hf hfn).2⟩) (by kernel_rfl)
#print axioms card
end Go.Proofs.YtdnmfgpladgjhaaDoor.wireSums
namespace Go.Proofs.YtdnmfgpladgjhaaDoor
/-- The statement, under a short name. -/
theorem wireSums_holds : Rows.WireSumsCardSaid := wireSums.card
end Go.Proofs.YtdnmfgpladgjhaaDoor
