/- The document's Bytes; the chapter's example; WireNumbers. -/
import Derived.Test.YtdnmfgpladgjhaaDoorWD
namespace Go.Proofs.YtdnmfgpladgjhaaDoor
open Go Go.RowKit Go.Proofs.YtdnmfgpladgjhaaDoor.Gf
set_option linter.unusedVariables false
set_option linter.unusedSimpArgs false

theorem refBytes_calls (A : Option Addr) (n ca : Nat) (t : List F) (w : World) (hn : t.length = n) (ht : RB w A t) (hl : n ≤ 140737488354000) :
    Calls Tryd.prog 17 #[.slice A n ca] w fun e w' => ∃ v, e = .returned v ∧ w'.ownsRow w.heap.size 5 1 v ((numB n).length + n) (bvs (numB n ++ t)) ∧ Below w.heap.size w w' := by
  have HN := Pk.mk hn
  have HT := Pk.mk ht
  clear hn ht
  go_enter Tryd.func17, Tryd.ntmps17
  go_wp2_with fail
  have q := refNum_calls n w (by omega)
  with_reducible refine q.mono ?_
  clear q
  rintro e w1 ⟨v1, rfl, ho, hb⟩
  have HO := Pk.mk ho
  have HB := Pk.mk hb
  have h9 := numB_len9 (n := n) (by omega)
  clear ho hb
  go_wp2_with ((with_reducible refine gate_b (b := .append) rfl ?_); refine Pk.out ?_)
  refine ⟨?_⟩
  refine app_bytes w.heap.size v1 _ (numB n) HO.out HB.out.size A n ca t HN.out (HT.out.mono HB.out) (by omega) rfl rfl rfl rfl ?_
  intro v2 w2 hown hb _
  have HO2 := Pk.mk hown
  have HB2 := Pk.mk (HB.out.trans hb)
  clear hown hb
  go_wp2
  go_ret
  exact ⟨_, rfl, HO2.out, HB2.out⟩

theorem wnum_calls' (B : Nat) (g : Nat) (v : Value) (l : List F) (sp : Bool) (n : Nat) (z : Int) (w : World) (hz : (n : Int) = z) (hw : Wr B w g v l sp) (hB : B ≤ w.heap.size) (hn : n < 9223372036854775808) (hl : l.length ≤ 140737488355000) :
    Calls Tryd.prog 12 #[.pointer (some ⟨g, 0, none⟩), .int .i64 z] w fun e w' => e = .returned (.tuple #[]) ∧ ∃ v', Wr B w' g v' (l ++ numB n) sp ∧ FrW g v w w' v' := by
  subst hz; exact wnum_calls B g v l sp n w hw hB hn hl
theorem numB_300 : numB 300 = [172, 2] := by rw [numB_ge (by omega), numB_lt (by omega)]; rfl
theorem numB_2 : numB 2 = [2] := by rw [numB_lt (by omega)]; rfl
theorem sumB_a : sumB [97] = 3826002220 := by decide +kernel
set_option maxRecDepth 100000 in
theorem alive13_calls (w : World) :
    Calls Tryd.prog 10 #[] w fun e w' => e = .returned (.bool true) ∧ Below w.heap.size w w' := by
  go_enter Tryd.func10, Tryd.ntmps10
  go_wp2_with fail
  have q := newWriter_calls w
  with_reducible refine q.mono ?_
  clear q
  rintro e w1 ⟨g, rfl, hg, hw, hb⟩
  have B0 := Pk.mk hb
  have HW := Pk.mk hw
  clear hb hw
  go_wp2_with fail
  have q := wnum_calls' w.heap.size g _ [] false 300 300 w1 rfl HW.out B0.out.size (by omega) (by simp)
  with_reducible refine q.mono ?_
  clear q
  rintro e w2 ⟨rfl, v2, hw, hf⟩
  rw [numB_300, List.nil_append] at hw
  have B2 := Pk.mk (B0.out.trans (hf.below HW.out B0.out.size))
  have HW2 := Pk.mk hw
  clear hw hf HW
  go_wp2_with fail
  have q := wtext_calls w.heap.size g v2 [172, 2] false [97, 98] w2 HW2.out B2.out.size (by simp)
  rw [show bs [97, 98] = ⟨#[97, 98]⟩ from rfl, show ([97, 98] : List F).length = 2 from rfl, numB_2, show ([172, 2] : List F) ++ ([2] ++ [97, 98]) = [172, 2, 2, 97, 98] from rfl] at q
  with_reducible refine q.mono ?_
  clear q
  rintro e w3 ⟨rfl, v3, hw, hf⟩
  have B3 := Pk.mk (B2.out.trans (hf.below HW2.out B2.out.size))
  have HW3 := Pk.mk hw
  clear hw hf HW2
  go_wp2_with fail
  have q := wdone_calls w.heap.size g v3 [172, 2, 2, 97, 98] w3 HW3.out (by simp)
  with_reducible refine q.mono ?_
  clear q
  rintro e w4 ⟨x, rfl, ho, hb⟩
  have B4 := Pk.mk (B3.out.trans (hb.mono B3.out.size))
  obtain ⟨X, cx, rfl, _, hcs, _⟩ := own_form ho
  have r1 := conv_bytes' (n := 5) cx rfl (show RB w4 X [172, 2, 2, 97, 98] from hcs)
  rw [show bs [172, 2, 2, 97, 98] = ⟨#[172, 2, 2, 97, 98]⟩ from rfl] at r1
  have kc := conv_const w4 #[.int .u8 97] 1 1 w4.heap.size rfl
  clear hb ho hcs HW3
  go_wp2_with fail
  clear r1 kc
  have q := wireSum_calls (some ⟨w4.heap.size, 0, none⟩) 1 1 [97] (w4.alloc (.cells #[.int .u8 97] 5 (1, 2))) rfl (rb_const w4 [97] _ rfl _ rfl _) (by omega)
  rw [sumB_a] at q
  with_reducible refine q.mono ?_
  clear q
  rintro e w5 ⟨rfl, rfl⟩
  go_wp2
  go_ret
  exact ⟨by first | rfl | simp, B4.out.trans ((below_alloc _ _).mono B4.out.size)⟩
end Go.Proofs.YtdnmfgpladgjhaaDoor
