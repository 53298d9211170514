/- slices.Grow of nothing, slices.Concat of bytes, slices.Equal of bytes. -/
import Derived.Test.YtdnmfgpladgjhaaDoorLL
import Derived.Test.YtdnmfgpladgjhaaDoorWA
import Derived.Lib.AppendZeros
namespace Go.Proofs.YtdnmfgpladgjhaaDoor
open Go Go.RowKit Go.Proofs.YtdnmfgpladgjhaaDoor.Gf
set_option linter.unusedVariables false
set_option linter.unusedSimpArgs false

theorem grow_calls (n : Nat) (w : World) (hn : n ≤ 140737488355328) :
    Calls Tryd.prog 43 #[.slice none 0 0, .int .i64 n] w fun e w' => ∃ v, e = .returned v ∧ w'.ownsRow w.heap.size 5 1 v 0 (bvs []) ∧ Below w.heap.size w w' := by
  obtain ⟨i8, hi, hz0, hz1, hz2⟩ := info_parts info8
  by_cases h0 : 0 < n
  · have hr := fun ty => Lib.run_append_nil_zeros (P := Tryd.prog) w 26 3 ty 5 i8 (.int .u8 0) .i64 .i64 Tryd.underlying26 Tryd.underlying3 hi hz0 n h0 (by rw [hz1]; omega) (by omega) (by rw [hz2]; omega)
    have hG := grownCap_ge w n 0 5
    have hG2 := grownCap_le_maxLen w n 0 5 (by unfold maxLen; omega)
    obtain ⟨G, HG⟩ : ∃ G, Pk (grownCap w n 0 5 = G) := ⟨_, ⟨rfl⟩⟩
    rw [HG.out] at hr hG hG2
    have HR := Pk.mk hr
    have hG3 : G ≤ 9223372036854775807 := by unfold maxLen at hG2; omega
    have HO := Pk.mk (show (w.drew.alloc (.cells (Builtin.zeroCells (Value.int .u8 0).cells n ++ Builtin.zeroCells (Value.int .u8 0).cells (G - n)) 5)).ownsRow w.heap.size 5 1 (.slice (some ⟨w.heap.size, 0, none⟩) 0 G) 0 (bvs []) from
      ⟨rfl, Or.inr ⟨w.heap.size, G, _, rfl, Nat.le_refl _, heap_alloc_new w.drew _, Nat.zero_le _, hG2, by
        have hz : (Value.int IntKind.u8 0).cells.size = 1 := rfl
        rw [Array.size_append, size_zeroCells, size_zeroCells, hz]; omega, rfl⟩⟩)
    have HB := Pk.mk (show Below w.heap.size w (w.drew.alloc (.cells (Builtin.zeroCells (Value.int .u8 0).cells n ++ Builtin.zeroCells (Value.int .u8 0).cells (G - n)) 5)) from ((Below.refl _ _).drew).trans ((below_alloc w.drew _).mono (Nat.le_refl _)))
    clear hr hG2
    go_enter Tryd.func43, Tryd.ntmps43
    go_wp2_with (at_builtin; refine Lib.wpList_append_run _ rfl _ _ _ _ rfl _ _ rfl rfl _ _ (HR.out _) ?_)
    go_ret
    exact ⟨_, rfl, HO.out, HB.out⟩
  · obtain rfl : n = 0 := by omega
    go_enter Tryd.func43, Tryd.ntmps43
    go_wp2
    go_ret
    exact ⟨_, rfl, World.ownsRow_nil _ _ _ _, Below.refl _ _⟩

theorem joined_mono (H : List Sh) (t : Nat) : (joined H t).length ≤ (joined H H.length).length := by
  rcases Nat.le_total t H.length with h | h
  · have : joined H H.length = joined H t ++ (H.drop t).flatMap (·.2.2) := by
      unfold joined
      rw [← List.flatMap_append]
      congr 1
      rw [List.take_length, List.take_append_drop]
    rw [this, List.length_append]; omega
  · unfold joined
    rw [List.take_of_length_le h, List.take_length]; exact Nat.le_refl _
set_option maxRecDepth 100000 in
set_option maxHeartbeats 4000000 in
theorem concat_calls (A : Option Addr) (n ca : Nat) (H : List Sh) (w : World) (hn : H.length = n) (hL : LL w A H) (hnl : n ≤ 5864062014634) (hl : (joined H n).length ≤ 140737488355328) :
    Calls Tryd.prog 41 #[.slice A n ca] w fun e w' => ∃ v, e = .returned v ∧ w'.ownsRow w.heap.size 5 1 v (joined H n).length (bvs (joined H n)) ∧ Below w.heap.size w w' := by
  have HN := Pk.mk hn
  have HL := Pk.mk hL
  have HM := Pk.mk (show ∀ t, (joined H t).length ≤ 140737488355328 from fun t => by have := joined_mono H t; rw [hn] at this; omega)
  clear hn hL hl
  go_enter Tryd.func41, Tryd.ntmps41
  go_wp2
  go_loop [11, 3] (fun x s => ∃ t m : Nat, t ≤ n ∧ x = .int .i64 (t : Int) ∧ s = .int .i64 (m : Int) ∧ m ≤ 140737488355328 ∧ Pk (m = (joined H t).length)) (fun x _ => n - (intOf x).toNat)
  case atStart => exact ⟨0, 0, Nat.zero_le _, rfl, rfl, by omega, ⟨by rw [joined_zero]; rfl⟩⟩
  case round =>
    obtain ⟨t, m, ht, rfl, rfl, hm, Hm⟩ := hrel
    by_cases hlt : t < n
    · have hlt' : t < H.length := by rw [HN.out]; exact hlt
      obtain ⟨a, rfl, hc, _⟩ := HL.out.at hlt'
      have hs := HM.out (t + 1)
      have hj := joined_succ H t hlt'
      have Hm2 := Pk.mk (show m + H[t].2.2.length = (joined H (t + 1)).length by rw [hj, List.length_append, Hm.out])
      have hb : m + H[t].2.2.length ≤ 140737488355328 := by rw [Hm2.out]; exact hs
      clear hj hs
      generalize H[t] = y at *
      obtain ⟨Y, cy, ly⟩ := y
      simp only [hdr] at hc
      simp only at hb Hm2
      go_wp2
      go_round
      · exact ⟨t + 1, m + ly.length, by omega, by go_num, by go_num, hb, Hm2⟩
      · simp [intOf]; omega
    · have hte : t = n := by omega
      subst hte
      go_wp2_with fail
      have q := grow_calls m w hm
      with_reducible refine q.mono ?_
      clear q
      rintro e w1 ⟨v, rfl, ho, hb⟩
      have HO := Pk.mk ho
      have B0 := Pk.mk hb
      clear ho hb
      go_wp2
      go_loopw [27, 6] (fun x o wr => ∃ u : Nat, u ≤ t ∧ x = .int .i64 (u : Int) ∧ Pk (wr.ownsRow w.heap.size 5 1 o (joined H u).length (bvs (joined H u))) ∧ Pk (Below w.heap.size w wr)) (fun x _ _ => t - (intOf x).toNat)
      case atStart => exact ⟨0, Nat.zero_le _, rfl, ⟨by rw [joined_zero]; exact HO.out⟩, B0⟩
      case round =>
        clear HO B0
        obtain ⟨u, hu, rfl, HO, B0⟩ := hrel
        by_cases hul : u < t
        · have hul' : u < H.length := by rw [HN.out]; exact hul
          obtain ⟨a, rfl, hc, hr⟩ := (HL.out.mono B0.out).at hul'
          have Hj := Pk.mk (joined_succ H u hul')
          have hs := HM.out (u + 1)
          rw [Hj.out, List.length_append] at hs
          generalize H[u] = y at *
          obtain ⟨Y, cy, ly⟩ := y
          simp only [hdr] at hc
          simp only at hs hr
          have HR := Pk.mk hr
          clear hr
          go_wp2_with ((with_reducible refine gate_b (b := .append) rfl ?_); refine Pk.out ?_)
          refine ⟨?_⟩
          refine app_bytes w.heap.size _ _ (joined H u) HO.out B0.out.size Y ly.length cy ly rfl HR.out hs rfl rfl rfl rfl ?_
          intro v2 w2 hown hb _
          have HO2 := Pk.mk (show w2.ownsRow w.heap.size 5 1 v2 (joined H (u + 1)).length (bvs (joined H (u + 1))) by rw [Hj.out, List.length_append]; exact hown)
          have B2 := Pk.mk (B0.out.trans hb)
          clear hown hb HO B0 Hj HR
          go_wp2
          go_roundw
          · exact ⟨u + 1, by omega, by go_num, HO2, B2⟩
          · simp [intOf]; omega
        · have hue : u = t := by omega
          subst hue
          go_wp2
          go_ret
          exact ⟨_, rfl, HO.out, B0.out⟩

set_option maxRecDepth 100000 in
theorem equal_calls (A : Option Addr) (n ca : Nat) (la : List F) (B : Option Addr) (m cb : Nat) (lb : List F) (w : World) (hn : la.length = n) (hm : lb.length = m) (ha : RB w A la) (hb : RB w B lb) (hs : n < 9000000000000000000) :
    Calls Tryd.prog 42 #[.slice A n ca, .slice B m cb] w fun e w' => e = .returned (.bool (sameB la lb)) ∧ ∃ n, w' = w.drewN n := by
  have HA := Pk.mk ha
  have HB := Pk.mk hb
  have HN := Pk.mk hn
  have HM := Pk.mk hm
  clear ha hb hn hm
  go_enter Tryd.func42, Tryd.ntmps42
  by_cases hnm : n = m
  · subst hnm
    go_wp2
    go_loopw [13] (fun x wr => ∃ t q : Nat, t ≤ n ∧ x = .int .i64 (t : Int) ∧ wr = w.drewN q ∧ Pk (la.take t = lb.take t)) (fun x _ => n - (intOf x).toNat)
    case atStart => exact ⟨0, 0, Nat.zero_le _, rfl, rfl, ⟨rfl⟩⟩
    case round =>
      obtain ⟨t, q, ht, rfl, rfl, HE⟩ := hrel
      by_cases hl : t < n
      · have h1 : t < la.length := by rw [HN.out]; exact hl
        have h2 : t < lb.length := by rw [HM.out]; exact hl
        obtain ⟨a, rfl, hA0⟩ := RB.at HA.out h1
        obtain ⟨b, rfl, hB0⟩ := RB.at HB.out h2
        obtain ⟨x, Hx⟩ : ∃ x, Pk (x = la[t]) := ⟨_, ⟨rfl⟩⟩
        obtain ⟨y, Hy⟩ : ∃ y, Pk (y = lb[t]) := ⟨_, ⟨rfl⟩⟩
        rw [← Hx.out] at hA0
        rw [← Hy.out] at hB0
        have hcA : ∀ q, (w.drewN q).cell? (a.add t) = some (.int .u8 (i x)) := fun q => hA0
        have hcB : ∀ q, (w.drewN q).cell? (b.add t) = some (.int .u8 (i y)) := fun q => hB0
        by_cases he : x = y
        · have HE2 := Pk.mk (show la.take (t + 1) = lb.take (t + 1) by rw [List.take_succ_eq_append_getElem h1, List.take_succ_eq_append_getElem h2, HE.out, ← Hx.out, ← Hy.out, he])
          clear hA0 hB0 h1 h2 HE Hx Hy
          subst he
          go_wp2
          go_quiet (fail)
          go_wp2
          go_roundw
          · exact ⟨t + 1, q + nq, by omega, by go_num, by first | rfl | simp [World.drewN, Nat.add_assoc], HE2⟩
          · simp [intOf]; omega
        · have hf := Pk.mk (show sameB la lb = false by
            simp only [sameB, decide_eq_false_iff_not]
            rintro rfl
            exact he (Hx.out.trans Hy.out.symm))
          have hi : (i x == i y) = false := by rw [beq_eq_false_iff_ne]; intro e; exact he (UInt8.toNat_inj.1 (by unfold i at e; omega))
          clear hA0 hB0 h1 h2 HE Hx Hy he
          generalize i x = x at *
          generalize i y = y at *
          go_wp2
          go_quiet (fail)
          go_wp2
          go_ret
          exact ⟨by rw [hf.out]; first | rfl | simp, q + nq, by first | rfl | simp [World.drewN, Nat.add_assoc]⟩
      · have hte : t = n := by omega
        subst hte
        have hf := Pk.mk (show sameB la lb = true by
          have h := HE.out
          rw [List.take_of_length_le (by rw [HN.out]; exact Nat.le_refl _), List.take_of_length_le (by rw [HM.out]; exact Nat.le_refl _)] at h
          rw [h, sameB_self])
        go_wp2
        go_ret
        exact ⟨by rw [hf.out]; first | rfl | simp, q, rfl⟩
  · have hf := Pk.mk (show sameB la lb = false by
      simp only [sameB, decide_eq_false_iff_not]
      rintro rfl
      exact hnm (HN.out.symm.trans HM.out))
    have hi : ((n : Int) == (m : Int)) = false := by rw [beq_eq_false_iff_ne]; omega
    go_wp2
    go_ret
    exact ⟨by rw [hf.out]; first | rfl | simp, 0, rfl⟩
end Go.Proofs.YtdnmfgpladgjhaaDoor
