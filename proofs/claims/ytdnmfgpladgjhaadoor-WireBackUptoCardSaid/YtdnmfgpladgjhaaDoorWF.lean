/- WireNumbers walked. -/
import Derived.Test.YtdnmfgpladgjhaaDoorWE
namespace Go.Proofs.YtdnmfgpladgjhaaDoor
open Go Go.RowKit Go.Proofs.YtdnmfgpladgjhaaDoor.Gf
set_option linter.unusedVariables false
set_option linter.unusedSimpArgs false

theorem and63 (a : Int) : ∃ m : Nat, m < 9223372036854775808 ∧ bits .and .i64 a 9223372036854775807 = (m : Int) := by
  refine ⟨((BitVec.ofInt 64 a).toNat) % 2 ^ 63, Nat.mod_lt _ (by decide), ?_⟩
  simp only [bits]
  have h1 : (BitVec.ofInt 64 a &&& BitVec.ofInt 64 9223372036854775807).toNat = (BitVec.ofInt 64 a).toNat % 2 ^ 63 := by
    rw [BitVec.toNat_and, show (BitVec.ofInt 64 9223372036854775807).toNat = 2 ^ 63 - 1 from by decide, Nat.and_two_pow_sub_one_eq_mod]
  show IntKind.i64.wrap (((BitVec.ofInt 64 a &&& BitVec.ofInt 64 9223372036854775807).toNat : Nat) : Int) = _
  rw [h1]
  exact wraps_i64 _ (by omega) (by have := Nat.mod_lt (BitVec.ofInt 64 a).toNat (show 0 < 2 ^ 63 by decide); omega)

theorem numB_same_len {a b : Nat} (h : (numB a) = (numB b)) : a = b := (numB_inj a b [] [] (by rw [h])).1

set_option maxRecDepth 100000 in
set_option maxHeartbeats 4000000 in
theorem wireNumbers_walk0 (a b : Int) (w : World) :
    Calls Tryd.prog 3 #[.int .i64 a, .int .i64 b] w fun e w' => e = .returned (.bool true) ∧ Below w.heap.size w w' := by
  obtain ⟨m, hm, hma⟩ := and63 a
  obtain ⟨k, hk, hkb⟩ := and63 b
  go_enter Tryd.func3, Tryd.ntmps3
  go_wp2_with fail
  refine (alive13_calls w).mono ?_
  rintro e w1 ⟨rfl, hb⟩
  have B0 := Pk.mk hb
  have S1 := Pk.mk hb.size
  clear hb
  go_wp2_with fail
  have q := newWriter_calls w1
  with_reducible refine q.mono ?_
  clear q
  rintro e w2 ⟨g1, rfl, hg1, hw1, hb⟩
  replace B0 := Pk.mk (B0.out.trans ((hb).mono B0.out.size))
  clear hb
  have HW1 := Pk.mk hw1
  clear hw1 hma hkb
  have S2 := Pk.mk (Nat.le_trans S1.out (Nat.le_trans hg1 (Nat.le_of_lt HW1.out.lt)))
  go_wp2_with fail
  have q := newWriter_calls w2
  with_reducible refine q.mono ?_
  clear q
  rintro e w3 ⟨g2, rfl, hg2, hw2, hb⟩
  have Hne := Pk.mk (show g1 ≠ g2 by have := HW1.out.lt; omega)
  replace HW1 := Pk.mk (HW1.out.mono hb)
  replace B0 := Pk.mk (B0.out.trans ((hb).mono B0.out.size))
  clear hb
  have HW2 := Pk.mk hw2
  clear hw2
  have Z1 := Pk.mk (Nat.le_trans (Nat.le_of_lt (Nat.lt_of_le_of_lt hg1 HW1.out.lt)) (Nat.le_refl w3.heap.size))
  have Z2 := Pk.mk (Nat.le_trans (Nat.le_of_lt (Nat.lt_of_le_of_lt hg2 HW2.out.lt)) (Nat.le_refl w3.heap.size))
  go_wp2_with fail
  have q := wnum_calls w1.heap.size g1 _ [] false m w3 HW1.out Z1.out hm (by simp)
  with_reducible refine q.mono ?_
  clear q
  rintro e w4 ⟨rfl, v1, h1, f1⟩
  rw [List.nil_append] at h1
  have HW2b := Pk.mk (HW2.out.off HW1.out f1 (fun e => Hne.out e.symm) (fun j hj => by simp [Value.ownBlock] at hj))
  have hb4 := (f1.below HW1.out Z1.out)
  have HW1b := Pk.mk h1
  have F1 := Pk.mk f1
  replace B0 := Pk.mk (B0.out.trans (hb4.mono S1.out))
  clear h1 f1 hb4 HW1 HW2
  have Z4 := Pk.mk (Nat.le_trans Z2.out F1.out.size)
  go_wp2_with fail
  have q := wnum_calls w2.heap.size g2 _ [] false k w4 HW2b.out Z4.out hk (by simp)
  with_reducible refine q.mono ?_
  clear q
  rintro e w5 ⟨rfl, v2, h2, f2⟩
  rw [List.nil_append] at h2
  have HW1c := Pk.mk (HW1b.out.off HW2b.out f2 Hne.out (fun j hj => by simp [Value.ownBlock]))
  replace B0 := Pk.mk (B0.out.trans ((f2.below HW2b.out Z4.out).mono S2.out))
  have HW2c := Pk.mk h2
  clear h2 f2 HW1b HW2b F1
  have hl1 := numB_len9 hm
  have hl2 := numB_len9 hk
  have hp1 := numB_pos m
  have hp2 := numB_pos k
  go_wp2_with fail
  have q := wdone_calls w1.heap.size g1 v1 (numB m) w5 HW1c.out (by omega)
  with_reducible refine q.mono ?_
  clear q
  rintro e w6 ⟨x, rfl, hx, hb⟩
  have HX := Pk.mk hx
  replace HW2c := Pk.mk (HW2c.out.mono hb)
  replace B0 := Pk.mk (B0.out.trans ((hb).mono B0.out.size))
  clear hb
  clear hx
  go_wp2_with fail
  have q := wdone_calls w2.heap.size g2 v2 (numB k) w6 HW2c.out (by omega)
  with_reducible refine q.mono ?_
  clear q
  rintro e w7 ⟨y, rfl, hy, hb⟩
  obtain ⟨X, cx, rfl, hcx, hcs, _⟩ := own_form HX.out
  obtain ⟨Y, cy, rfl, hcy, hds, _⟩ := own_form hy
  have RX := Pk.mk (show RB w7 X (numB m) from Cs.mono hcs hb)
  have RY := Pk.mk (show RB w7 Y (numB k) from hds)
  replace B0 := Pk.mk (B0.out.trans ((hb).mono B0.out.size))
  clear hb
  clear hcs hds hy HX HW1c HW2c
  by_cases hmk : m = k
  · subst hmk
    go_wp2_with fail
    have q := same_eq X (numB m).length cx Y cy (numB m) w7 rfl RX.out RY.out
    with_reducible refine q.mono ?_
    clear q
    rintro e w8 ⟨rfl, hw⟩
    obtain rfl := Eq.symm hw
    go_wp2
    go_ret
    exact ⟨rfl, B0.out⟩
  · have i1 : ((m : Int) == (k : Int)) = false := by rw [beq_eq_false_iff_ne]; omega
    have Hgt := Pk.mk (show k < m → (numB k).length ≤ (numB m).length from fun h => numB_mono m k (by omega))
    have Hlt := Pk.mk (show m < k → (numB m).length ≤ (numB k).length from fun h => numB_mono k m (by omega))
    have Htk := Pk.mk (numB_take hmk)
    have Hmk := Pk.mk hmk
    clear hmk
    obtain ⟨lm, Hlm⟩ : ∃ lm, Pk ((numB m).length = lm) := ⟨_, ⟨rfl⟩⟩
    obtain ⟨lk, Hlk⟩ : ∃ lk, Pk ((numB k).length = lk) := ⟨_, ⟨rfl⟩⟩
    rw [Hlm.out] at hl1 hp1 hcx ⊢
    rw [Hlk.out] at hl2 hp2 hcy ⊢
    obtain ⟨n, Hn⟩ : ∃ n, Pk (n = min lm lk ∧ n ≤ lm ∧ n ≤ lk) := ⟨_, ⟨rfl, Nat.min_le_left _ _, Nat.min_le_right _ _⟩⟩
    have hn1 : n ≤ cx := by have := Hn.out; omega
    have hn2 : n ≤ cy := by have := Hn.out; omega
    have hc1 : ∀ d, (convert 26 9 (.slice X n cx)).run Tryd.prog (w7.drewN d) = .ok (.string (bs ((numB m).take n))) (w7.drewN d) := fun d =>
      conv_bytes' (w := w7.drewN d) cx (by rw [List.length_take, Hlm.out]; have := Hn.out; omega) (rb_take RX.out n)
    have hc2 : ∀ d, (convert 26 9 (.slice Y n cy)).run Tryd.prog (w7.drewN d) = .ok (.string (bs ((numB k).take n))) (w7.drewN d) := fun d =>
      conv_bytes' (w := w7.drewN d) cy (by rw [List.length_take, Hlk.out]; have := Hn.out; omega) (rb_take RY.out n)
    have hbb : ((bs ((numB m).take n)).toList == (bs ((numB k).take n)).toList) = false := by
      rw [bs_beq]
      simp only [sameB, decide_eq_false_iff_not]
      exact Htk.out n (by rw [Hlm.out, Hlk.out]; exact Hn.out.1)
    generalize (numB m).take n = ta at *
    generalize (numB k).take n = tb at *
    by_cases hlt : m < k
    · have hle : lm ≤ lk := by rw [← Hlm.out, ← Hlk.out]; exact Hlt.out hlt
      obtain rfl : n = lm := by have := Hn.out; omega
      clear Htk
      go_wp2
      go_quiet (fail)
      go_wp2
      go_ret
      exact ⟨by first | rfl | simp, below_drewN B0.out _⟩
    · have hle : lk ≤ lm := by rw [← Hlm.out, ← Hlk.out]; exact Hgt.out (by have := Hmk.out; omega)
      obtain rfl : n = lk := by have := Hn.out; omega
      clear Htk
      by_cases hee : lm = n
      · subst hee
        go_wp2
        go_quiet (fail)
        go_wp2
        go_ret
        exact ⟨by first | rfl | simp, below_drewN B0.out _⟩
      · have hle2 : ¬ lm ≤ n := by omega
        go_wp2
        go_quiet (fail)
        go_wp2
        go_ret
        exact ⟨by first | rfl | simp, below_drewN B0.out _⟩

theorem wireNumbers_walk (E : Nat → Addr) (a b : Int) (w : World) (_hE : ErrW w E wErrs) (_wa : (Lit.int .i64 a).wf = true) (_wb : (Lit.int .i64 b).wf = true) :
    Calls Tryd.prog 3 #[.int .i64 a, .int .i64 b] w fun e w' => e = .returned (.bool true) ∧ Below w.heap.size w w' := wireNumbers_walk0 a b w
end Go.Proofs.YtdnmfgpladgjhaaDoor
