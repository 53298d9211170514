/- ShardsBack walked. -/
import Derived.Test.YtejmbfoecacgmaaDoorShO
namespace Go.Proofs.YtejmbfoecacgmaaDoor
open Go Go.RowKit Go.Proofs.YtejmbfoecacgmaaDoor.Gf
set_option linter.unusedVariables false
set_option linter.unusedSimpArgs false

theorem stripC_ok {k : Int} {n : Nat} (h : stripC k n = 0) : 1 ≤ k ∧ k ≤ 14 ∧ n ≤ 4096 := by
  unfold stripC at h
  split at h
  · cases h
  · split at h
    · cases h
    · split at h
      · cases h
      · omega
theorem stripC_bad {k : Int} {n : Nat} (h : stripC k n ≠ 0) : k < 1 ∨ 14 < k ∨ (4096 : Int) < n := by
  unfold stripC at h
  split at h
  · omega
  · split at h
    · omega
    · split at h
      · omega
      · exact absurd rfl h
theorem strp_halfC {kk n T t : Nat} (h : strpEnd (128 * kk) n T) (k1 : 1 ≤ kk) (k2 : kk ≤ 14) (ht : t < T) : halfC kk ((min (n - t * (128 * kk)) (128 * kk) : Nat)) = 0 :=
  half_of_stripe (by omega) (by omega) (strp_entry h ht).1 (by have := Nat.min_le_right (n - t * (128 * kk)) (128 * kk); omega)
/-- The sum so far. -/
theorem sum_step (d size t : Nat) : min size (t * d) + min (size - t * d) d = min size ((t + 1) * d) := by
  rw [Nat.add_mul, Nat.one_mul]; omega


set_option maxRecDepth 100000 in
set_option maxHeartbeats 4000000 in
theorem shardsBack_err (E : Nat → Addr) (k : Int) (A : Option Addr) (ca : Nat) (la : List F) (w : World) (hE : ErrW w E shErrs) (ha : RB w A la) (hla : la.length ≤ 140737488351232) (h0 : halfC k la.length ≠ 0) :
    Calls Tryd.prog 7 #[.int .i64 k, .slice A la.length ca] w fun e w' => e = .returned (.bool true) ∧ Below w.heap.size w w' := by
  have HE := Pk.mk hE
  have HA := Pk.mk ha
  have H0 := Pk.mk h0
  have B0 := Pk.mk (Below.refl w.heap.size w)
  clear hE ha h0
  go_enter Tryd.func7, Tryd.ntmps7
  go_wp2_with fail
  refine (alive06_calls E w HE.out).mono ?_
  rintro e w1 ⟨rfl, hb⟩
  replace HE := Pk.mk (HE.out.mono hb)
  replace HA := Pk.mk (HA.out.mono hb)
  replace B0 := Pk.mk (B0.out.trans ((hb).mono B0.out.size))
  clear hb
  go_wp2_with fail
  have q := qb (split_err E k A ca la w1 HE.out H0.out (by omega))
  with_reducible refine q.mono ?_
  clear q
  rintro e w9 ⟨rfl, hb⟩
  replace HE := Pk.mk (HE.out.mono hb)
  replace HA := Pk.mk (HA.out.mono hb)
  replace B0 := Pk.mk (B0.out.trans ((hb).mono B0.out.size))
  clear hb
  have hne := fun g => run_eql_iface_nil_right (P := Tryd.prog) (w := w9) (ti := 27) 55 (.pointer (some (E g))) Tryd.underlying27
  have hcs := halfC_cases k la.length
  obtain ⟨c, Hc⟩ : ∃ c, Pk (halfC k la.length = c) := ⟨_, ⟨rfl⟩⟩
  rw [Hc.out] at hcs ⊢
  rcases hcs with h | h | h | h
  · exact absurd (Hc.out.trans h) H0.out
  all_goals
    subst h
    clear Hc
    first | rw [errN_1] | rw [errN_12] | rw [errN_20]
    go_wp2_with fail
    clear hne
    by_cases s0 : stripC k la.length = 0
    · obtain ⟨k1, k2, s2⟩ := stripC_ok s0
      obtain ⟨kk, rfl⟩ : ∃ kk : Nat, k = kk := ⟨k.toNat, by omega⟩
      go_wp2_with fail
      have q := stripes_ok E kk la.length w9 HE.out s0
      with_reducible refine q.mono ?_
      clear q
      rintro e w10 ⟨T, v9, rfl, hend, ho, hb⟩
      replace HE := Pk.mk (HE.out.mono hb)
      replace B0 := Pk.mk (B0.out.trans ((hb).mono B0.out.size))
      clear hb
      obtain ⟨X, cx, rfl, hcx, hcs, _⟩ := own_form ho
      have HI := Pk.mk (show IB w10 X (strp (128 * kk) la.length T) from hcs)
      have HD := Pk.mk hend
      clear hcx hcs ho hend
      have hT : T ≤ 5000 := by
        rcases HD.out.2 with h | h
        · omega
        · have : (T - 1) * 1 ≤ (T - 1) * (128 * kk) := Nat.mul_le_mul_left _ (by omega)
          omega
      go_wp2
      go_loopw [10, 84] (fun s n wr => ∃ t m : Nat, t ≤ T ∧ n = .int .i64 (t : Int) ∧ s = .int .i64 (m : Int) ∧ m ≤ 4096 ∧ Pk (m = min la.length (t * (128 * kk))) ∧ Pk (IB wr X (strp (128 * kk) la.length T)) ∧ Pk (ErrW wr E shErrs) ∧ Pk (Below w.heap.size w wr)) (fun _ n _ => T - (intOf n).toNat)
      case atStart => exact ⟨0, 0, Nat.zero_le _, rfl, rfl, by omega, ⟨by simp⟩, HI, HE, B0⟩
      case round =>
        clear HI HE B0 HA
        obtain ⟨t, m, ht, rfl, rfl, hm, Hm, HI, HE, B0⟩ := hrel
        by_cases hl : t < T
        · obtain ⟨q, Hq⟩ : ∃ q : Nat, Pk (q = min (la.length - t * (128 * kk)) (128 * kk)) := ⟨_, ⟨rfl⟩⟩
          obtain ⟨a, hXa, hcell⟩ := IB.at HI.out (j := t) (by rw [strp_length]; exact hl)
          rw [strp_get _ _ _ _ hl, ← Hq.out] at hcell
          subst hXa
          have e1 : halfC kk q = 0 := by rw [Hq.out]; exact strp_halfC HD.out (by omega) (by omega) hl
          have hm2 : m + q ≤ 4096 := by
            have := sum_step (128 * kk) la.length t
            rw [← Hm.out, ← Hq.out] at this
            omega
          have Hm2 := Pk.mk (show m + q = min la.length ((t + 1) * (128 * kk)) by rw [← sum_step, ← Hm.out, ← Hq.out])
          have hq1 := (strp_entry HD.out hl).1
          rw [← Hq.out] at hq1
          have hq2 : q ≤ 128 * kk := by rw [Hq.out]; exact Nat.min_le_right _ _
          have Hq3 := Pk.mk (show t + 1 < T → q = 128 * kk by rw [Hq.out]; exact (strp_entry HD.out hl).2)
          have E1 := Pk.mk e1
          clear e1 Hq
          go_wp2_with fail
          have hq := half_calls E kk q wr HE.out (by omega)
          rw [E1.out, errN_0] at hq
          with_reducible refine (qb hq).mono ?_
          clear hq
          rintro e w11 ⟨rfl, hb⟩
          replace HI := Pk.mk (show IB w11 _ _ from Cs.mono HI.out hb)
          replace HE := Pk.mk (HE.out.mono hb)
          replace B0 := Pk.mk (B0.out.trans ((hb).mono B0.out.size))
          clear hb
          by_cases hlast : t + 1 < T
          · have hqe := Hq3.out hlast
            have i1 : (t : Int) < (T : Int) - 1 := by omega
            have i2 : (q : Int) = 128 * (kk : Int) := by omega
            clear hqe
            go_wp2
            go_roundw
            · exact ⟨t + 1, m + q, by omega, by go_num, by go_num, hm2, Hm2, HI, HE, B0⟩
            · simp [intOf]; omega
          · have i1 : ¬ (t : Int) < (T : Int) - 1 := by omega
            go_wp2
            go_roundw
            · exact ⟨t + 1, m + q, by omega, by go_num, by go_num, hm2, Hm2, HI, HE, B0⟩
            · simp [intOf]; omega
        · have hte : t = T := by omega
          subst hte
          have hfin : m = la.length := by rw [Hm.out]; exact Nat.min_eq_left HD.out.1
          subst hfin
          go_wp2
          go_ret
          exact ⟨by first | rfl | simp, B0.out⟩
    · go_wp2_with fail
      have q := qb (stripes_err E k la.length w9 HE.out s0)
      with_reducible refine q.mono ?_
      clear q
      rintro e w10 ⟨rfl, hb⟩
      replace HE := Pk.mk (HE.out.mono hb)
      replace B0 := Pk.mk (B0.out.trans ((hb).mono B0.out.size))
      clear hb
      have hne := fun g => err_neq_nil (w := w10) E g
      have hbad := stripC_bad s0
      have hcs := stripC_cases k la.length
      obtain ⟨c, Hc⟩ : ∃ c, Pk (stripC k la.length = c) := ⟨_, ⟨rfl⟩⟩
      rw [Hc.out] at hcs ⊢
      rcases hcs with h | h | h | h
      · exact absurd (Hc.out.trans h) s0
      all_goals
        subst h
        clear Hc
        first | rw [errN_1] | rw [errN_12] | rw [errN_20]
        by_cases b1 : k < 1
        · go_wp2
          go_ret
          exact ⟨rfl, B0.out⟩
        · by_cases b2 : 14 < k
          · go_wp2
            go_ret
            exact ⟨rfl, B0.out⟩
          · have b3 : (4096 : Int) < la.length := by omega
            go_wp2
            go_ret
            exact ⟨rfl, B0.out⟩

set_option maxRecDepth 100000 in
set_option maxHeartbeats 4000000 in
theorem shardsBack_ok (E : Nat → Addr) (kk hh : Nat) (A : Option Addr) (ca : Nat) (la : List F) (w : World) (hE : ErrW w E shErrs) (ha : RB w A la) (hla : la.length ≤ 140737488351232) (h0 : halfC kk la.length = 0) (hv : halfV kk la.length = hh) :
    Calls Tryd.prog 7 #[.int .i64 kk, .slice A la.length ca] w fun e w' => e = .returned (.bool true) ∧ Below w.heap.size w w' := by
  obtain ⟨N, HN⟩ : ∃ N, Pk (N = 2 * kk) := ⟨_, ⟨rfl⟩⟩
  obtain ⟨k1, k2, s1, s2, v1, v2, m1, m2⟩ := half_ok h0
  rw [hv] at v1 v2 m1 m2
  have HE := Pk.mk hE
  have HA := Pk.mk ha
  have H0 := Pk.mk h0
  have HV := Pk.mk hv
  have HM := Pk.mk (And.intro m1 m2)
  have B0 := Pk.mk (Below.refl w.heap.size w)
  clear hE ha h0 hv m1 m2
  go_enter Tryd.func7, Tryd.ntmps7
  go_wp2_with fail
  refine (alive06_calls E w HE.out).mono ?_
  rintro e w1 ⟨rfl, hb⟩
  replace HE := Pk.mk (HE.out.mono hb)
  replace HA := Pk.mk (HA.out.mono hb)
  replace B0 := Pk.mk (B0.out.trans ((hb).mono B0.out.size))
  clear hb
  go_wp2_with fail
  have q := split_ok' E kk hh (N * hh) la.length kk A ca la w1 rfl rfl HE.out HA.out H0.out HV.out (by rw [HN.out])
  with_reducible refine q.mono ?_
  clear q
  rintro e w2 ⟨g, v, rfl, hg, hB, ho, hb⟩
  replace HE := Pk.mk (HE.out.mono hb)
  replace HA := Pk.mk (HA.out.mono hb)
  replace B0 := Pk.mk (B0.out.trans ((hb).mono B0.out.size))
  clear hb
  have HP := Pk.mk (show N * hh ≤ (padB la (N * hh)).length by rw [padB_length]; exact Nat.le_max_right _ _)
  rw [← HN.out] at ho
  obtain ⟨g2, ex, rfl, _, hrow, hxl, _⟩ := own_blk ho (Or.inl (by have := HN.out; omega))
  have HR := Pk.mk (show Blk w2 g2 _ from hrow)
  have HBB := Pk.mk hB
  clear hg hB ho hrow hxl
  have hLL := heads_LL HR.out HP.out HBB.out
  go_wp2_with fail
  have q := join_ok E kk hh la.length N (some ⟨g2, 0, none⟩) (N + ex.length) (pieces g hh (padB la (N * hh)) N) w2 HE.out hLL.1 hLL.2 (pieces_len HP.out) (pieces_length _ _ _ _) HN.out H0.out HV.out
  with_reducible refine q.mono ?_
  clear q
  rintro e w3 ⟨v3, rfl, ho3, hb⟩
  replace HE := Pk.mk (HE.out.mono hb)
  replace HA := Pk.mk (HA.out.mono hb)
  replace HR := Pk.mk (HR.out.mono hb)
  replace HBB := Pk.mk (HBB.out.mono hb)
  replace B0 := Pk.mk (B0.out.trans ((hb).mono B0.out.size))
  clear hb
  obtain ⟨X, cx, rfl, hcx, hcs, _⟩ := own_form ho3
  have hle : la.length ≤ N * hh := by
    have h1 := HM.out.1
    have e : ((N * hh : Nat) : Int) = 2 * (kk : Int) * (hh : Int) := by rw [HN.out]; push_cast; rfl
    rw [← e] at h1
    exact Int.ofNat_le.1 h1
  have HJ : (joined (pieces g hh (padB la (N * hh)) N) N).take la.length = la := by
    rw [pieces_joined HP.out N (Nat.le_refl _), List.take_take, Nat.min_eq_left hle]
    exact padB_take _ _
  rw [HJ] at hcs
  have r1 := conv_bytes' cx rfl (show RB w3 X la from hcs)
  have r2 := conv_bytes' ca rfl HA.out
  have hbb : ((bs la).toList == (bs la).toList) = true := beq_self_eq_true _
  have f0 := heads_at HR.out (t := 0) (by have := HN.out; omega)
  rw [Nat.zero_mul] at f0
  have i1 : 2 * (kk : Int) = (N : Int) := by have := HN.out; omega
  have i2 : (1 : Int) ≤ (N : Int) := by omega
  have hm := mul_bound (k := kk) (j := hh) (by omega) (by omega) (by omega) (by omega)
  have q2 : 2 * (kk : Int) * ((hh : Int) - 1) = 2 * (kk : Int) * (hh : Int) - 2 * (kk : Int) := by rw [Int.mul_sub, Int.mul_one]
  have q1 : (N : Int) * ((hh : Int) - 1) < la.length := by rw [← i1, q2]; have := HM.out; omega
  have q3 : 0 ≤ (N : Int) * ((hh : Int) - 1) := Int.mul_nonneg (by omega) (by omega)
  clear HJ hle hcs ho3 hLL hm q2
  have s0 := half_stripe H0.out
  have s2 := (stripC_ok s0).2.2

  go_wp2_with fail
  have q := stripes_ok E kk la.length w3 HE.out s0
  with_reducible refine q.mono ?_
  clear q
  rintro e w10 ⟨T, v9, rfl, hend, ho, hb⟩
  replace HE := Pk.mk (HE.out.mono hb)
  replace B0 := Pk.mk (B0.out.trans ((hb).mono B0.out.size))
  clear hb
  obtain ⟨X, cx, rfl, hcx, hcs, _⟩ := own_form ho
  have HI := Pk.mk (show IB w10 X (strp (128 * kk) la.length T) from hcs)
  have HD := Pk.mk hend
  clear hcx hcs ho hend
  have hT : T ≤ 5000 := by
    rcases HD.out.2 with h | h
    · omega
    · have : (T - 1) * 1 ≤ (T - 1) * (128 * kk) := Nat.mul_le_mul_left _ (by omega)
      omega
  go_wp2
  go_loopw [10, 84] (fun s n wr => ∃ t m : Nat, t ≤ T ∧ n = .int .i64 (t : Int) ∧ s = .int .i64 (m : Int) ∧ m ≤ 4096 ∧ Pk (m = min la.length (t * (128 * kk))) ∧ Pk (IB wr X (strp (128 * kk) la.length T)) ∧ Pk (ErrW wr E shErrs) ∧ Pk (Below w.heap.size w wr)) (fun _ n _ => T - (intOf n).toNat)
  case atStart => exact ⟨0, 0, Nat.zero_le _, rfl, rfl, by omega, ⟨by simp⟩, HI, HE, B0⟩
  case round =>
    clear HI HE B0 HA
    obtain ⟨t, m, ht, rfl, rfl, hm, Hm, HI, HE, B0⟩ := hrel
    by_cases hl : t < T
    · obtain ⟨q, Hq⟩ : ∃ q : Nat, Pk (q = min (la.length - t * (128 * kk)) (128 * kk)) := ⟨_, ⟨rfl⟩⟩
      obtain ⟨a, hXa, hcell⟩ := IB.at HI.out (j := t) (by rw [strp_length]; exact hl)
      rw [strp_get _ _ _ _ hl, ← Hq.out] at hcell
      subst hXa
      have e1 : halfC kk q = 0 := by rw [Hq.out]; exact strp_halfC HD.out (by omega) (by omega) hl
      have hm2 : m + q ≤ 4096 := by
        have := sum_step (128 * kk) la.length t
        rw [← Hm.out, ← Hq.out] at this
        omega
      have Hm2 := Pk.mk (show m + q = min la.length ((t + 1) * (128 * kk)) by rw [← sum_step, ← Hm.out, ← Hq.out])
      have hq1 := (strp_entry HD.out hl).1
      rw [← Hq.out] at hq1
      have hq2 : q ≤ 128 * kk := by rw [Hq.out]; exact Nat.min_le_right _ _
      have Hq3 := Pk.mk (show t + 1 < T → q = 128 * kk by rw [Hq.out]; exact (strp_entry HD.out hl).2)
      have E1 := Pk.mk e1
      clear e1 Hq
      go_wp2_with fail
      have hq := half_calls E kk q wr HE.out (by omega)
      rw [E1.out, errN_0] at hq
      with_reducible refine (qb hq).mono ?_
      clear hq
      rintro e w11 ⟨rfl, hb⟩
      replace HI := Pk.mk (show IB w11 _ _ from Cs.mono HI.out hb)
      replace HE := Pk.mk (HE.out.mono hb)
      replace B0 := Pk.mk (B0.out.trans ((hb).mono B0.out.size))
      clear hb
      by_cases hlast : t + 1 < T
      · have hqe := Hq3.out hlast
        have i1 : (t : Int) < (T : Int) - 1 := by omega
        have i2 : (q : Int) = 128 * (kk : Int) := by omega
        clear hqe
        go_wp2
        go_roundw
        · exact ⟨t + 1, m + q, by omega, by go_num, by go_num, hm2, Hm2, HI, HE, B0⟩
        · simp [intOf]; omega
      · have i1 : ¬ (t : Int) < (T : Int) - 1 := by omega
        go_wp2
        go_roundw
        · exact ⟨t + 1, m + q, by omega, by go_num, by go_num, hm2, Hm2, HI, HE, B0⟩
        · simp [intOf]; omega
    · have hte : t = T := by omega
      subst hte
      have hfin : m = la.length := by rw [Hm.out]; exact Nat.min_eq_left HD.out.1
      subst hfin
      go_wp2
      go_ret
      exact ⟨by first | rfl | simp, B0.out⟩

theorem shardsBack_walk (E : Nat → Addr) (k : Int) (A : Option Addr) (ca : Nat) (la : List F) (w : World) (hE : ErrW w E shErrs) (_wk : (Lit.int .i64 k).wf = true) (ha : RB w A la) (_hc : la.length ≤ ca) (hla : la.length ≤ 140737488351232) :
    Calls Tryd.prog 7 #[.int .i64 k, .slice A la.length ca] w fun e w' => e = .returned (.bool true) ∧ Below w.heap.size w w' := by
  by_cases h0 : halfC k la.length = 0
  · obtain ⟨kk, hh, rfl, hv⟩ := halfC_nat h0
    exact shardsBack_ok E kk hh A ca la w hE ha hla h0 hv
  · exact shardsBack_err E k A ca la w hE ha hla h0
end Go.Proofs.YtejmbfoecacgmaaDoor
