/- ShardsGrow walked. -/
import Derived.Test.YtejmbfoecacgmaaDoorShO
import Derived.Test.YtejmbfoecacgmaaDoorHead
import Derived.BigGuardPart
namespace Go.Proofs.YtejmbfoecacgmaaDoor
open Go Go.RowKit Go.Proofs.YtejmbfoecacgmaaDoor.Gf
set_option linter.unusedVariables false
set_option linter.unusedSimpArgs false

theorem halfV_mono {k : Int} {n m : Nat} (h1 : halfC k n = 0) (h2 : halfC k m = 0) (h : n ≤ m) : halfV k n ≤ halfV k m := by
  obtain ⟨k1, k2, _⟩ := half_ok h1
  rw [halfV, halfV, if_pos h1, if_pos h2]
  exact Int.ediv_le_ediv (by omega) (by omega)
theorem piece_pre {la lb : List F} {N o h : Nat} (ho : o + h ≤ la.length) : ((padB la N).drop o).take h = ((padB (la ++ lb) N).drop o).take h := by
  simp only [padB]
  rw [List.drop_append_of_le_length (by omega), List.take_append_of_le_length (by simp; omega)]
  rw [List.append_assoc, List.drop_append_of_le_length (by omega), List.take_append_of_le_length (by simp; omega)]
theorem own_empty (w : World) : (w.alloc (.cells #[] 5)).ownsRow w.heap.size 5 1 (.slice (some ⟨w.heap.size, 0, none⟩) 0 0) 0 (bvs []) :=
  own_of_blk (base := w.heap.size) (e := 5) (xs := []) (ex := []) (Nat.le_refl _) (heap_alloc_new w (.cells #[] 5)) (by unfold maxLen; simp)
theorem err_nil_eq {w : World} (E : Nat → Addr) (g : Nat) : (binOp .eql 27 (.iface 55 (.pointer (some (E g)))) .nilIface).run Tryd.prog w = .ok (.bool false) w :=
  run_eql_iface_nil_right (P := Tryd.prog) 55 (.pointer (some (E g))) Tryd.underlying27

theorem same_eq (A : Option Addr) (n ca : Nat) (B : Option Addr) (cb : Nat) (l : List F) (w : World) (hn : l.length = n) (ha : RB w A l) (hb : RB w B l) :
    Calls Tryd.prog 16 #[.slice A n ca, .slice B n cb] w fun e w' => e = .returned (.bool true) ∧ w' = w := by
  subst hn
  refine (same_calls A ca l B cb l w ha hb).mono ?_
  rintro e w' ⟨rfl, rfl⟩
  exact ⟨by rw [sameB_self], rfl⟩
/-- A quiet call behind draws. -/
theorem quiet_at {P : Program} {f : FuncId} {args : Array Value} {w : World} {v : Value} {q x : Nat} (h : Calls P f args (w.drewN (q + x)) fun e w' => e = .returned v ∧ w' = w.drewN (q + x)) :
    Calls P f args (w.drewN (q + x)) fun e w' => e = .returned v ∧ ∃ n, w' = w.drewN (q + n) := h.mono fun e w' ⟨he, hw⟩ => ⟨he, x, hw⟩
theorem split_any (E : Nat → Addr) (k : Int) (n : Nat) (A : Option Addr) (ca : Nat) (la : List F) (w : World) (hn : la.length = n) (hE : ErrW w E shErrs) (ha : RB w A la) (hl : n ≤ 9000000000000000000) :
    Calls Tryd.prog 10 #[.int .i64 k, .slice A n ca] w fun e w' => ∃ v x, e = .returned (.tuple #[v, x]) ∧ Below w.heap.size w w' := by
  subst hn
  by_cases h0 : halfC k la.length = 0
  · obtain ⟨kk, hh, rfl, hv⟩ := halfC_nat h0
    refine (split_ok E kk hh _ A ca la w hE ha h0 hv rfl).mono ?_
    rintro e w' ⟨g, v, rfl, _, _, _, hb⟩
    exact ⟨v, _, rfl, hb⟩
  · refine (split_err E k A ca la w hE h0 hl).mono ?_
    rintro e w' ⟨rfl, n, rfl⟩
    exact ⟨_, _, rfl, below_drew w n⟩
theorem split_err' (E : Nat → Addr) (k : Int) (n : Nat) (A : Option Addr) (ca : Nat) (la : List F) (w : World) (hn : la.length = n) (hE : ErrW w E shErrs) (h0 : halfC k la.length ≠ 0) (hl : la.length ≤ 9000000000000000000) :
    Calls Tryd.prog 10 #[.int .i64 k, .slice A n ca] w fun e w' => e = .returned (.tuple #[.slice none 0 0, errN E (halfC k la.length)]) ∧ Below w.heap.size w w' := by
  subst hn; exact qb (split_err E k A ca la w hE h0 hl)


set_option maxRecDepth 100000 in
set_option maxHeartbeats 4000000 in
theorem shardsGrow_err (E : Nat → Addr) (k : Int) (A : Option Addr) (ca : Nat) (la : List F) (B : Option Addr) (cb : Nat) (lb : List F) (w : World) (hE : ErrW w E shErrs) (ha : RB w A la) (hb : RB w B lb) (hU : la.length + lb.length ≤ 1048576) (h0 : halfC k la.length ≠ 0) :
    Calls Tryd.prog 4 #[.int .i64 k, .slice A la.length ca, .slice B lb.length cb] w fun e w' => e = .returned (.bool true) ∧ Below w.heap.size w w' := by
  have HE := Pk.mk hE
  have HA := Pk.mk ha
  have HB := Pk.mk hb
  have H0 := Pk.mk h0
  have B0 := Pk.mk (Below.refl w.heap.size w)
  clear hE ha hb h0
  go_enter Tryd.func4, Tryd.ntmps4
  go_wp2_with fail
  refine (alive06_calls E w HE.out).mono ?_
  rintro e w1 ⟨rfl, hb⟩
  replace HE := Pk.mk (HE.out.mono hb)
  replace HA := Pk.mk (HA.out.mono hb)
  replace HB := Pk.mk (HB.out.mono hb)
  replace B0 := Pk.mk (B0.out.trans ((hb).mono B0.out.size))
  clear hb
  go_wp2_with fail
  have q := qb (split_err E k A ca la w1 HE.out H0.out (by omega))
  with_reducible refine q.mono ?_
  clear q
  rintro e w2 ⟨rfl, hb⟩
  replace HE := Pk.mk (HE.out.mono hb)
  replace HA := Pk.mk (HA.out.mono hb)
  replace HB := Pk.mk (HB.out.mono hb)
  replace B0 := Pk.mk (B0.out.trans ((hb).mono B0.out.size))
  clear hb
  go_wp2_with ((with_reducible refine gate_b (b := .append) rfl ?_); refine Pk.out ?_)
  refine ⟨?_⟩
  refine app_bytes w2.heap.size _ 0 [] (own_empty w2) (by simp) A la.length ca la rfl (HA.out.mono (below_alloc _ _)) (by omega) rfl rfl rfl rfl ?_
  intro v3 w3 ho3 hb3 _
  have HO3 := Pk.mk (show w3.ownsRow w2.heap.size 5 1 v3 la.length (bvs la) by rw [Nat.zero_add, List.nil_append] at ho3; exact ho3)
  have B23 := Pk.mk ((below_alloc w2 (.cells #[] 5)).trans hb3)
  clear ho3 hb3
  go_wp2_with ((with_reducible refine gate_b (b := .append) rfl ?_); refine Pk.out ?_)
  refine ⟨?_⟩
  refine app_bytes w2.heap.size _ la.length la HO3.out B23.out.size B lb.length cb lb rfl (HB.out.mono B23.out) (by omega) rfl rfl rfl rfl ?_
  intro v4 w4 ho4 hb4 _
  have B24 := Pk.mk (B23.out.trans hb4)
  obtain ⟨X, cx, rfl, hcx, hcs, hxl⟩ := own_form ho4
  rw [bvs_length] at hxl
  have HX := Pk.mk (show RB w4 X (la ++ lb) from hcs)
  have hb := B24.out
  clear ho4 hb4 hcs B23 HO3
  replace HE := Pk.mk (HE.out.mono hb)
  replace HA := Pk.mk (HA.out.mono hb)
  replace HB := Pk.mk (HB.out.mono hb)
  replace B0 := Pk.mk (B0.out.trans ((hb).mono B0.out.size))
  clear hb
  go_wp2_with fail
  have q := split_any E k (la.length + lb.length) X cx (la ++ lb) w4 (by simp) HE.out HX.out (by omega)
  with_reducible refine q.mono ?_
  clear q
  rintro e w5 ⟨v5, x5, rfl, hb⟩
  replace HE := Pk.mk (HE.out.mono hb)
  replace HA := Pk.mk (HA.out.mono hb)
  replace HB := Pk.mk (HB.out.mono hb)
  replace B0 := Pk.mk (B0.out.trans ((hb).mono B0.out.size))
  clear hb
  have hne := fun g => err_neq_nil (w := w5) E g
  have heq := fun g => err_nil_eq (w := w5) E g
  have c20 := HE.out.cell 0 (by decide)
  have hlg := err_eql HE.out (g := 0) (h := 0) (by decide) (by decide)
  simp only [errV, beq_self_eq_true] at c20 hlg
  have hcs := halfC_cases k la.length
  obtain ⟨c, Hc⟩ : ∃ c, Pk (halfC k la.length = c) := ⟨_, ⟨rfl⟩⟩
  rw [Hc.out] at hcs ⊢
  rcases hcs with h | h | h | h
  · exact absurd (Hc.out.trans h) H0.out
  · subst h
    have hk : k < 1 ∨ 14 < k := by
      have h := Hc.out
      unfold halfC at h
      split at h
      · assumption
      · split at h
        · cases h
        · split at h <;> cases h
    clear Hc H0
    rw [errN_1]
    by_cases b1 : k < 1
    · go_wp2
      go_ret
      exact ⟨rfl, B0.out⟩
    · have b2 : 14 < k := by omega
      go_wp2
      go_ret
      exact ⟨rfl, B0.out⟩
  · subst h
    have hk : ¬ (k < 1 ∨ 14 < k) ∧ la.length = 0 := by
      have h := Hc.out
      unfold halfC at h
      split at h
      · cases h
      · split at h
        · exact ⟨by assumption, by omega⟩
        · split at h <;> cases h
    clear Hc H0
    rw [errN_12]
    have b1 : ¬ k < 1 := fun h => hk.1 (Or.inl h)
    have b2 : ¬ 14 < k := fun h => hk.1 (Or.inr h)
    have b3 := hk.2
    have i1 : ((la.length : Int) == 0) = true := by rw [b3]; rfl
    have i2 : la = [] := List.length_eq_zero_iff.1 b3
    clear hk b3
    go_wp2
    all_goals
      first | contradiction | skip
      go_ret
      exact ⟨by first | rfl | simp_all, B0.out⟩
  · subst h
    have hk : ¬ (k < 1 ∨ 14 < k) ∧ 2 * k * 64 < la.length := by
      have h := Hc.out
      unfold halfC at h
      split at h
      · cases h
      · split at h
        · cases h
        · split at h
          · exact ⟨by assumption, by assumption⟩
          · cases h
    clear Hc H0
    rw [errN_20]
    have b1 : ¬ k < 1 := fun h => hk.1 (Or.inl h)
    have b2 : ¬ 14 < k := fun h => hk.1 (Or.inr h)
    have b3 : 128 * k < la.length := by have := hk.2; omega
    have i1 : ((la.length : Int) == 0) = false := by rw [beq_eq_false_iff_ne]; omega
    have i2 : ¬ la = [] := fun h => by rw [h] at b3; simp at b3; omega
    clear hk
    go_wp2
    all_goals
      first | contradiction | skip
      go_ret
      exact ⟨by first | rfl | simp_all, B0.out⟩

set_option maxRecDepth 100000 in
set_option maxHeartbeats 4000000 in
theorem shardsGrow_ok (E : Nat → Addr) (kk hh : Nat) (A : Option Addr) (ca : Nat) (la : List F) (B : Option Addr) (cb : Nat) (lb : List F) (w : World) (hE : ErrW w E shErrs) (ha : RB w A la) (hb : RB w B lb) (hU : la.length + lb.length ≤ 1048576) (h0 : halfC kk la.length = 0) (hv : halfV kk la.length = hh) :
    Calls Tryd.prog 4 #[.int .i64 kk, .slice A la.length ca, .slice B lb.length cb] w fun e w' => e = .returned (.bool true) ∧ Below w.heap.size w w' := by
  obtain ⟨N, HN⟩ : ∃ N, Pk (N = 2 * kk) := ⟨_, ⟨rfl⟩⟩
  obtain ⟨k1, k2, s1, s2, v1, v2, m1, m2⟩ := half_ok h0
  rw [hv] at v1 v2 m1 m2
  have HE := Pk.mk hE
  have HA := Pk.mk ha
  have HB := Pk.mk hb
  have H0 := Pk.mk h0
  have HV := Pk.mk hv
  have B0 := Pk.mk (Below.refl w.heap.size w)
  clear hE ha hb h0 hv m1 m2
  go_enter Tryd.func4, Tryd.ntmps4
  go_wp2_with fail
  refine (alive06_calls E w HE.out).mono ?_
  rintro e w1 ⟨rfl, hb⟩
  replace HE := Pk.mk (HE.out.mono hb)
  replace HA := Pk.mk (HA.out.mono hb)
  replace HB := Pk.mk (HB.out.mono hb)
  replace B0 := Pk.mk (B0.out.trans ((hb).mono B0.out.size))
  clear hb
  go_wp2_with fail
  have q := split_ok' E kk hh (N * hh) la.length kk A ca la w1 rfl rfl HE.out HA.out H0.out HV.out (by rw [HN.out])
  with_reducible refine q.mono ?_
  clear q
  rintro e w2 ⟨g, v, rfl, hg, hB, ho, hb⟩
  replace HE := Pk.mk (HE.out.mono hb)
  replace HA := Pk.mk (HA.out.mono hb)
  replace HB := Pk.mk (HB.out.mono hb)
  replace B0 := Pk.mk (B0.out.trans ((hb).mono B0.out.size))
  clear hb
  rw [← HN.out] at ho
  obtain ⟨g2, ex, rfl, _, hrow, hxl, _⟩ := own_blk ho (Or.inl (by have := HN.out; omega))
  have HR := Pk.mk (show Blk w2 g2 _ from hrow)
  have HP := Pk.mk hB
  clear hg hB ho hrow hxl
  go_wp2_with ((with_reducible refine gate_b (b := .append) rfl ?_); refine Pk.out ?_)
  refine ⟨?_⟩
  refine app_bytes w2.heap.size _ 0 [] (own_empty w2) (by simp) A la.length ca la rfl (HA.out.mono (below_alloc _ _)) (by omega) rfl rfl rfl rfl ?_
  intro v3 w3 ho3 hb3 _
  have HO3 := Pk.mk (show w3.ownsRow w2.heap.size 5 1 v3 la.length (bvs la) by rw [Nat.zero_add, List.nil_append] at ho3; exact ho3)
  have B23 := Pk.mk ((below_alloc w2 (.cells #[] 5)).trans hb3)
  clear ho3 hb3
  go_wp2_with ((with_reducible refine gate_b (b := .append) rfl ?_); refine Pk.out ?_)
  refine ⟨?_⟩
  refine app_bytes w2.heap.size _ la.length la HO3.out B23.out.size B lb.length cb lb rfl (HB.out.mono B23.out) (by omega) rfl rfl rfl rfl ?_
  intro v4 w4 ho4 hb4 _
  have B24 := Pk.mk (B23.out.trans hb4)
  obtain ⟨X, cx, rfl, hcx, hcs, hxl⟩ := own_form ho4
  rw [bvs_length] at hxl
  have HX := Pk.mk (show RB w4 X (la ++ lb) from hcs)
  have hb := B24.out
  clear ho4 hb4 hcs B23 HO3
  replace HE := Pk.mk (HE.out.mono hb)
  replace HA := Pk.mk (HA.out.mono hb)
  replace HB := Pk.mk (HB.out.mono hb)
  replace HR := Pk.mk (HR.out.mono hb)
  replace HP := Pk.mk (HP.out.mono hb)
  replace B0 := Pk.mk (B0.out.trans ((hb).mono B0.out.size))
  clear hb
  have hlen : (la ++ lb).length = la.length + lb.length := by simp
  have HLen := Pk.mk hlen
  by_cases c0 : halfC kk (la ++ lb).length = 0
  · obtain ⟨h2, hv2⟩ : ∃ h2 : Nat, halfV kk (la ++ lb).length = h2 := by
      obtain ⟨_, _, _, _, u1, _⟩ := half_ok c0
      exact ⟨(halfV kk (la ++ lb).length).toNat, by omega⟩
    have hmono := halfV_mono (k := kk) H0.out c0 (by rw [hlen]; omega)
    rw [HV.out, hv2] at hmono
    obtain ⟨_, _, _, _, u1, u2, _⟩ := half_ok c0
    rw [hv2] at u1 u2
    have C0 := Pk.mk c0
    have HV2 := Pk.mk hv2
    clear c0 hv2 hlen
    go_wp2_with fail
    have q := split_ok' E kk h2 (N * h2) (la.length + lb.length) kk X cx (la ++ lb) w4 rfl HLen.out HE.out HX.out C0.out HV2.out (by rw [HN.out])
    with_reducible refine q.mono ?_
    clear q
    rintro e w5 ⟨g3, v5, rfl, hg, hB, ho, hb⟩
    replace HE := Pk.mk (HE.out.mono hb)
    replace HA := Pk.mk (HA.out.mono hb)
    replace HB := Pk.mk (HB.out.mono hb)
    replace HR := Pk.mk (HR.out.mono hb)
    replace HP := Pk.mk (HP.out.mono hb)
    replace B0 := Pk.mk (B0.out.trans ((hb).mono B0.out.size))
    clear hb
    rw [← HN.out] at ho
    obtain ⟨g4, ex4, rfl, _, hrow, hxl, _⟩ := own_blk ho (Or.inl (by have := HN.out; omega))
    have HR4 := Pk.mk (show Blk w5 g4 _ from hrow)
    have HP4 := Pk.mk hB
    clear hg hB ho hrow hxl hcx
    have f1 : ∀ n, (w5.drewN n).cell? ⟨g2, 0, none⟩ = some (.slice (some ⟨g, 0 * hh, none⟩) hh hh) := fun n => heads_at HR.out (t := 0) (by have := HN.out; omega)
    have f2 : ∀ n, (w5.drewN n).cell? ⟨g4, 0, none⟩ = some (.slice (some ⟨g3, 0 * h2, none⟩) h2 h2) := fun n => heads_at HR4.out (t := 0) (by have := HN.out; omega)
    have i1 : 2 * (kk : Int) = (N : Int) := by have := HN.out; omega
    have i2 : (0 : Int) < (N : Int) := by omega
    have i3 : ¬ (h2 : Int) < (hh : Int) := by omega
    have i4 : decide ((h2 : Int) < (hh : Int)) = false := by simp; omega
    by_cases hlt : hh < h2
    · go_wp2
      go_quiet (fail)
      go_wp2
      go_quiet (fail)
      go_wp2
      go_ret
      exact ⟨rfl, below_drewN (below_drewN B0.out _) _⟩
    · obtain rfl : h2 = hh := by omega
      go_wp2
      go_quiet (fail)
      go_wp2
      go_quiet (fail)
      go_wp2
      go_loopw [97] (fun x wr => ∃ t q : Nat, t ≤ N ∧ x = .int .i64 (t : Int) ∧ wr = w5.drewN q) (fun x _ => N - (intOf x).toNat)
      case atStart => exact ⟨0, _, Nat.zero_le _, rfl, rfl⟩
      case round =>
        obtain ⟨t, q, ht, rfl, rfl⟩ := hrel
        by_cases htl : t < N
        · obtain ⟨P, hPe⟩ : ∃ P, P = t * h2 := ⟨_, rfl⟩
          obtain ⟨R, hRe⟩ : ∃ R, R = P + h2 := ⟨_, rfl⟩
          have hRN : R ≤ N * h2 := by
            rw [hRe, hPe, ← Nat.succ_mul]; exact Nat.mul_le_mul_right _ htl
          have hN28 : N * h2 ≤ 28 * 64 := Nat.mul_le_mul (by have := HN.out; omega) (by omega)
          have q2 : ((t : Int) + 1) * (h2 : Int) = (R : Int) := by rw [hRe, hPe, Int.add_mul, Int.one_mul]; push_cast; rfl
          have e1 : ∀ n, (w5.drewN n).cell? ⟨g2, t, none⟩ = some (.slice (some ⟨g, P, none⟩) h2 h2) := fun n => by rw [hPe]; exact heads_at HR.out htl
          have e2 : ∀ n, (w5.drewN n).cell? ⟨g4, t, none⟩ = some (.slice (some ⟨g3, P, none⟩) h2 h2) := fun n => by rw [hPe]; exact heads_at HR4.out htl
          have Hcut := Pk.mk (show R ≤ la.length → ((padB la (N * h2)).drop P).take h2 = ((padB (la ++ lb) (N * h2)).drop P).take h2 from fun h => piece_pre (by omega))
          have Hpl := Pk.mk (show R ≤ la.length → (((padB la (N * h2)).drop P).take h2).length = h2 from fun h => by
            rw [List.length_take, List.length_drop, padB_length]; omega)
          have hRb : R ≤ 1792 := by omega
          have i5 : (t : Int) < (N : Int) := by omega
          have i6 : 0 < N := by omega
          have i2' : (0 : Int) < (N : Int) := by omega
          clear hRN hN28 hPe hRe
          by_cases hR : (R : Int) ≤ (la.length : Int)
          · have s1 := Hcut.out (by omega)
            have s2 := Hpl.out (by omega)
            have S1 := Pk.mk s1
            have S2 := Pk.mk s2
            clear s1 s2 Hcut Hpl
            have hR3 : decide (R ≤ la.length) = true := by simp; omega
            go_wp2
            go_quiet ((go_at_call 16; exact quiet_at (same_eq (some ⟨g, P, none⟩) h2 h2 (some ⟨g3, P, none⟩) h2 _ _ S2.out (BB.sub HP.out P h2) (by rw [S1.out]; exact BB.sub HP4.out P h2))))
            go_wp2
            go_roundw
            · exact ⟨t + 1, q + nq, by omega, by go_num, by first | rfl | simp [World.drewN, Nat.add_assoc]⟩
            · simp [intOf]; omega
          · have hR2 : decide (R ≤ la.length) = false := by simp; omega
            go_wp2
            go_quiet (fail)
            go_wp2
            go_roundw
            · exact ⟨t + 1, q + nq, by omega, by go_num, by first | rfl | simp [World.drewN, Nat.add_assoc]⟩
            · simp [intOf]; omega
        · go_wp2
          go_ret
          exact ⟨rfl, below_drewN B0.out _⟩
  · have C0 := Pk.mk c0
    clear c0 hlen
    go_wp2_with fail
    have q := split_err' E kk (la.length + lb.length) X cx (la ++ lb) w4 HLen.out HE.out C0.out (by omega)
    with_reducible refine q.mono ?_
    clear q
    rintro e w5 ⟨rfl, hb⟩
    replace HE := Pk.mk (HE.out.mono hb)
    replace HA := Pk.mk (HA.out.mono hb)
    replace HB := Pk.mk (HB.out.mono hb)
    replace HR := Pk.mk (HR.out.mono hb)
    replace HP := Pk.mk (HP.out.mono hb)
    replace B0 := Pk.mk (B0.out.trans ((hb).mono B0.out.size))
    clear hb
    have hne := fun g => err_neq_nil (w := w5) E g
    have hcs := halfC_cases kk (la ++ lb).length
    obtain ⟨c, Hc⟩ : ∃ c, Pk (halfC kk (la ++ lb).length = c) := ⟨_, ⟨rfl⟩⟩
    rw [Hc.out] at hcs ⊢
    rcases hcs with h | h | h | h
    · exact absurd (Hc.out.trans h) C0.out
    all_goals
      subst h
      clear Hc C0
      first | rw [errN_1] | rw [errN_12] | rw [errN_20]
      go_wp2
      go_ret
      exact ⟨rfl, B0.out⟩

theorem shardsGrow_walk (E : Nat → Addr) (k : Int) (A : Option Addr) (ca : Nat) (la : List F) (B : Option Addr) (cb : Nat) (lb : List F) (w : World) (hE : ErrW w E shErrs) (_wk : (Lit.int .i64 k).wf = true)
    (ha : RB w A la) (_ha : la.length ≤ ca) (_hla : la.length ≤ 140737488351232) (hb : RB w B lb) (_hb : lb.length ≤ cb) (_hlb : lb.length ≤ 140737488351232) (hU : la.length + lb.length ≤ 1048576) :
    Calls Tryd.prog 4 #[.int .i64 k, .slice A la.length ca, .slice B lb.length cb] w fun e w' => e = .returned (.bool true) ∧ Below w.heap.size w w' := by
  by_cases h0 : halfC k la.length = 0
  · obtain ⟨kk, hh, rfl, hv⟩ := halfC_nat h0
    exact shardsGrow_ok E kk hh A ca la B cb lb w hE ha hb hU h0 hv
  · exact shardsGrow_err E k A ca la B cb lb w hE ha hb hU h0
end Go.Proofs.YtejmbfoecacgmaaDoor
