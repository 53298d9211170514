/- shards.Split. -/
import Derived.Test.YtejmbfoecacgmaaDoorShB
namespace Go.Proofs.YtejmbfoecacgmaaDoor
open Go Go.RowKit Go.Proofs.YtejmbfoecacgmaaDoor.Gf
set_option linter.unusedVariables false
set_option linter.unusedSimpArgs false

theorem half_ok {k size : Int} (h : halfC k size = 0) : 1 ≤ k ∧ k ≤ 14 ∧ 1 ≤ size ∧ size ≤ 1792 ∧ 1 ≤ halfV k size ∧ halfV k size ≤ 64 ∧ size ≤ 2 * k * halfV k size ∧ 2 * k * halfV k size < size + 2 * k := by
  have hv : halfV k size = (size + 2 * k - 1) / (2 * k) := by simp [halfV, h]
  unfold halfC at h
  split at h
  · cases h
  · split at h
    · cases h
    · split at h
      · cases h
      · have hk1 : 1 ≤ k := by omega
        have hk2 : k ≤ 14 := by omega
        have hd : 0 < 2 * k := by omega
        have e := Int.mul_ediv_add_emod (size + 2 * k - 1) (2 * k)
        have m1 := Int.emod_nonneg (size + 2 * k - 1) (show 2 * k ≠ 0 by omega)
        have m2 := Int.emod_lt_of_pos (size + 2 * k - 1) hd
        rw [← hv] at e
        refine ⟨hk1, hk2, by omega, by omega, ?_, ?_, by omega, by omega⟩
        · rcases Int.lt_or_le (halfV k size) 1 with hlt | hge
          · have : 2 * k * halfV k size ≤ 2 * k * 0 := Int.mul_le_mul_of_nonneg_left (by omega) (by omega)
            omega
          · exact hge
        · rcases Int.lt_or_le 64 (halfV k size) with hlt | hge
          · have : 2 * k * 65 ≤ 2 * k * halfV k size := Int.mul_le_mul_of_nonneg_left (by omega) (by omega)
            omega
          · exact hge

def padB (a : List F) (n : Nat) : List F := a ++ List.replicate (n - a.length) 0
theorem padB_length (a : List F) (n : Nat) : (padB a n).length = max a.length n := by simp [padB]; omega
theorem splice_padB (la : List F) (N : Nat) (hN : la.length ≤ N) : splice (bvs (List.replicate N 0)) 0 (bvs la) = bvs (padB la N) := by
  simp only [splice, padB, bvs_append, List.take_zero, List.nil_append, Nat.zero_add, bvs_length]
  congr 1
  simp only [bvs, List.map_replicate, List.drop_replicate]
/-- The headers of the first t halves. -/
def heads (g h t : Nat) : List Value := (List.range t).map fun v => .slice (some ⟨g, v * h, none⟩) h h
theorem heads_length (g h t : Nat) : (heads g h t).length = t := by simp [heads]
theorem heads_succ (g h t : Nat) : heads g h (t + 1) = heads g h t ++ [.slice (some ⟨g, t * h, none⟩) h h] := by simp [heads, List.range_succ]

theorem infoB : ∃ i, Tryd.prog.info? 22 = some i ∧ i.zero = some (.slice none 0 0) ∧ i.size = 1 ∧ i.bytes = 24 := by
  have h : (Tryd.prog.info? 22).map (fun i => (i.zero, i.size, i.bytes)) = some (some (.slice none 0 0), 1, 24) := by kernel_rfl
  cases e : Tryd.prog.info? 22 with
  | none => rw [e] at h; cases h
  | some i => rw [e] at h; simp at h; exact ⟨i, rfl, h.1, h.2.1, h.2.2⟩

set_option maxRecDepth 100000 in
set_option maxHeartbeats 4000000 in
theorem split_ok (E : Nat → Addr) (kk hh N : Nat) (A : Option Addr) (ca : Nat) (la : List F) (w : World) (hE : ErrW w E shErrs) (ha : RB w A la) (h0 : halfC kk la.length = 0) (hv : halfV kk la.length = hh) (hN : N = 2 * kk * hh) :
    Calls Tryd.prog 10 #[.int .i64 kk, .slice A la.length ca] w fun e w' => ∃ g v, e = .returned (.tuple #[v, .nilIface]) ∧ w.heap.size ≤ g ∧ BB w' g (padB la N) ∧ w'.ownsRow w.heap.size 22 1 v (2 * kk) (heads g hh (2 * kk)) ∧ Below w.heap.size w w' := by
  obtain ⟨i8, hi, hz0, hz1, hz2⟩ := info_parts info8
  obtain ⟨iB, hiB, hy0, hy1, hy2⟩ := infoB
  obtain ⟨k1, k2, s1, s2, v1, v2, m1, m2⟩ := half_ok h0
  rw [hv] at v1 v2 m1 m2
  have hNi : 2 * (kk : Int) * (hh : Int) = (N : Int) := by rw [hN]; push_cast; rfl
  have hNb : N ≤ 1820 := by
    have : 2 * kk * hh ≤ 2 * 14 * 65 := Nat.mul_le_mul (by omega) (by omega)
    omega
  rw [hNi] at m1 m2
  have HA := Pk.mk ha
  have HS := Pk.mk size8
  have HN := Pk.mk hN
  clear ha hN
  go_enter Tryd.func10, Tryd.ntmps10
  go_wp2_with fail
  refine (half_calls E kk la.length w hE (by omega)).mono ?_
  rw [h0, hv, errN_0]
  rintro e w1 ⟨rfl, n1, rfl⟩
  clear hE h0 hv
  go_wp2_with (first
      | (at_make; go_loud (refine wpList_make_full _ rfl (.tmp 24) (.tmp 24) 22 rfl w.heap.size 5 i8 (.int .u8 0) 1 Tryd.underlying22 hi hz0 hz1 .i64 .i64 _ _ _ rfl rfl rfl rfl (by rw [hz2]; omega) (by unfold maxLen; omega) (Nat.le_refl _) ?_; intro w1 hown hgr; have HBB := Pk.mk (BB.of_zeros hown).1; have Hb := Pk.mk ((below_drewN (Below.refl w.heap.size w) n1).trans (below_made hgr)); clear hown hgr))
      | ((with_reducible refine gate_b (b := .copy) (xs := #[.tmp 26, .tmp 27]) rfl ?_); go_loud (refine wpList_copy_splice rfl (.tmp 26) (.tmp 27) 22 22 rfl 5 Tryd.underlying22 HS.out _ A _ _ la.length ca rfl rfl w.heap.size 0 _ 5 HBB.out (bvs la) (by rw [bvs_length]; show _ = min _ _; omega) (fun hp => ⟨rfl, (HA.out.mono Hb.out).some hp⟩) (by simp [bvs]; try omega) (bvs_one _) w.heap.size w Hb.out (Nat.le_refl _) ?_; intro w2 hg2 hb2; have HB2 := Pk.mk (show BB w2 w.heap.size (padB la N) from (by have e := hg2.out; rw [splice_padB la N (by omega)] at e; exact e)); have Hb2 := Pk.mk hb2; clear hg2 hb2 HBB Hb)))
  go_loopw [31, 9] (fun n o wr => ∃ t : Nat, t ≤ 2 * kk ∧ n = .int .i64 (t : Int) ∧ Pk (wr.ownsRow (w.heap.size + 1) 22 1 o t (heads w.heap.size hh t)) ∧ Pk (BB wr w.heap.size (padB la N)) ∧ Pk (Below w.heap.size w wr)) (fun n _ _ => 2 * kk - (intOf n).toNat)
  case atStart => exact ⟨0, Nat.zero_le _, rfl, ⟨World.ownsRow_nil _ _ _ _⟩, HB2, Hb2⟩
  case round =>
    clear HB2 Hb2
    obtain ⟨t, ht, rfl, HO, HB, Hb⟩ := hrel
    by_cases hl : t < 2 * kk
    · obtain ⟨P, HP⟩ : ∃ P, Pk (P = t * hh) := ⟨_, ⟨rfl⟩⟩
      obtain ⟨R, HR⟩ : ∃ R, Pk (R = P + hh) := ⟨_, ⟨rfl⟩⟩
      have q1 : (t : Int) * (hh : Int) = (P : Int) := by rw [HP.out]; push_cast; rfl
      have q2 : ((t : Int) + 1) * (hh : Int) = (R : Int) := by rw [HR.out, HP.out, Int.add_mul, Int.one_mul]; push_cast; rfl
      have q3 : P < R := by rw [HR.out]; omega
      have q5 : R - P = hh := by rw [HR.out]; omega
      have q4 : R ≤ N := by
        rw [HR.out, HP.out, HN.out, ← Nat.succ_mul]
        exact Nat.mul_le_mul_right _ hl
      go_wp2_with (first | ((with_reducible refine gate_b (b := .append) (xs := #[.tmp 34, .tmp 48]) rfl ?_); refine Pk.out ?_))
      refine ⟨?_⟩
      refine wpList_append_src rfl (.tmp 34) (.tmp 48) 25 rfl (w.heap.size + 1) 22 iB (.slice none 0 0) 24 Tryd.underlying25 hiB hy0 hy1 hy2 rfl _ t (heads w.heap.size hh t) rfl (own_below HO.out (below_alloc _ _)) (some ⟨_, 0, none⟩) 1 1 [.slice (some ⟨w.heap.size, P, none⟩) hh hh] rfl rfl (Cs.of_blk (ex := []) (heap_alloc_new _ _)) (by intro u hu; simp only [List.mem_singleton] at hu; subst hu; rfl) (by unfold maxLen; omega) (by omega) (Nat.le_trans HB.out.lt (by simp)) ?_
      intro v2 w2 hown hgr
      have HO2 := Pk.mk (show w2.ownsRow (w.heap.size + 1) 22 1 v2 (t + 1) (heads w.heap.size hh (t + 1)) by rw [heads_succ, ← HP.out]; exact hown)
      have Hb2 := Pk.mk ((Hb.out.alloc Hb.out.size _).grown hgr (Nat.le_trans Hb.out.size (by simp)) (fun k hk => Nat.le_of_succ_le (HO.out.lt k hk).1))
      have HB2 := Pk.mk (show BB w2 w.heap.size (padB la N) from (hgr.block w.heap.size (by have := HB.out.lt; simp; omega) (fun e => by have := (HO.out.lt _ e.symm).1; omega)).trans (HB.out.below (below_alloc _ _)))
      clear hown hgr HO HB Hb q1 q2 q3 q4 q5 HP HR
      go_wp2
      go_roundw
      · exact ⟨t + 1, by omega, by go_num, HO2, HB2, Hb2⟩
      · simp [intOf]; omega
    · have ht2 : t = 2 * kk := by omega
      subst ht2
      go_wp2
      go_ret2
      exact ⟨_, _, rfl, Nat.le_refl _, HB.out, own_low HO.out (Nat.le_succ _), Hb.out⟩
end Go.Proofs.YtejmbfoecacgmaaDoor
