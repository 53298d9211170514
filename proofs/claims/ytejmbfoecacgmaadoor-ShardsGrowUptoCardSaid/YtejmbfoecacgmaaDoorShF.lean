/- The document's Stripes. -/
import Derived.Test.YtejmbfoecacgmaaDoorShE
namespace Go.Proofs.YtejmbfoecacgmaaDoor
open Go Go.RowKit Go.Proofs.YtejmbfoecacgmaaDoor.Gf
set_option linter.unusedVariables false
set_option linter.unusedSimpArgs false

theorem refStripes_err (k size : Int) (w : World) (h0 : stripC k size ≠ 0) :
    Calls Tryd.prog 22 #[.int .i64 k, .int .i64 size] w fun e w' => e = .returned (.tuple #[.slice none 0 0, .int .i64 (stripC k size : Nat)]) ∧ w' = w := by
  by_cases h1 : k < 1 ∨ 14 < k
  · have e1 : stripC k size = 1 := by simp [stripC, h1]
    rw [e1]
    clear e1 h0
    go_enter Tryd.func22, Tryd.ntmps22
    rcases h1 with h1 | h1
    · go_wp2
      go_ret2
      exact ⟨rfl, rfl⟩
    · by_cases hk : k < 1
      · omega
      · go_wp2
        go_ret2
        exact ⟨rfl, rfl⟩
  · by_cases h2 : size < 0
    · have e1 : stripC k size = 12 := by simp [stripC, h1, h2]
      rw [e1]
      clear e1 h0
      have k1 : ¬ k < 1 := fun h => h1 (Or.inl h)
      have k2 : ¬ 14 < k := fun h => h1 (Or.inr h)
      go_enter Tryd.func22, Tryd.ntmps22
      go_wp2
      go_ret2
      exact ⟨rfl, rfl⟩
    · by_cases h3 : 4096 < size
      · have e1 : stripC k size = 20 := by simp [stripC, h1, h2, h3]
        rw [e1]
        clear e1 h0
        have k1 : ¬ k < 1 := fun h => h1 (Or.inl h)
        have k2 : ¬ 14 < k := fun h => h1 (Or.inr h)
        go_enter Tryd.func22, Tryd.ntmps22
        go_wp2
        go_ret2
        exact ⟨rfl, rfl⟩
      · exact absurd (by simp [stripC, h1, h2, h3]) h0

set_option maxRecDepth 100000 in
set_option maxHeartbeats 4000000 in
theorem refStripes_ok (kk size : Nat) (w : World) (h0 : stripC kk size = 0) :
    Calls Tryd.prog 22 #[.int .i64 kk, .int .i64 size] w fun e w' => ∃ t v, e = .returned (.tuple #[v, .int .i64 0]) ∧ strpEnd (128 * kk) size t ∧ w'.ownsRow w.heap.size 3 1 v t (ivs (strp (128 * kk) size t)) ∧ Below w.heap.size w w' := by
  obtain ⟨iI, hiI, hy0, hy1, hy2⟩ := infoI
  have h1 : ¬((kk : Int) < 1 ∨ 14 < (kk : Int)) := fun h => by simp [stripC, h] at h0
  have k1 : 1 ≤ kk := by omega
  have k2 : kk ≤ 14 := by omega
  have s2 : size ≤ 4096 := by
    rcases Nat.lt_or_ge 4096 size with h | h
    · have h2 : ¬ ((size : Int) < 0) := by omega
      have h3 : (4096 : Int) < size := by omega
      simp [stripC, h1, h2, h3] at h0
    · exact h
  clear h0 h1
  have HO0 := Pk.mk (own_of_blk (base := w.heap.size) (e := 3) (xs := []) (ex := []) (Nat.le_refl _) (heap_alloc_new w (.cells #[] 3)) (by unfold maxLen; simp))
  go_enter Tryd.func22, Tryd.ntmps22
  go_wp2
  go_loopw [7, 6] (fun s o wr => ∃ t m : Nat, t ≤ 4096 ∧ s = .int .i64 (m : Int) ∧ m ≤ 6000 ∧ Pk (m = t * (128 * kk)) ∧ Pk (t = 0 ∨ (t - 1) * (128 * kk) < size) ∧ Pk (wr.ownsRow w.heap.size 3 1 o t (ivs (strp (128 * kk) size t))) ∧ Pk (Below w.heap.size w wr)) (fun s _ _ => size - (intOf s).toNat)
  case atStart => exact ⟨0, 0, by omega, rfl, by omega, ⟨by omega⟩, ⟨Or.inl rfl⟩, HO0, ⟨below_alloc _ _⟩⟩
  case round =>
    clear HO0
    obtain ⟨t, m, ht, rfl, hmb, Hm, Ht, HO, Hb⟩ := hrel
    by_cases hl : m < size
    · have Hn := Pk.mk (strp_succ (128 * kk) size t)
      have ht1 : t * (128 * kk) < size := by have := Hm.out; omega
      have Ht1 := Pk.mk (show t + 1 = 0 ∨ (t + 1 - 1) * (128 * kk) < size from Or.inr (by rw [Nat.add_sub_cancel]; exact ht1))
      have Ht2 := Pk.mk (show t + 1 ≤ 4096 by
        have : t * 1 ≤ t * (128 * kk) := Nat.mul_le_mul_left _ (by omega)
        omega)
      have Hm2 := Pk.mk (show m + 128 * kk = (t + 1) * (128 * kk) by rw [Nat.add_mul, Nat.one_mul, Hm.out])
      rcases Nat.lt_or_ge (128 * kk) (size - m) with hc | hc
      · obtain ⟨q, hq⟩ : ∃ q : Nat, q = 128 * kk := ⟨_, rfl⟩
        have Hq := Pk.mk (show ((min (size - t * (128 * kk)) (128 * kk) : Nat) : Int) = (q : Int) by rw [← Hm.out, hq, Nat.min_eq_right (Nat.le_of_lt hc)])
        have hc2 : 128 * (kk : Int) < (size : Int) - (m : Int) := by omega
        clear ht1
        go_wp2_with (first | ((with_reducible refine gate_b (b := .append) (xs := #[.tmp 26, .tmp 33]) rfl ?_); refine Pk.out ?_))
        refine ⟨?_⟩
        have HV := Pk.mk (show (128 * (kk : Int)) = (q : Int) by omega)
        rw [HV.out]
        refine wpList_append_src rfl (.tmp 26) (.tmp 33) 46 rfl w.heap.size 3 iI (.int .i64 0) 8 Tryd.underlying46 hiI hy0 hy1 hy2 rfl _ t (ivs (strp (128 * kk) size t)) rfl (own_below HO.out (below_alloc _ _)) (some ⟨_, 0, none⟩) 1 1 [.int .i64 (q : Int)] rfl rfl (Cs.of_blk (ex := []) (heap_alloc_new _ _)) (by intro u hu; simp only [List.mem_singleton] at hu; subst hu; rfl) (by unfold maxLen; omega) (by omega) (Nat.le_trans Hb.out.size (by simp)) ?_
        intro v2 w2 hown hgr
        have HO2 := Pk.mk (show w2.ownsRow w.heap.size 3 1 v2 (t + 1) (ivs (strp (128 * kk) size (t + 1))) by rw [Hn.out, ivs_append, Hq.out]; exact hown)
        have Hb2 := Pk.mk ((Hb.out.alloc Hb.out.size _).grown hgr (Nat.le_trans Hb.out.size (by simp)) (fun k hk => (HO.out.lt k hk).1))
        clear hown hgr HO Hb Hn Hq hc hq HV
        go_wp2
        go_roundw
        · exact ⟨t + 1, m + 128 * kk, Ht2.out, by congr 1, by omega, Hm2, Ht1, HO2, Hb2⟩
        · simp [intOf]; omega
      · obtain ⟨q, hq⟩ : ∃ q : Nat, q = size - m := ⟨_, rfl⟩
        have Hq := Pk.mk (show ((min (size - t * (128 * kk)) (128 * kk) : Nat) : Int) = (q : Int) by rw [← Hm.out, hq, Nat.min_eq_left hc])
        have hc2 : ¬ 128 * (kk : Int) < (size : Int) - (m : Int) := by omega
        clear ht1
        go_wp2_with (first | ((with_reducible refine gate_b (b := .append) (xs := #[.tmp 26, .tmp 33]) rfl ?_); refine Pk.out ?_))
        refine ⟨?_⟩
        have HV := Pk.mk (show ((size : Int) - (m : Int)) = (q : Int) by omega)
        rw [HV.out]
        refine wpList_append_src rfl (.tmp 26) (.tmp 33) 46 rfl w.heap.size 3 iI (.int .i64 0) 8 Tryd.underlying46 hiI hy0 hy1 hy2 rfl _ t (ivs (strp (128 * kk) size t)) rfl (own_below HO.out (below_alloc _ _)) (some ⟨_, 0, none⟩) 1 1 [.int .i64 (q : Int)] rfl rfl (Cs.of_blk (ex := []) (heap_alloc_new _ _)) (by intro u hu; simp only [List.mem_singleton] at hu; subst hu; rfl) (by unfold maxLen; omega) (by omega) (Nat.le_trans Hb.out.size (by simp)) ?_
        intro v2 w2 hown hgr
        have HO2 := Pk.mk (show w2.ownsRow w.heap.size 3 1 v2 (t + 1) (ivs (strp (128 * kk) size (t + 1))) by rw [Hn.out, ivs_append, Hq.out]; exact hown)
        have Hb2 := Pk.mk ((Hb.out.alloc Hb.out.size _).grown hgr (Nat.le_trans Hb.out.size (by simp)) (fun k hk => (HO.out.lt k hk).1))
        clear hown hgr HO Hb Hn Hq hc hq HV
        go_wp2
        go_roundw
        · exact ⟨t + 1, m + 128 * kk, Ht2.out, by congr 1, by omega, Hm2, Ht1, HO2, Hb2⟩
        · simp [intOf]; omega
    · have he : size ≤ t * (128 * kk) := by have := Hm.out; omega
      go_wp2
      go_ret2
      exact ⟨t, _, rfl, ⟨he, Ht.out⟩, HO.out, Hb.out⟩
end Go.Proofs.YtejmbfoecacgmaaDoor
