/- Stripes, and the document's. -/
import Derived.Test.YtejmbfoecacgmaaDoorShD
import Derived.Test.YtejmbfoecacgmaaDoorInts
namespace Go.Proofs.YtejmbfoecacgmaaDoor
open Go Go.RowKit Go.Proofs.YtejmbfoecacgmaaDoor.Gf
set_option linter.unusedVariables false
set_option linter.unusedSimpArgs false

def strp (d size t : Nat) : List Int := (List.range t).map fun j => ((min (size - j * d) d : Nat) : Int)
theorem strp_length (d size t : Nat) : (strp d size t).length = t := by simp [strp]
theorem strp_succ (d size t : Nat) : strp d size (t + 1) = strp d size t ++ [((min (size - t * d) d : Nat) : Int)] := by simp [strp, List.range_succ]
def strpEnd (d size t : Nat) : Prop := size ≤ t * d ∧ (t = 0 ∨ (t - 1) * d < size)
theorem strpEnd_inj {d size t u : Nat} (h : strpEnd d size t) (k : strpEnd d size u) : t = u := by
  obtain ⟨h1, h2⟩ := h
  obtain ⟨k1, k2⟩ := k
  rcases Nat.lt_trichotomy t u with hlt | he | hlt
  · exfalso
    have : t * d ≤ (u - 1) * d := Nat.mul_le_mul_right _ (by omega)
    omega
  · exact he
  · exfalso
    have : u * d ≤ (t - 1) * d := Nat.mul_le_mul_right _ (by omega)
    omega
def stripC (k size : Int) : Nat := if k < 1 ∨ 14 < k then 1 else if size < 0 then 12 else if 4096 < size then 20 else 0
theorem stripC_cases (k size : Int) : stripC k size = 0 ∨ stripC k size = 1 ∨ stripC k size = 12 ∨ stripC k size = 20 := by
  unfold stripC; split
  · simp
  · split
    · simp
    · split <;> simp

theorem stripes_err (E : Nat → Addr) (k size : Int) (w : World) (hE : ErrW w E shErrs) (h0 : stripC k size ≠ 0) :
    Calls Tryd.prog 21 #[.int .i64 k, .int .i64 size] w fun e w' => e = .returned (.tuple #[.slice none 0 0, errN E (stripC k size)]) ∧ ∃ n, w' = w.drewN n := by
  have c0 := hE.cell 12 (by decide)
  have c1 := hE.cell 0 (by decide)
  have HE := Pk.mk hE
  clear hE
  simp only [errV] at c0 c1
  have hn := fun (w : World) (g : Nat) => err_neq_nil (w := w) E g
  by_cases h1 : k < 1 ∨ 14 < k
  · have e1 : stripC k size = 1 := by simp [stripC, h1]
    rw [e1, errN_1]
    clear e1 h0
    go_enter Tryd.func21, Tryd.ntmps21
    go_wp2_with fail
    refine (params_calls E k w HE.out).mono ?_
    rw [if_pos h1, errN_1]
    rintro e w' ⟨rfl, n, rfl⟩
    go_wp2
    go_ret2
    exact ⟨rfl, n, rfl⟩
  · by_cases h2 : size < 0
    · have e1 : stripC k size = 12 := by simp [stripC, h1, h2]
      rw [e1, errN_12]
      clear e1 h0
      go_enter Tryd.func21, Tryd.ntmps21
      go_wp2_with fail
      refine (params_calls E k w HE.out).mono ?_
      rw [if_neg h1, errN_0]
      rintro e w' ⟨rfl, n, rfl⟩
      go_wp2
      go_quiet (fail)
      go_wp2
      go_ret2
      exact ⟨rfl, n + nq, by first | rfl | simp [World.drewN, Nat.add_assoc]⟩
    · by_cases h3 : 4096 < size
      · have e1 : stripC k size = 20 := by simp [stripC, h1, h2, h3]
        rw [e1, errN_20]
        clear e1 h0
        go_enter Tryd.func21, Tryd.ntmps21
        go_wp2_with fail
        refine (params_calls E k w HE.out).mono ?_
        rw [if_neg h1, errN_0]
        rintro e w' ⟨rfl, n, rfl⟩
        go_wp2
        go_quiet (fail)
        go_wp2
        go_ret2
        exact ⟨rfl, n + nq, by first | rfl | simp [World.drewN, Nat.add_assoc]⟩
      · exact absurd (by simp [stripC, h1, h2, h3]) h0

set_option maxRecDepth 100000 in
set_option maxHeartbeats 4000000 in
theorem stripes_ok (E : Nat → Addr) (kk size : Nat) (w : World) (hE : ErrW w E shErrs) (h0 : stripC kk size = 0) :
    Calls Tryd.prog 21 #[.int .i64 kk, .int .i64 size] w fun e w' => ∃ t v, e = .returned (.tuple #[v, .nilIface]) ∧ strpEnd (128 * kk) size t ∧ w'.ownsRow w.heap.size 3 1 v t (ivs (strp (128 * kk) size t)) ∧ Below w.heap.size w w' := by
  obtain ⟨iI, hiI, hy0, hy1, hy2⟩ := infoI
  have h1 : ¬((kk : Int) < 1 ∨ 14 < (kk : Int)) := fun h => by simp [stripC, h] at h0
  have k1 : 1 ≤ kk := by omega
  have k2 : kk ≤ 14 := by omega
  have s2 : size ≤ 4096 := by
    rcases Nat.lt_or_ge 4096 size with h | h
    · have h2 : ¬ ((size : Int) < 0) := by omega
      have h3 : (4096 : Int) < size := by omega
      simp [stripC, h1, h2, h3] at h0
    · exact h
  go_enter Tryd.func21, Tryd.ntmps21
  go_wp2_with fail
  refine (params_calls E kk w hE).mono ?_
  rw [if_neg h1, errN_0]
  rintro e w1 ⟨rfl, n1, rfl⟩
  clear hE h0 h1
  go_wp2
  go_loopw [1, 7] (fun s o wr => ∃ t m : Nat, t ≤ 4096 ∧ s = .int .i64 (m : Int) ∧ Pk (m = size - t * (128 * kk)) ∧ Pk (t = 0 ∨ (t - 1) * (128 * kk) < size) ∧ Pk (wr.ownsRow w.heap.size 3 1 o t (ivs (strp (128 * kk) size t))) ∧ Pk (Below w.heap.size w wr)) (fun s _ _ => (intOf s).toNat)
  case atStart => exact ⟨0, size, by omega, rfl, ⟨by omega⟩, ⟨Or.inl rfl⟩, ⟨World.ownsRow_nil _ _ _ _⟩, ⟨below_drewN (Below.refl _ _) _⟩⟩
  case round =>
    obtain ⟨t, m, ht, rfl, Hm, Ht, HO, Hb⟩ := hrel
    by_cases hl : 0 < m
    · have Hn := Pk.mk (strp_succ (128 * kk) size t)
      have hmb : m ≤ 4096 := by have := Hm.out; omega
      have ht1 : t * (128 * kk) < size := by have := Hm.out; omega
      have Ht1 := Pk.mk (show t + 1 = 0 ∨ (t + 1 - 1) * (128 * kk) < size from Or.inr (by rw [Nat.add_sub_cancel]; exact ht1))
      have Ht2 := Pk.mk (show t + 1 ≤ 4096 by
        have : t * 1 ≤ t * (128 * kk) := Nat.mul_le_mul_left _ (by omega)
        omega)
      rcases Nat.lt_or_ge (128 * kk) m with hc | hc
      · obtain ⟨q, hq⟩ : ∃ q : Nat, q = 128 * kk := ⟨_, rfl⟩
        have hV : 2 * (kk : Int) * 64 = (q : Int) := by omega
        have Hq := Pk.mk (show ((min (size - t * (128 * kk)) (128 * kk) : Nat) : Int) = (q : Int) by rw [← Hm.out, hq, Nat.min_eq_right (Nat.le_of_lt hc)])
        have Hm2 := Pk.mk (show m - q = size - (t + 1) * (128 * kk) by have := Hm.out; rw [Nat.add_mul, Nat.one_mul]; omega)
        have hlt : q < m := by omega
        clear hq hc ht1 hl
        go_wp2_with (first | ((with_reducible refine gate_b (b := .append) (xs := #[.tmp 29, .tmp 31]) rfl ?_); refine Pk.out ?_))
        refine ⟨?_⟩
        refine wpList_append_src rfl (.tmp 29) (.tmp 31) 46 rfl w.heap.size 3 iI (.int .i64 0) 8 Tryd.underlying46 hiI hy0 hy1 hy2 rfl _ t (ivs (strp (128 * kk) size t)) rfl (own_below HO.out (below_alloc _ _)) (some ⟨_, 0, none⟩) 1 1 [.int .i64 (q : Int)] rfl rfl (Cs.of_blk (ex := []) (heap_alloc_new _ _)) (by intro u hu; simp only [List.mem_singleton] at hu; subst hu; rfl) (by unfold maxLen; omega) (by omega) (Nat.le_trans Hb.out.size (by simp)) ?_
        intro v2 w2 hown hgr
        have HO2 := Pk.mk (show w2.ownsRow w.heap.size 3 1 v2 (t + 1) (ivs (strp (128 * kk) size (t + 1))) by rw [Hn.out, ivs_append, Hq.out]; exact hown)
        have Hb2 := Pk.mk ((Hb.out.alloc Hb.out.size _).grown hgr (Nat.le_trans Hb.out.size (by simp)) (fun k hk => (HO.out.lt k hk).1))
        clear hown hgr HO Hb Hn Hq
        go_wp2
        go_roundw
        · exact ⟨t + 1, m - q, Ht2.out, by congr 1; omega, Hm2, Ht1, HO2, Hb2⟩
        · simp [intOf]; omega
      · obtain ⟨q, hq⟩ : ∃ q : Nat, q = m := ⟨_, rfl⟩
        have Hq := Pk.mk (show ((min (size - t * (128 * kk)) (128 * kk) : Nat) : Int) = (q : Int) by rw [← Hm.out, hq, Nat.min_eq_left hc])
        have Hm2 := Pk.mk (show m - q = size - (t + 1) * (128 * kk) by have := Hm.out; rw [Nat.add_mul, Nat.one_mul]; omega)
        subst hq
        clear ht1
        go_wp2_with (first | ((with_reducible refine gate_b (b := .append) (xs := #[.tmp 29, .tmp 31]) rfl ?_); refine Pk.out ?_))
        refine ⟨?_⟩
        refine wpList_append_src rfl (.tmp 29) (.tmp 31) 46 rfl w.heap.size 3 iI (.int .i64 0) 8 Tryd.underlying46 hiI hy0 hy1 hy2 rfl _ t (ivs (strp (128 * kk) size t)) rfl (own_below HO.out (below_alloc _ _)) (some ⟨_, 0, none⟩) 1 1 [.int .i64 (q : Int)] rfl rfl (Cs.of_blk (ex := []) (heap_alloc_new _ _)) (by intro u hu; simp only [List.mem_singleton] at hu; subst hu; rfl) (by unfold maxLen; omega) (by omega) (Nat.le_trans Hb.out.size (by simp)) ?_
        intro v2 w2 hown hgr
        have HO2 := Pk.mk (show w2.ownsRow w.heap.size 3 1 v2 (t + 1) (ivs (strp (128 * kk) size (t + 1))) by rw [Hn.out, ivs_append, Hq.out]; exact hown)
        have Hb2 := Pk.mk ((Hb.out.alloc Hb.out.size _).grown hgr (Nat.le_trans Hb.out.size (by simp)) (fun k hk => (HO.out.lt k hk).1))
        clear hown hgr HO Hb Hn Hq
        go_wp2
        go_roundw
        · exact ⟨t + 1, q - q, Ht2.out, by congr 1; omega, Hm2, Ht1, HO2, Hb2⟩
        · simp [intOf]; omega
    · have hm0 : m = 0 := by omega
      subst hm0
      have he : size ≤ t * (128 * kk) := by have := Hm.out; omega
      go_wp2
      go_ret2
      exact ⟨t, _, rfl, ⟨he, Ht.out⟩, HO.out, Hb.out⟩
end Go.Proofs.YtejmbfoecacgmaaDoor
