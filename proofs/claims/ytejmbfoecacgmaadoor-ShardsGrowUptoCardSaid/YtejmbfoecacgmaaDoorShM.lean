/- The document's Split, where it splits. -/
import Derived.Test.YtejmbfoecacgmaaDoorShL
namespace Go.Proofs.YtejmbfoecacgmaaDoor
open Go Go.RowKit Go.Proofs.YtejmbfoecacgmaaDoor.Gf
set_option linter.unusedVariables false
set_option linter.unusedSimpArgs false

theorem refSplit_err (k : Int) (A : Option Addr) (ca : Nat) (la : List F) (w : World) (h0 : halfC k la.length ≠ 0) (hl : la.length ≤ 9000000000000000000) :
    Calls Tryd.prog 11 #[.int .i64 k, .slice A la.length ca] w fun e w' => e = .returned (.tuple #[.slice none 0 0, .int .i64 (halfC k la.length : Nat)]) ∧ w' = w := by
  have hv : halfV k la.length = 0 := by simp [halfV, h0]
  rcases halfC_cases k la.length with h | h | h | h
  · exact absurd h h0
  all_goals
    go_enter Tryd.func11, Tryd.ntmps11
    go_wp2_with fail
    refine (refHalf_calls k la.length w).mono ?_
    rw [h, hv]
    rintro e w' ⟨rfl, rfl⟩
    go_wp2
    go_ret2
    exact ⟨by rw [h]; rfl, rfl⟩

theorem make_bytes {w : World} {ops : Array Oper} {rest : List Oper} {o : Oper} {a : Act} {Q : Exit → Act → World → Prop} (n : Nat) (hn : n ≤ 140737488355328) (hgd : o.guard = none) {x y : Operand} (ho : o.op = .makeSlice 22 x y)
    (hx : a.eval x = .int .i64 n) (hy : a.eval y = .int .i64 n)
    (h : ∀ w', BB w' w.heap.size (List.replicate n 0) → Below w.heap.size w w' → wpList Tryd.prog ops Q rest (a.put o.dst (.slice (some ⟨w.heap.size, 0, none⟩) n n)) w') : wpList Tryd.prog ops Q (o :: rest) a w := by
  obtain ⟨i8, hi, hz0, hz1, hz2⟩ := info_parts info8
  refine wpList_make_full _ hgd x y 22 ho w.heap.size 5 i8 (.int .u8 0) 1 Tryd.underlying22 hi hz0 hz1 .i64 .i64 _ _ _ hx hy rfl rfl (by rw [hz2]; omega) (by unfold maxLen; omega) (Nat.le_refl _) ?_
  intro w' hown hgr
  exact h w' (BB.of_zeros hown).1 (below_made hgr)

/-- Lists that lie in whole blocks of bytes. -/
def BBs (w : World) (K : List Sh) : Prop := ∀ x ∈ K, ∃ g, x.1 = some ⟨g, 0, none⟩ ∧ BB w g x.2.2
theorem BBs.rbs {w : World} {K : List Sh} (h : BBs w K) : rbs w K := fun x hx => by
  obtain ⟨g, hg, hB⟩ := h x hx
  rw [hg]; exact hB.rb
theorem BBs.nil (w : World) : BBs w [] := fun x hx => by simp at hx
theorem BBs.mono {w w' : World} {K : List Sh} (h : BBs w K) (hb : Below w.heap.size w w') : BBs w' K := fun x hx => by
  obtain ⟨g, hg, hB⟩ := h x hx
  exact ⟨g, hg, hB.below hb⟩
theorem own_ne {w : World} {base n g : Nat} {v : Value} {xs : List Value} {l : List F} (h : w.ownsRow base 22 1 v n xs) (hB : BB w g l) : v.ownBlock ≠ some g := by
  rcases h.2 with ⟨rfl, _⟩ | ⟨g', cap, cur, rfl, _, hh, _⟩
  · simp [Value.ownBlock]
  · intro e
    simp only [Value.ownBlock, Option.some.injEq] at e
    subst e
    have := hh.symm.trans hB
    simp at this
theorem BBs.keep {w w' : World} {K : List Sh} {base n : Nat} {v : Value} {xs : List Value} (h : BBs w K) (ho : w.ownsRow base 22 1 v n xs) (hk : ∀ k, k < w.heap.size → v.ownBlock ≠ some k → w'.heap[k]? = w.heap[k]?) : BBs w' K := fun x hx => by
  obtain ⟨g, hg, hB⟩ := h x hx
  exact ⟨g, hg, (hk g hB.lt (own_ne ho hB)).trans hB⟩
theorem BBs.snoc {w : World} {K : List Sh} {g c : Nat} {l : List F} (h : BBs w K) (hB : BB w g l) : BBs w (K ++ [(some ⟨g, 0, none⟩, c, l)]) := fun x hx => by
  rcases List.mem_append.1 hx with hx | hx
  · exact h x hx
  · rw [List.mem_singleton.1 hx]; exact ⟨g, rfl, hB⟩

set_option maxRecDepth 100000 in
set_option maxHeartbeats 4000000 in
theorem refSplit_ok (kk hh N : Nat) (A : Option Addr) (ca : Nat) (la : List F) (w : World) (ha : RB w A la) (h0 : halfC kk la.length = 0) (hv : halfV kk la.length = hh) (hN : N = 2 * kk * hh) :
    Calls Tryd.prog 11 #[.int .i64 kk, .slice A la.length ca] w fun e w' => ∃ B d K, e = .returned (.tuple #[.slice B (2 * kk) d, .int .i64 0]) ∧ LL w' B K ∧ K.length = 2 * kk ∧ lists K = halves hh (padB la N) (2 * kk) ∧ Below w.heap.size w w' := by
  obtain ⟨k1, k2, s1, s2, v1, v2, m1, m2⟩ := half_ok h0
  rw [hv] at v1 v2 m1 m2
  have hNi : 2 * (kk : Int) * (hh : Int) = (N : Int) := by rw [hN]; push_cast; rfl
  have hNb : N ≤ 1820 := by
    have : 2 * kk * hh ≤ 2 * 14 * 65 := Nat.mul_le_mul (by omega) (by omega)
    omega
  rw [hNi] at m1 m2
  have HA := Pk.mk ha
  have HN := Pk.mk hN
  clear ha hN hNi
  have HO0 := Pk.mk (own_of_blk (base := w.heap.size) (e := 22) (xs := []) (ex := []) (Nat.le_refl _) (heap_alloc_new w (.cells #[] 22)) (by unfold maxLen; simp))
  go_enter Tryd.func11, Tryd.ntmps11
  go_wp2_with fail
  refine (refHalf_calls kk la.length w).mono ?_
  rw [h0, hv]
  rintro e w1 ⟨rfl, hw1⟩
  obtain rfl := Eq.symm hw1
  clear h0 hv
  go_wp2
  go_loopw [9, 8] (fun n o wr => ∃ (t : Nat) (K : List Sh), t ≤ 2 * kk ∧ n = .int .i64 (t : Int) ∧ Pk (wr.ownsRow w.heap.size 22 1 o t (K.map hdr)) ∧ Pk (BBs wr K) ∧ Pk (lists K = halves hh (padB la N) t) ∧ Pk (Below w.heap.size w wr)) (fun n _ _ => 2 * kk - (intOf n).toNat)
  case atStart => exact ⟨0, [], Nat.zero_le _, rfl, HO0, ⟨BBs.nil _⟩, ⟨rfl⟩, ⟨below_alloc _ _⟩⟩
  case round =>
    clear HO0
    obtain ⟨t, K, ht, rfl, HO, HR, HK, Hb⟩ := hrel
    obtain ⟨wo, rfl⟩ : ∃ wo : World, wo = wr := ⟨_, rfl⟩
    by_cases hl : t < 2 * kk
    · obtain ⟨P, HP⟩ : ∃ P, Pk (P = t * hh) := ⟨_, ⟨rfl⟩⟩
      have q1 : (t : Int) * (hh : Int) = (P : Int) := by rw [HP.out]; push_cast; rfl
      have q4 : P + hh ≤ N := by
        rw [HP.out, HN.out, ← Nat.succ_mul]
        exact Nat.mul_le_mul_right _ hl
      go_wp2_with (at_make; refine Pk.out ?_)
      refine ⟨?_⟩
      refine make_bytes hh (by omega) rfl rfl rfl rfl ?_
      intro w2 hB hb
      have HB := Pk.mk (show BB w2 wo.heap.size (fillB (padB la N) P hh 0) by rw [fillB_zero]; exact hB)
      have Hw := Pk.mk hb
      clear hB hb
      go_wp2
      go_loopw [11] (fun n w3 => ∃ j : Nat, j ≤ hh ∧ n = .int .i64 (j : Int) ∧ Pk (BB w3 wo.heap.size (fillB (padB la N) P hh j)) ∧ Pk (Below wo.heap.size wo w3)) (fun n _ => hh - (intOf n).toNat)
      case atStart => exact ⟨0, Nat.zero_le _, rfl, HB, Hw⟩
      case round =>
        clear HB Hw
        obtain ⟨j, hj, rfl, HB, Hw⟩ := hrel
        by_cases hjl : j < hh
        · by_cases hc : P + j < la.length
          · obtain ⟨a, rfl, hcell⟩ := RB.at ((HA.out.mono Hb.out).mono Hw.out) hc
            have hlen := fillB_length (padB la N) P hh j (by omega) (by rw [padB_length]; omega)
            have hcc := HB.out.cell (j := j) (by rw [hlen]; exact hjl)
            have hcf := HB.out.free j
            have hs := HB.out.set j la[P + j]
            have hp2 : P + j < (padB la N).length := by rw [padB_length]; omega
            rw [← padB_get la N (P + j) hc hp2, fillB_set _ _ _ _ hjl (by rw [padB_length]; omega), padB_get la N (P + j) hc hp2] at hs
            have HS := Pk.mk hs
            generalize la[P + j] = x at hcell HS
            clear hs hp2
            go_wp2
            go_roundw
            · exact ⟨j + 1, by omega, by go_num, HS, ⟨Hw.out.setCell (by simp) _⟩⟩
            · simp [intOf]; omega
          · have hf := fillB_pad la N P hh j hjl q4 (by omega) (by omega)
            have HS := Pk.mk (show BB wr wo.heap.size (fillB (padB la N) P hh (j + 1)) by rw [← hf]; exact HB.out)
            clear hf
            go_wp2
            go_roundw
            · exact ⟨j + 1, by omega, by go_num, HS, Hw⟩
            · simp [intOf]; omega
        · have hje : j = hh := by omega
          subst hje
          rw [fillB_full] at HB
          rename_i w3 _
          have HL := Pk.mk (show ((padB la N).drop P |>.take j).length = j by rw [List.length_take, List.length_drop, padB_length]; omega)
          go_wp2_with ((with_reducible refine gate_b (b := .append) rfl ?_); refine Pk.out ?_)
          refine ⟨?_⟩
          refine push_list w.heap.size _ t (K.map hdr) (own_below HO.out Hw.out) (Nat.le_trans Hb.out.size Hw.out.size) _ j j (by omega) rfl rfl rfl rfl ?_
          intro v4 w4 hown hb hk
          have hO3 := own_below HO.out Hw.out
          have hR3 := HR.out.mono Hw.out
          have HO2 := Pk.mk (show w4.ownsRow w.heap.size 22 1 v4 (t + 1) ((K ++ [((some ⟨wo.heap.size, 0, none⟩, j, ((padB la N).drop P).take j) : Sh)]).map hdr) by
            rw [List.map_append, List.map_singleton, hdr, HL.out]; exact hown)
          have HR2 := Pk.mk ((hR3.keep hO3 hk).snoc (c := j) (show BB w4 wo.heap.size (((padB la N).drop P).take j) from (hk _ HB.out.lt (own_ne hO3 HB.out)).trans HB.out))
          have HK2 := Pk.mk (show lists (K ++ [((some ⟨wo.heap.size, 0, none⟩, j, ((padB la N).drop P).take j) : Sh)]) = halves j (padB la N) (t + 1) by
            rw [halves_succ, ← HK.out, HP.out]; simp [lists])
          have Hb2 := Pk.mk ((Hb.out.trans (Hw.out.mono Hb.out.size)).trans hb)
          clear hown hb hk hO3 hR3 HO HR HK Hb Hw HB HL
          go_wp2
          go_roundw
          · exact ⟨t + 1, _, by omega, by go_num, HO2, HR2, HK2, Hb2⟩
          · simp [intOf]; omega
    · have ht2 : t = 2 * kk := by omega
      subst ht2
      obtain ⟨B, d, rfl, hc, hcs, hxl⟩ := own_form HO.out
      have HF := Pk.mk (show LL wo B K from And.intro hcs HR.out.rbs)
      have HF2 := Pk.mk (show K.length = 2 * kk by simpa using hxl)
      clear hcs hxl hc
      go_wp2
      go_ret2
      exact ⟨B, d, K, rfl, HF.out, HF2.out, HK.out, Hb.out⟩
end Go.Proofs.YtejmbfoecacgmaaDoor
