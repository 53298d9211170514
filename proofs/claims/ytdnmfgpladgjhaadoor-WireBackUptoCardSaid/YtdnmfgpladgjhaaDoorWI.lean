/- WireSlips walked. -/
import Derived.Test.YtdnmfgpladgjhaaDoorWH
namespace Go.Proofs.YtdnmfgpladgjhaaDoor
open Go Go.RowKit Go.Proofs.YtdnmfgpladgjhaaDoor.Gf
set_option linter.unusedVariables false
set_option linter.unusedSimpArgs false

/-! ### the law -/
theorem xor_lt32 (s : Nat) (c : F) (h : s < 4294967296) : s ^^^ c.toNat < 4294967296 := Nat.xor_lt_two_pow (n := 32) h (by have := c.toNat_lt; omega)
theorem sumS_left {s t : Nat} {c : F} (hs : s < 4294967296) (ht : t < 4294967296) (h : sumS s c = sumS t c) : s = t := by
  have := mul_odd_inj (xor_lt32 s c hs) (xor_lt32 t c ht) h
  have := congrArg (· ^^^ c.toNat) this
  simpa [Nat.xor_assoc] using this
theorem sumS_right {s : Nat} {c d : F} (hs : s < 4294967296) (h : sumS s c = sumS s d) : c = d := by
  have := mul_odd_inj (xor_lt32 s c hs) (xor_lt32 s d hs) h
  have := congrArg (s ^^^ ·) this
  simp only [← Nat.xor_assoc, Nat.xor_self, Nat.zero_xor] at this
  exact UInt8.toNat_inj.1 this
theorem foldl_left : ∀ (q : List F) (s t : Nat), s < 4294967296 → t < 4294967296 → q.foldl sumS s = q.foldl sumS t → s = t
  | [], _, _, _, _, h => h
  | c :: q, s, t, hs, ht, h => sumS_left hs ht (foldl_left q _ _ (sumS_lt s c) (sumS_lt t c) h)
theorem sumB_set {l : List F} {j : Nat} (hj : j < l.length) {c : F} (hc : l[j] ≠ c) : sumB (l.set j c) ≠ sumB l := by
  intro e
  have h1 : l.set j c = l.take j ++ c :: l.drop (j + 1) := by rw [List.set_eq_take_append_cons_drop, if_pos hj]
  have h2 : l = l.take j ++ l[j] :: l.drop (j + 1) := by rw [List.getElem_cons_drop, List.take_append_drop]
  have e2 : (l.take j ++ c :: l.drop (j + 1)).foldl sumS 2166136261 = (l.take j ++ l[j] :: l.drop (j + 1)).foldl sumS 2166136261 := by
    rw [← h1, ← h2]; exact e
  rw [List.foldl_append, List.foldl_append, List.foldl_cons, List.foldl_cons] at e2
  have e3 := foldl_left _ _ _ (sumS_lt _ _) (sumS_lt _ _) e2
  exact hc (sumS_right (foldl_sumS_lt _ _ (by omega)) e3).symm
theorem sum4_inj {s t : Nat} (hs : s < 4294967296) (ht : t < 4294967296) (h : sum4 s = sum4 t) : s = t := by
  simp only [sum4, List.cons.injEq, and_true] at h
  obtain ⟨h1, h2, h3, h4⟩ := h
  have k1 := congrArg UInt8.toNat h1
  have k2 := congrArg UInt8.toNat h2
  have k3 := congrArg UInt8.toNat h3
  have k4 := congrArg UInt8.toNat h4
  rw [UInt8.toNat_ofNat', UInt8.toNat_ofNat'] at k1 k2 k3 k4
  omega
theorem slip {l : List F} {j : Nat} (hj : j < (sealB l).length) {c : F} (hc : (sealB l)[j] ≠ c) : openN ((sealB l).set j c) = 11 ∧ openL ((sealB l).set j c) = [] := by
  refine openN_bad (m := l.length) (by rw [List.length_set, sealB_length]) ?_
  intro e
  by_cases h : j < l.length
  · have h1 : ((sealB l).set j c).take l.length = l.set j c := by
      unfold sealB
      rw [List.set_append_left _ _ h, List.take_left' (by simp)]
    rw [h1] at e
    have h2 : (sealB l).set j c = l.set j c ++ sum4 (sumB l) := by unfold sealB; rw [List.set_append_left _ _ h]
    rw [h2] at e
    have h3 := sum4_inj (sumB_lt _) (sumB_lt _) (List.append_cancel_left e)
    have h4 : (sealB l)[j] = l[j] := by
      have : (sealB l)[j]? = l[j]? := by unfold sealB; rw [List.getElem?_append_left h]
      rw [List.getElem?_eq_getElem hj, List.getElem?_eq_getElem h] at this
      exact Option.some.inj this
    exact sumB_set h (by rw [← h4]; exact hc) h3
  · have h1 : ((sealB l).set j c).take l.length = l := by
      unfold sealB
      rw [List.set_append_right _ _ (by omega), List.take_left' rfl]
    rw [h1] at e
    have h2 : ((sealB l).set j c)[j]? = (sealB l)[j]? := by rw [← e]
    rw [List.getElem?_set_self hj, List.getElem?_eq_getElem hj] at h2
    exact hc (Option.some.inj h2).symm

/-! ### the walk -/
theorem tmod_in (x : Int) (n : Nat) (hn : 0 < n) : ∃ j : Nat, j < n ∧ (x.tmod n + n).tmod n = (j : Int) := by
  have h1 := Int.tmod_lt_of_pos x (show (0 : Int) < n by omega)
  have h2 : -(n : Int) < x.tmod n := by
    have := Int.lt_tmod_of_pos x (show (0 : Int) < n by omega)
    omega
  refine ⟨((x.tmod n + n).tmod n).toNat, ?_, ?_⟩
  · have h3 := Int.tmod_lt_of_pos (x.tmod n + n) (show (0 : Int) < n by omega)
    omega
  · have h4 := Int.tmod_nonneg (n : Int) (show 0 ≤ x.tmod n + n by omega)
    omega
theorem row_set {w : World} {g j : Nat} {l : List F} {ex : List Value} (h : w.heap[g]? = some (.cells (bvs l ++ ex).toArray 5 (0, 0))) (hj : j < l.length) (c : F) :
    (w.setCell ⟨g, j, none⟩ (.int .u8 (i c))).heap[g]? = some (.cells (bvs (l.set j c) ++ ex).toArray 5 (0, 0)) ∧ Below g w (w.setCell ⟨g, j, none⟩ (.int .u8 (i c))) := by
  refine ⟨?_, rfl, rfl, rfl, by simp [World.setCell], fun k hk => heap_setCell_other w ⟨g, j, none⟩ k _ (by simpa using Nat.ne_of_lt hk)⟩
  rw [heap_setCell_same w g j _ _ _ h]
  congr 2
  rw [List.setIfInBounds_toArray, List.set_append_left _ _ (by rw [bvs_length]; exact hj)]
  congr 2
  simp [bvs, bv, List.map_set]
set_option maxRecDepth 100000 in
set_option maxHeartbeats 4000000 in
theorem wireSlips_walk (E : Nat → Addr) (A : Option Addr) (ca : Nat) (la : List F) (x : Int) (c : F) (w : World) (hE : ErrW w E openErrs) (ha : RB w A la) (_ca : la.length ≤ ca) (hla : la.length ≤ 140737488351232) (_wx : (Lit.int .i64 x).wf = true) :
    Calls Tryd.prog 9 #[.slice A la.length ca, .int .i64 x, .int .u8 (i c)] w fun e w' => e = .returned (.bool true) ∧ Below w.heap.size w w' := by
  have HA := Pk.mk ha
  have HE := Pk.mk hE
  clear ha hE
  obtain ⟨n, Hn⟩ : ∃ n, Pk (la.length = n) := ⟨_, ⟨rfl⟩⟩
  rw [Hn.out] at hla _ca ⊢
  go_enter Tryd.func9, Tryd.ntmps9
  go_wp2_with fail
  refine (alive13_calls w).mono ?_
  rintro e w1 ⟨rfl, hb⟩
  have B0 := Pk.mk hb
  clear hb
  go_wp2_with fail
  have q := seal_calls A n ca la w1 Hn.out (HA.out.mono B0.out) (by omega)
  with_reducible refine q.mono ?_
  clear q
  rintro e w2 ⟨v, rfl, ho, hb⟩
  have B1 := Pk.mk (B0.out.trans (hb.mono B0.out.size))
  have Hs := Pk.mk (show (sealB la).length = n + 4 by rw [sealB_length, Hn.out])
  obtain ⟨g, ex, rfl, hg, hblk, _, hcap⟩ := own_blk ho (Or.inl (by omega))
  have HG := Pk.mk hblk
  have Hg := Pk.mk (show w.heap.size ≤ g from Nat.le_trans B0.out.size hg)
  have RS := Pk.mk (show RB w2 (some ⟨g, 0, none⟩) (sealB la) from Cs.of_blk hblk)
  clear hb ho hblk B0 hg
  obtain ⟨j, hj, hje0⟩ := tmod_in x (n + 4) (by omega)
  have hje : (wrap64 (x.tmod ((n : Int) + 4) + ((n : Int) + 4))).tmod ((n : Int) + 4) = (j : Int) := by
    have e1 : ((n + 4 : Nat) : Int) = (n : Int) + 4 := by omega
    rw [e1] at hje0
    have h1 := Int.tmod_lt_of_pos x (show (0 : Int) < (n : Int) + 4 by omega)
    have h2 := Int.lt_tmod_of_pos x (show (0 : Int) < (n : Int) + 4 by omega)
    rw [← hje0]
    congr 1
    unfold wrap64
    omega
  clear hje0
  have hj2 : j < (sealB la).length := by rw [Hs.out]; exact hj
  have hj3 : (j : Int) < (n : Int) + 4 := by omega
  obtain ⟨y, Hy⟩ : ∃ y, Pk (y = (sealB la)[j]) := ⟨_, ⟨rfl⟩⟩
  obtain ⟨_, he, hc⟩ := RB.at RS.out hj2
  cases he
  rw [← Hy.out, own_add] at hc
  by_cases hyc : y = c
  · subst hyc
    go_wp2
    go_ret
    exact ⟨rfl, B1.out⟩
  · have hne : (i y == i c) = false := by rw [beq_eq_false_iff_ne]; intro e; exact hyc (UInt8.toNat_inj.1 (by unfold i at e; omega))
    obtain ⟨ho, hL⟩ := slip hj2 (c := c) (by rw [← Hy.out]; exact hyc)
    have hfz := frozen_of_row w2 g j _ _ HG.out
    obtain ⟨hset, hbs⟩ := row_set HG.out hj2 c
    obtain ⟨w3, Hw3⟩ : ∃ w3, Pk (w2.setCell ⟨g, j, none⟩ (.int .u8 (i c)) = w3) := ⟨_, ⟨rfl⟩⟩
    rw [Hw3.out] at hset hbs
    have B2 := Pk.mk (B1.out.trans (hbs.mono Hg.out))
    have R3 := Pk.mk (show RB w3 (some ⟨g, 0, none⟩) ((sealB la).set j c) from Cs.of_blk hset)
    have hE3 := Pk.mk (HE.out.mono B2.out)
    have hl3 := Pk.mk (show ((sealB la).set j c).length = n + 4 by rw [List.length_set, Hs.out])
    have HO := Pk.mk (And.intro ho hL)
    clear ho hL hset hbs hj2 hyc HE Hy
    generalize i y = yy at *
    go_wp2_with fail
    rw [Hw3.out]
    have q := open_calls E (some ⟨g, 0, none⟩) (n + 4) (n + 4 + ex.length) ((sealB la).set j c) w3 hE3.out hl3.out R3.out (by omega) (by omega)
    rw [HO.out.1, HO.out.2, errN_11] at q
    with_reducible refine q.mono ?_
    clear q
    rintro e w4 ⟨v, rfl, ho, hb⟩
    obtain ⟨X, cx, rfl, _, _, _⟩ := own_form ho
    have B4 := Pk.mk (B2.out.trans (hb.mono B2.out.size))
    have hE4 := hE3.out.mono hb
    have ce := hE4.cell 2 (by decide)
    have he := err_eql hE4 (g := 2) (h := 2) (by decide) (by decide)
    rw [beq_self_eq_true] at he
    simp only [errV] at ce he
    clear hE4 ho hb hE3 HO
    go_wp2
    go_ret
    exact ⟨by first | rfl | simp, B4.out⟩
end Go.Proofs.YtdnmfgpladgjhaaDoor
