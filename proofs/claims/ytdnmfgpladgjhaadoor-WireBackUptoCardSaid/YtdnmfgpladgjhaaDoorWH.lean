/- Seal, Open; the document's Sum, Seal, Open. -/
import Derived.Test.YtdnmfgpladgjhaaDoorWG
import Derived.Test.YtdnmfgpladgjhaaDoorWE
namespace Go.Proofs.YtdnmfgpladgjhaaDoor
open Go Go.RowKit Go.Proofs.YtdnmfgpladgjhaaDoor.Gf
set_option linter.unusedVariables false
set_option linter.unusedSimpArgs false

/-- A sum's four bytes. -/
def sum4 (s : Nat) : List F := [UInt8.ofNat (s / 16777216), UInt8.ofNat (s / 65536), UInt8.ofNat (s / 256), UInt8.ofNat s]
def sealB (l : List F) : List F := l ++ sum4 (sumB l)
theorem sealB_length (l : List F) : (sealB l).length = l.length + 4 := by simp [sealB, sum4]
theorem i_ofNat' (n : Nat) : i (UInt8.ofNat n) = (n : Int) % 256 := by unfold i; rw [UInt8.toNat_ofNat']; omega
theorem sum_step_u64 (s : Nat) (c : F) (h : s < 4294967296) : bits .xor .u64 (s : Int) (i c) = ((s ^^^ c.toNat : Nat) : Int) := by
  have hc := c.toNat_lt
  have hi : i c = ((c.toNat : Nat) : Int) := rfl
  rw [hi, xor_nat .u64 64 (by decide) wraps_u64 s c.toNat (by omega) (by omega)]
set_option maxRecDepth 100000 in
theorem refSum_calls (A : Option Addr) (n ca : Nat) (la : List F) (w : World) (hn : la.length = n) (ha : RB w A la) (hl : n ≤ 140737488355328) :
    Calls Tryd.prog 35 #[.slice A n ca] w fun e w' => e = .returned (.int .u32 (sumB la : Nat)) ∧ w = w' := by
  have HA := Pk.mk ha
  have HN := Pk.mk hn
  clear ha hn
  go_enter Tryd.func35, Tryd.ntmps35
  go_wp2
  go_loop [8, 3] (fun x s => ∃ t : Nat, t ≤ n ∧ x = .int .i64 (t : Int) ∧ ∃ z : Nat, s = .int .u64 (z : Int) ∧ z < 4294967296 ∧ Pk (z = sumB (la.take t))) (fun x _ => n - (intOf x).toNat)
  case atStart => exact ⟨0, Nat.zero_le _, rfl, 2166136261, rfl, by omega, ⟨rfl⟩⟩
  case round =>
    obtain ⟨t, ht, rfl, z, rfl, hz, Hz⟩ := hrel
    by_cases hlt : t < n
    · have hlt' : t < la.length := by rw [HN.out]; exact hlt
      obtain ⟨a, rfl, hc⟩ := RB.at HA.out hlt'
      have Hs := Pk.mk (show sumS z la[t] = sumB (la.take (t + 1)) by rw [List.take_succ_eq_append_getElem hlt', sumB_snoc, Hz.out])
      have hx := sum_step_u64 z la[t] hz
      have hy : ∃ y : Nat, y < 4294967296 ∧ bits .xor .u64 (z : Int) (i la[t]) = (y : Int) ∧ y * 16777619 % 4294967296 = sumS z la[t] := by
        refine ⟨z ^^^ (la[t]).toNat, ?_, hx, rfl⟩
        have := (la[t]).toNat_lt
        exact Nat.xor_lt_two_pow (n := 32) hz (by omega)
      clear hx
      obtain ⟨y, hy1, hy2, hy3⟩ := hy
      have h3 := sumS_lt z la[t]
      have HY := Pk.mk hy3
      clear hy3
      generalize la[t] = b at *
      generalize sumS z b = z2 at *
      have hb := b.toNat_lt
      have hm : (IntKind.u64.wrap (bits .xor .u64 (z : Int) (IntKind.u64.wrap (i b)) * 16777619)).tmod 4294967296 = (z2 : Int) := by
        rw [wraps_u64 (i b) (by unfold i; omega) (by unfold i; omega), hy2, wraps_u64 _ (by omega) (by omega), Int.tmod_eq_emod_of_nonneg (by omega), ← HY.out]
        omega
      go_wp2
      go_round
      · exact ⟨t + 1, by omega, by go_num, z2, by first | rfl | rw [hm], h3, Hs⟩
      · simp [intOf]; omega
    · have hte : t = n := by omega
      subst hte
      have hz2 : z = sumB la := by rw [Hz.out, List.take_of_length_le (by rw [HN.out]; exact Nat.le_refl _)]
      subst hz2
      go_wp2
      go_ret
      exact ⟨rfl, rfl⟩

theorem sum4_cells (s : Nat) (h : s < 4294967296) : (#[Value.int .u8 ((s : Int) / 16777216), Value.int .u8 ((s : Int) / 65536 % 256), Value.int .u8 ((s : Int) / 256 % 256), Value.int .u8 ((s : Int) % 256)] : Array Value) = (bvs (sum4 s)).toArray := by
  have h1 : ((s / 16777216 : Nat) : Int) % 256 = (s : Int) / 16777216 := by omega
  simp [bvs, bv, sum4, i_ofNat', h1]
  omega
theorem info5 : True := trivial
set_option maxRecDepth 100000 in
theorem seal_calls (A : Option Addr) (n ca : Nat) (la : List F) (w : World) (hn : la.length = n) (ha : RB w A la) (hl : n ≤ 140737488354000) :
    Calls Tryd.prog 31 #[.slice A n ca] w fun e w' => ∃ v, e = .returned v ∧ w'.ownsRow w.heap.size 5 1 v (n + 4) (bvs (sealB la)) ∧ Below w.heap.size w w' := by
  subst hn
  have HA := Pk.mk ha
  clear ha
  go_enter Tryd.func31, Tryd.ntmps31
  go_wp2_with fail
  have q := wireSum_calls A la.length ca la w rfl HA.out (by omega)
  with_reducible refine q.mono ?_
  clear q
  rintro e w0 ⟨rfl, rfl⟩
  obtain ⟨s, Hs⟩ : ∃ s : Nat, Pk (s = sumB la ∧ s < 4294967296) := ⟨_, ⟨rfl, sumB_lt la⟩⟩
  rw [← Hs.out.1]
  have hlt := Hs.out.2
  have hsc := sum4_cells s hlt
  go_wp2_with fail
  clear hsc
  obtain ⟨w1, Hw1⟩ : ∃ w1, Pk (w1 = w.alloc (.cells (bvs (sum4 s)).toArray 5)) := ⟨_, ⟨rfl⟩⟩
  have B1 := Pk.mk (show Below w.heap.size w w1 by rw [Hw1.out]; exact below_alloc _ _)
  have R1 := Pk.mk (show RB w1 (some ⟨w.heap.size, 0, none⟩) (sum4 s) by rw [Hw1.out]; exact RB.lit (sum4 s) _ rfl rfl)
  have Z1 := Pk.mk (show w1.heap.size = w.heap.size + 1 by rw [Hw1.out]; simp)
  rw [← Hw1.out, ← Z1.out]
  have HL := Pk.mk (show LL (w1.alloc (.cells #[.slice A la.length ca, .slice (some ⟨w.heap.size, 0, none⟩) 4 4] 26)) (some ⟨w1.heap.size, 0, none⟩) [(A, ca, la), (some ⟨w.heap.size, 0, none⟩, 4, sum4 s)] from
    And.intro (Cs.of_blk (ex := []) (heap_alloc_new _ _)) (fun x hx => by
      rcases List.mem_cons.1 hx with rfl | hx
      · exact RB.alloc (HA.out.mono B1.out) _
      · rw [List.mem_singleton.1 hx]; exact RB.alloc R1.out _))
  have HJ := Pk.mk (show joined [(A, ca, la), ((some ⟨w.heap.size, 0, none⟩ : Option Addr), 4, sum4 s)] 2 = sealB la by simp [joined, sealB, Hs.out.1])
  have q := concat_calls (some ⟨w1.heap.size, 0, none⟩) 2 2 [(A, ca, la), (some ⟨w.heap.size, 0, none⟩, 4, sum4 s)] _ rfl HL.out (by omega) (by rw [HJ.out, sealB_length]; omega)
  rw [HJ.out, sealB_length] at q
  with_reducible refine q.mono ?_
  clear q
  rintro e w2 ⟨v, rfl, ho, hb⟩
  have HO := Pk.mk (own_low ho (base' := w.heap.size) (by simp [Z1.out]; omega))
  have B2 := Pk.mk (B1.out.trans (((below_alloc w1 _).trans (hb.mono (by simp))).mono B1.out.size))
  clear ho hb
  go_wp2
  go_ret
  exact ⟨_, rfl, HO.out, B2.out⟩

set_option maxRecDepth 100000 in
theorem refSeal_calls (A : Option Addr) (n ca : Nat) (la : List F) (w : World) (hn : la.length = n) (ha : RB w A la) (hl : n ≤ 140737488354000) :
    Calls Tryd.prog 36 #[.slice A n ca] w fun e w' => ∃ v, e = .returned v ∧ w'.ownsRow w.heap.size 5 1 v (n + 4) (bvs (sealB la)) ∧ Below w.heap.size w w' := by
  have HN := Pk.mk hn
  have HA := Pk.mk ha
  clear ha hn
  go_enter Tryd.func36, Tryd.ntmps36
  go_wp2_with fail
  have q := refSum_calls A n ca la w HN.out HA.out (by omega)
  with_reducible refine q.mono ?_
  clear q
  rintro e w0 ⟨rfl, rfl⟩
  obtain ⟨s, Hs⟩ : ∃ s : Nat, Pk (s = sumB la ∧ s < 4294967296) := ⟨_, ⟨rfl, sumB_lt la⟩⟩
  rw [← Hs.out.1]
  have hlt := Hs.out.2
  have hsc := Pk.mk (sum4_cells s hlt)
  have HE := Pk.mk (show la ++ sum4 s = sealB la by rw [Hs.out.1]; rfl)
  go_wp2_with ((with_reducible refine gate_b (b := .append) rfl ?_); refine Pk.out ?_)
  refine ⟨?_⟩
  refine app_bytes w.heap.size _ 0 [] (own_empty w) (by simp) A n ca la HN.out (HA.out.mono (below_alloc _ _)) (by omega) rfl rfl rfl rfl ?_
  intro v3 w3 ho3 hb3 _
  have HO3 := Pk.mk (show w3.ownsRow w.heap.size 5 1 v3 n (bvs la) by rw [Nat.zero_add, List.nil_append] at ho3; exact ho3)
  have HB3 := Pk.mk ((below_alloc w (.cells #[] 5)).trans (hb3.mono (Nat.le_refl _)))
  clear ho3 hb3
  go_wp2_with ((with_reducible refine gate_b (b := .append) rfl ?_); refine Pk.out ?_)
  refine ⟨?_⟩
  rw [hsc.out]
  refine app_bytes (w := w3.alloc (.cells (bvs (sum4 s)).toArray 5)) w.heap.size v3 n la (own_below HO3.out (below_alloc _ _)) (Nat.le_trans HB3.out.size (by simp)) (some ⟨w3.heap.size, 0, none⟩) 4 4 (sum4 s) rfl (RB.lit (sum4 s) _ rfl rfl) (by omega) rfl rfl rfl rfl ?_
  intro v4 w4 ho4 hb4 _
  rw [HE.out] at ho4
  have HO4 := Pk.mk ho4
  have HB4 := Pk.mk (HB3.out.trans (((below_alloc w3 (.cells (bvs (sum4 s)).toArray 5)).mono HB3.out.size).trans hb4))
  clear ho4 hb4
  go_wp2
  go_ret
  exact ⟨_, rfl, HO4.out, HB4.out⟩

/-- What Open answers. -/
def openN (l : List F) : Nat := if l.length < 4 then 10 else if sealB (l.take (l.length - 4)) = l then 0 else 11
def openL (l : List F) : List F := if openN l = 0 then l.take (l.length - 4) else []
theorem openN_short {l : List F} (h : l.length < 4) : openN l = 10 ∧ openL l = [] := by
  have : openN l = 10 := by unfold openN; rw [if_pos h]
  exact ⟨this, by unfold openL; rw [this]; rfl⟩
theorem openN_good {l : List F} {m : Nat} (h : l.length = m + 4) (hs : sealB (l.take m) = l) : openN l = 0 ∧ openL l = l.take m := by
  have hm : l.length - 4 = m := by omega
  have : openN l = 0 := by unfold openN; rw [if_neg (by omega), hm, if_pos hs]
  exact ⟨this, by unfold openL; rw [this, hm]; rfl⟩
theorem openN_bad {l : List F} {m : Nat} (h : l.length = m + 4) (hs : sealB (l.take m) ≠ l) : openN l = 11 ∧ openL l = [] := by
  have hm : l.length - 4 = m := by omega
  have : openN l = 11 := by unfold openN; rw [if_neg (by omega), hm, if_neg hs]
  exact ⟨this, by unfold openL; rw [this]; rfl⟩
theorem openN_le (l : List F) : openN l ≤ 25 := by unfold openN; split; omega; split <;> omega
theorem open_seal (l : List F) : openN (sealB l) = 0 ∧ openL (sealB l) = l := by
  have h := openN_good (l := sealB l) (m := l.length) (sealB_length l) (by simp [sealB])
  refine ⟨h.1, h.2.trans (by simp [sealB])⟩
theorem errN_10 (E : Nat → Addr) : errN E 10 = .iface 86 (.pointer (some (E 1))) := rfl
theorem errN_11 (E : Nat → Addr) : errN E 11 = .iface 86 (.pointer (some (E 2))) := rfl
def openErrs : List Nat := [1, 2]
set_option maxRecDepth 100000 in
theorem open_calls (E : Nat → Addr) (A : Option Addr) (n ca : Nat) (la : List F) (w : World) (hE : ErrW w E openErrs) (hn : la.length = n) (ha : RB w A la) (hc : n ≤ ca) (hl : n ≤ 140737488354000) :
    Calls Tryd.prog 32 #[.slice A n ca] w fun e w' => ∃ v, e = .returned (.tuple #[v, errN E (openN la)]) ∧ w'.ownsRow w.heap.size 5 1 v (openL la).length (bvs (openL la)) ∧ Below w.heap.size w w' := by
  have HN := Pk.mk hn
  have HA := Pk.mk ha
  have HE := Pk.mk hE
  clear ha hn hE
  by_cases h4 : n < 4
  · obtain ⟨ho, hL⟩ := openN_short (l := la) (by rw [HN.out]; exact h4)
    rw [ho, hL, errN_10]
    have ce := HE.out.cell 1 (by decide)
    simp only [errV] at ce
    clear HE ho hL HA HN
    go_enter Tryd.func32, Tryd.ntmps32
    go_wp2
    go_quiet (fail)
    go_wp2
    go_ret2
    exact ⟨_, rfl, World.ownsRow_nil _ _ _ _, below_drew _ _⟩
  · obtain ⟨m, rfl⟩ : ∃ m, n = m + 4 := ⟨n - 4, by omega⟩
    have hm4 : (m : Int) + 4 - 4 = (m : Int) := by omega
    by_cases hs : sealB (la.take m) = la
    · obtain ⟨ho, hL⟩ := openN_good HN.out hs
      rw [ho, hL, errN_0]
      go_enter Tryd.func32, Tryd.ntmps32
      go_wp2_with fail
      have q := seal_calls A m ca (la.take m) w (by rw [List.length_take, HN.out]; omega) (rb_take HA.out m) (by omega)
      with_reducible refine q.mono ?_
      clear q
      rintro e w1 ⟨v, rfl, ho, hb⟩
      obtain ⟨X, cx, rfl, hcx, hcs, _⟩ := own_form ho
      have RX := Pk.mk (show RB w1 X (sealB (la.take m)) from hcs)
      have B0 := Pk.mk hb
      clear ho hb hcs
      go_wp2_with fail
      have q := qb (equal_calls X (m + 4) cx (sealB (la.take m)) A (m + 4) ca la w1 (by rw [sealB_length, List.length_take, HN.out]; omega) HN.out RX.out (HA.out.mono B0.out) (by omega))
      with_reducible refine q.mono ?_
      clear q
      rintro e w2 ⟨rfl, hb⟩
      replace B0 := Pk.mk (B0.out.trans (hb.mono B0.out.size))
      clear hb
      have h1 : sameB (sealB (la.take m)) la = true := by rw [hs, sameB_self]
      rw [h1]
      clear h1
      go_wp2_with fail
      have q := clone_calls A m ca (la.take m) w2 (by rw [List.length_take, HN.out]; omega) (rb_take (HA.out.mono B0.out) m) (by omega)
      with_reducible refine q.mono ?_
      clear q
      rintro e w3 ⟨v, rfl, ho, hb⟩
      have HO := Pk.mk (own_low ho (base' := w.heap.size) B0.out.size)
      have hlen := Pk.mk (show (la.take m).length = m by rw [List.length_take, HN.out]; omega)
      replace B0 := Pk.mk (B0.out.trans (hb.mono B0.out.size))
      clear ho hb
      go_wp2
      go_ret2
      exact ⟨_, rfl, by rw [hlen.out]; exact HO.out, B0.out⟩
    · obtain ⟨ho, hL⟩ := openN_bad HN.out hs
      rw [ho, hL, errN_11]
      go_enter Tryd.func32, Tryd.ntmps32
      go_wp2_with fail
      have q := seal_calls A m ca (la.take m) w (by rw [List.length_take, HN.out]; omega) (rb_take HA.out m) (by omega)
      with_reducible refine q.mono ?_
      clear q
      rintro e w1 ⟨v, rfl, ho, hb⟩
      obtain ⟨X, cx, rfl, hcx, hcs, _⟩ := own_form ho
      have RX := Pk.mk (show RB w1 X (sealB (la.take m)) from hcs)
      have B0 := Pk.mk hb
      clear ho hb hcs
      go_wp2_with fail
      have q := qb (equal_calls X (m + 4) cx (sealB (la.take m)) A (m + 4) ca la w1 (by rw [sealB_length, List.length_take, HN.out]; omega) HN.out RX.out (HA.out.mono B0.out) (by omega))
      with_reducible refine q.mono ?_
      clear q
      rintro e w2 ⟨rfl, hb⟩
      replace B0 := Pk.mk (B0.out.trans (hb.mono B0.out.size))
      clear hb
      have h1 : sameB (sealB (la.take m)) la = false := by simp only [sameB, decide_eq_false_iff_not]; exact hs
      rw [h1]
      have ce := (HE.out.below B0.out).cell 2 (by decide)
      simp only [errV] at ce
      clear h1 HE
      go_wp2
      go_quiet (fail)
      go_wp2
      go_ret2
      exact ⟨_, rfl, World.ownsRow_nil _ _ _ _, below_drewN B0.out _⟩
end Go.Proofs.YtdnmfgpladgjhaaDoor
