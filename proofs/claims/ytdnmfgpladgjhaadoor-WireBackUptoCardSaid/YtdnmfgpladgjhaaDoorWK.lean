/- WireSpoilt walked. -/
import Derived.Test.YtdnmfgpladgjhaaDoorWE
import Derived.Test.YtdnmfgpladgjhaaDoorOps
import Derived.OpenShut
namespace Go.Proofs.YtdnmfgpladgjhaaDoor
open Go Go.RowKit Go.Proofs.YtdnmfgpladgjhaaDoor.Gf
set_option linter.unusedVariables false
set_option linter.unusedSimpArgs false

theorem opsSum_succ {K : List OpV} {t : Nat} (h : t < K.length) : opsSum (K.take (t + 1)) = opsSum (K.take t) + (K[t].l.length + 1) := by
  rw [List.take_succ_eq_append_getElem h]
  simp only [opsSum, List.map_append, List.sum_append, List.map_cons, List.map_nil, List.sum_cons, List.sum_nil, Nat.add_zero]
theorem opsSum_len (K : List OpV) : K.length ≤ opsSum K := by
  induction K with
  | nil => simp
  | cons x K ih => simp only [opsSum, List.map_cons, List.sum_cons, List.length_cons] at ih ⊢; omega
theorem opsSum_take (K : List OpV) (t : Nat) : opsSum (K.take t) ≤ opsSum K := by
  conv => rhs; rw [← List.take_append_drop t K]
  simp only [opsSum, List.map_append, List.sum_append]; omega
theorem err_neq_same {w : World} {E : Nat → Addr} {gs : List Nat} (hE : ErrW w E gs) {g : Nat} (hg : g ∈ gs) : (binOp .neq 28 (errV E g) (errV E g)).run Tryd.prog w = .ok (.bool false) w := by
  have h := err_eql hE hg hg
  rw [beq_self_eq_true] at h
  simp only [errV, binOp] at h ⊢
  cases hq : (Op.equal 28 (.iface 86 (.pointer (some (E g)))) (.iface 86 (.pointer (some (E g))))).run Tryd.prog w with
  | ok e w' =>
    simp [hq] at h
    obtain ⟨rfl, rfl⟩ := h
    simp [hq]
  | halt x w' => simp [hq] at h
/-- A number's bytes, whatever the number. -/
theorem wany_calls (B : Nat) (g : Nat) (v : Value) (l : List F) (n : Int) (w : World) (hw : Wr B w g v l true) (hB : B ≤ w.heap.size) (hn : (Lit.int .i64 n).wf = true) (hl : l.length ≤ 140737488355000) :
    Calls Tryd.prog 12 #[.pointer (some ⟨g, 0, none⟩), .int .i64 n] w fun e w' => e = .returned (.tuple #[]) ∧ ∃ v' l', Wr B w' g v' l' true ∧ FrW g v w w' v' ∧ l'.length ≤ l.length + 9 := by
  by_cases h0 : n < 0
  · refine (wspoil_calls B g v l true n w hw h0).mono ?_
    rintro e w' ⟨rfl, h1, h2⟩
    exact ⟨rfl, v, l, h1, h2, by omega⟩
  · obtain ⟨m, rfl⟩ : ∃ m : Nat, n = (m : Int) := ⟨n.toNat, by omega⟩
    have hm : m < 9223372036854775808 := by
      have := bounds_i64 hn
      omega
    refine (wnum_calls B g v l true m w hw hB hm hl).mono ?_
    rintro e w' ⟨rfl, v', h1, h2⟩
    exact ⟨rfl, v', _, h1, h2, by have := numB_len9 hm; rw [List.length_append]; omega⟩

theorem xor_neg (m : Nat) (h : m < 9223372036854775808) : bits .xor .i64 (-1) (m : Int) = -1 - (m : Int) := by
  simp only [bits]
  have h1 : (BitVec.ofInt 64 (-1) ^^^ BitVec.ofInt 64 (m : Int)).toNat = 2 ^ 64 - 1 - m := by
    rw [show BitVec.ofInt 64 (-1) = BitVec.allOnes 64 by decide, BitVec.allOnes_xor, BitVec.toNat_not, BitVec.toNat_ofInt]
    omega
  show IntKind.i64.wrap (((BitVec.ofInt 64 (-1) ^^^ BitVec.ofInt 64 (m : Int)).toNat : Nat) : Int) = _
  rw [h1, IntKind.wrap_i64]
  omega
set_option maxRecDepth 100000 in
set_option maxHeartbeats 4000000 in
theorem wireSpoilt_walk0 (E : Nat → Addr) (A : Option Addr) (ca n : Nat) (K : List OpV) (x : Int) (w : World) (hE : ErrW w E wErrs) (hn : K.length = n) (hA : OPS w A K) (hf : ∀ x ∈ K, x.fit) (hs : opsSum K ≤ 1048576) (y : Int) (hxy : (x < 0 ∧ x = y) ∨ (0 ≤ x ∧ bits .xor .i64 (-1) x = y)) (hx : y < 0) :
    Calls Tryd.prog 5 #[.slice A n ca, .int .i64 x] w fun e w' => e = .returned (.bool true) ∧ Below w.heap.size w w' := by
  have hnb : n ≤ 1048576 := by rw [← hn]; exact Nat.le_trans (opsSum_len K) hs
  have HA := Pk.mk hA
  have HE := Pk.mk hE
  have HN := Pk.mk hn
  have HF := Pk.mk hf
  have HS := Pk.mk hs
  clear hE hA hn hf hs
  go_enter Tryd.func5, Tryd.ntmps5
  go_wp2_with fail
  refine (alive13_calls w).mono ?_
  rintro e w1 ⟨rfl, hb⟩
  have B0 := Pk.mk hb
  have S1 := Pk.mk hb.size
  clear hb
  go_wp2_with fail
  have q := newWriter_calls w1
  with_reducible refine q.mono ?_
  clear q
  rintro e w2 ⟨g, rfl, hg, hw, hb⟩
  replace B0 := Pk.mk (B0.out.trans (hb.mono B0.out.size))
  have HW := Pk.mk hw
  clear hw hb
  rcases hxy with ⟨hx0, rfl⟩ | ⟨hx0, hxy⟩
  · have hx1 : ¬ 0 ≤ x := by omega
    go_wp2_with fail
    have q := wspoil_calls w1.heap.size g _ [] false x w2 HW.out hx
    with_reducible refine q.mono ?_
    clear q
    rintro e w3 ⟨rfl, h1, h2⟩
    replace B0 := Pk.mk (B0.out.trans ((h2.below HW.out (Nat.le_trans hg (Nat.le_of_lt HW.out.lt))).mono S1.out))
    have HW3 := Pk.mk h1
    have Z1 := Pk.mk (Nat.le_trans hg (Nat.le_of_lt HW3.out.lt))
    have Zb := S1
    clear h1 h2 HW hg
    obtain ⟨B, HB⟩ : ∃ B, Pk (w1.heap.size = B) := ⟨_, ⟨rfl⟩⟩
    rw [HB.out] at HW3 Z1 Zb
    go_wp2
    go_loopw [26] (fun x wr => ∃ (t : Nat) (v : Value) (l : List F), t ≤ n ∧ x = .int .i64 (t : Int) ∧ Pk (Wr B wr g v l true) ∧ Pk (l.length ≤ 18 * opsSum (K.take t)) ∧ Pk (Below w.heap.size w wr)) (fun x _ => n - (intOf x).toNat)
    case atStart => exact ⟨0, _, _, Nat.zero_le _, rfl, HW3, ⟨by simp [opsSum]⟩, B0⟩
    case round =>
      clear HW3 B0
      obtain ⟨t, v, l, ht, rfl, HW, HL, B0⟩ := hrel
      by_cases hlt : t < n
      · have hlt' : t < K.length := by rw [HN.out]; exact hlt
        obtain ⟨a, rfl, c0, c1, c2, c3, hr⟩ := (HA.out.mono B0.out).at hlt'
        have hfit := HF.out _ (List.getElem_mem hlt')
        have HR0 := Pk.mk (HA.out t _ (List.getElem?_eq_getElem hlt')).2
        have Hs := Pk.mk (opsSum_succ hlt')
        have Ht := Pk.mk (Nat.le_trans (opsSum_take K (t + 1)) HS.out)
        generalize K[t] = y at *
        obtain ⟨k, wh, z, Y, cy, ly⟩ := y
        simp only at c0 c1 c2 c3 hr hfit Hs
        have HR := Pk.mk hr
        obtain ⟨_, _, hz, hcy, hly⟩ := hfit
        clear hr
        go_wp2_with fail
        obtain ⟨wa, Hwa⟩ : ∃ wa, Pk (wr.alloc (.cells #[.int .i64 k, .int .i64 wh, .int .i64 z, .slice Y ly.length cy] 38) = wa) := ⟨_, ⟨rfl⟩⟩
        rw [Hwa.out]
        have Ba := Pk.mk (show Below wr.heap.size wr wa by rw [← Hwa.out]; exact below_alloc _ _)
        have Hblk := Pk.mk (show wa.heap[wr.heap.size]? = some (.cells #[.int .i64 k, .int .i64 wh, .int .i64 z, .slice Y ly.length cy] 38 (0, 0)) by rw [← Hwa.out]; exact heap_alloc_new _ _)
        have Hlt := Pk.mk (show wr.heap.size < wa.heap.size by rw [← Hwa.out]; simp)
        have Zr := Pk.mk (show B ≤ wr.heap.size from Nat.le_trans HW.out.base (Nat.le_of_lt HW.out.lt))
        have hll : l.length ≤ 18 * 1048576 := by have := HL.out; have := Hs.out; have := Ht.out; omega
        have q := wany_calls B g v l z wa (HW.out.mono Ba.out) (Nat.le_trans Zr.out (Nat.le_of_lt Hlt.out)) hz (by omega)
        with_reducible refine q.mono ?_
        clear q
        rintro e w5 ⟨rfl, v5, l5, hw5, hf5, hl5⟩
        have HW5 := Pk.mk hw5
        have Hb5 := Pk.mk ((hf5.block wr.heap.size Hlt.out (fun e => by have := HW.out.lt; omega) (fun e => by have := (HW.out.own.lt _ e).2; omega)).trans Hblk.out)
        have B5 := Pk.mk (B0.out.trans ((Ba.out.mono (Nat.le_trans Zb.out Zr.out)).trans ((hf5.below (HW.out.mono Ba.out) (Nat.le_trans Zr.out (Nat.le_of_lt Hlt.out))).mono Zb.out)))
        have Z5 := Pk.mk (Nat.le_trans (Nat.le_trans Zr.out (Nat.le_of_lt Hlt.out)) hf5.size)
        have d3 : w5.cell? ⟨wr.heap.size, 3, none⟩ = some (.slice Y ly.length cy) := by rw [cell_of_row _ _ _ _ _ _ Hb5.out]; rfl
        clear hw5 hf5 c0 c1 c2 c3
        have HRw := Pk.mk (show RB w5 Y ly ∧ (∀ b, Y = some b → 0 < ly.length → b.block ≠ g ∧ v5.ownBlock ≠ some b.block) from by
          refine ⟨HR0.out.mono B5.out, fun b hb hp => ?_⟩
          have h1 := HR0.out.low hp b hb
          have h2 := Zb.out
          have h3 := HW5.out.base
          refine ⟨by omega, fun e => ?_⟩
          have := (HW5.out.own.lt _ e).1
          omega)
        go_wp2_with fail
        have q := wbytes_calls B g v5 l5 true Y ly.length cy ly w5 HW5.out Z5.out rfl HRw.out.1 HRw.out.2 (by have := Hs.out; have := Ht.out; omega)
        with_reducible refine q.mono ?_
        clear q
        rintro e w6 ⟨rfl, v6, hw6, hf6⟩
        have HW6 := Pk.mk hw6
        have B6 := Pk.mk (B5.out.trans ((hf6.below HW5.out Z5.out).mono Zb.out))
        have HL6 := Pk.mk (show (l5 ++ (numB ly.length ++ ly)).length ≤ 18 * opsSum (K.take (t + 1)) by
          have h1 := numB_len9 (n := ly.length) (by omega)
          have h2 := HL.out
          have h3 := Hs.out
          simp only [List.length_append]
          omega)
        generalize l5 ++ (numB ly.length ++ ly) = l6 at *
        clear hw6 hf6 d3
        go_wp2_with fail
        have q := wdone_spoilt E B g v6 l6 w6 (HE.out.mono B6.out) HW6.out
        with_reducible refine q.mono ?_
        clear q
        rintro e w7 ⟨rfl, hb⟩
        have B7 := Pk.mk (B6.out.trans (hb.mono B6.out.size))
        have HW7 := Pk.mk (HW6.out.mono hb)
        have hE7 := HE.out.mono B7.out
        have ce := hE7.cell 0 (by decide)
        have he := err_neq_same hE7 (g := 0) (by decide)
        simp only [errV, errN_12] at ce he ⊢
        clear hE7 hb
        go_wp2
        go_roundw
        · exact ⟨t + 1, v6, l6, by omega, by go_num, HW7, HL6, B7⟩
        · simp [intOf]; omega
      · have hte : t = n := by omega
        subst hte
        go_wp2_with fail
        have q := wdone_spoilt E B g v l wr (HE.out.mono B0.out) HW.out
        with_reducible refine q.mono ?_
        clear q
        rintro e w7 ⟨rfl, hb⟩
        have B7 := Pk.mk (B0.out.trans (hb.mono B0.out.size))
        have hE7 := HE.out.mono B7.out
        have ce := hE7.cell 0 (by decide)
        have he := err_eql hE7 (g := 0) (h := 0) (by decide) (by decide)
        rw [beq_self_eq_true] at he
        simp only [errV, errN_12] at ce he ⊢
        clear hE7 hb
        go_wp2
        go_ret
        exact ⟨by first | rfl | simp, B7.out⟩
  · go_wp2_with fail
    have q := wspoil_calls w1.heap.size g _ [] false y w2 HW.out hx
    with_reducible refine q.mono ?_
    clear q
    rintro e w3 ⟨rfl, h1, h2⟩
    replace B0 := Pk.mk (B0.out.trans ((h2.below HW.out (Nat.le_trans hg (Nat.le_of_lt HW.out.lt))).mono S1.out))
    have HW3 := Pk.mk h1
    have Z1 := Pk.mk (Nat.le_trans hg (Nat.le_of_lt HW3.out.lt))
    have Zb := S1
    clear h1 h2 HW hg
    obtain ⟨B, HB⟩ : ∃ B, Pk (w1.heap.size = B) := ⟨_, ⟨rfl⟩⟩
    rw [HB.out] at HW3 Z1 Zb
    go_wp2
    go_loopw [26] (fun x wr => ∃ (t : Nat) (v : Value) (l : List F), t ≤ n ∧ x = .int .i64 (t : Int) ∧ Pk (Wr B wr g v l true) ∧ Pk (l.length ≤ 18 * opsSum (K.take t)) ∧ Pk (Below w.heap.size w wr)) (fun x _ => n - (intOf x).toNat)
    case atStart => exact ⟨0, _, _, Nat.zero_le _, rfl, HW3, ⟨by simp [opsSum]⟩, B0⟩
    case round =>
      clear HW3 B0
      obtain ⟨t, v, l, ht, rfl, HW, HL, B0⟩ := hrel
      by_cases hlt : t < n
      · have hlt' : t < K.length := by rw [HN.out]; exact hlt
        obtain ⟨a, rfl, c0, c1, c2, c3, hr⟩ := (HA.out.mono B0.out).at hlt'
        have hfit := HF.out _ (List.getElem_mem hlt')
        have HR0 := Pk.mk (HA.out t _ (List.getElem?_eq_getElem hlt')).2
        have Hs := Pk.mk (opsSum_succ hlt')
        have Ht := Pk.mk (Nat.le_trans (opsSum_take K (t + 1)) HS.out)
        generalize K[t] = y at *
        obtain ⟨k, wh, z, Y, cy, ly⟩ := y
        simp only at c0 c1 c2 c3 hr hfit Hs
        have HR := Pk.mk hr
        obtain ⟨_, _, hz, hcy, hly⟩ := hfit
        clear hr
        go_wp2_with fail
        obtain ⟨wa, Hwa⟩ : ∃ wa, Pk (wr.alloc (.cells #[.int .i64 k, .int .i64 wh, .int .i64 z, .slice Y ly.length cy] 38) = wa) := ⟨_, ⟨rfl⟩⟩
        rw [Hwa.out]
        have Ba := Pk.mk (show Below wr.heap.size wr wa by rw [← Hwa.out]; exact below_alloc _ _)
        have Hblk := Pk.mk (show wa.heap[wr.heap.size]? = some (.cells #[.int .i64 k, .int .i64 wh, .int .i64 z, .slice Y ly.length cy] 38 (0, 0)) by rw [← Hwa.out]; exact heap_alloc_new _ _)
        have Hlt := Pk.mk (show wr.heap.size < wa.heap.size by rw [← Hwa.out]; simp)
        have Zr := Pk.mk (show B ≤ wr.heap.size from Nat.le_trans HW.out.base (Nat.le_of_lt HW.out.lt))
        have hll : l.length ≤ 18 * 1048576 := by have := HL.out; have := Hs.out; have := Ht.out; omega
        have q := wany_calls B g v l z wa (HW.out.mono Ba.out) (Nat.le_trans Zr.out (Nat.le_of_lt Hlt.out)) hz (by omega)
        with_reducible refine q.mono ?_
        clear q
        rintro e w5 ⟨rfl, v5, l5, hw5, hf5, hl5⟩
        have HW5 := Pk.mk hw5
        have Hb5 := Pk.mk ((hf5.block wr.heap.size Hlt.out (fun e => by have := HW.out.lt; omega) (fun e => by have := (HW.out.own.lt _ e).2; omega)).trans Hblk.out)
        have B5 := Pk.mk (B0.out.trans ((Ba.out.mono (Nat.le_trans Zb.out Zr.out)).trans ((hf5.below (HW.out.mono Ba.out) (Nat.le_trans Zr.out (Nat.le_of_lt Hlt.out))).mono Zb.out)))
        have Z5 := Pk.mk (Nat.le_trans (Nat.le_trans Zr.out (Nat.le_of_lt Hlt.out)) hf5.size)
        have d3 : w5.cell? ⟨wr.heap.size, 3, none⟩ = some (.slice Y ly.length cy) := by rw [cell_of_row _ _ _ _ _ _ Hb5.out]; rfl
        clear hw5 hf5 c0 c1 c2 c3
        have HRw := Pk.mk (show RB w5 Y ly ∧ (∀ b, Y = some b → 0 < ly.length → b.block ≠ g ∧ v5.ownBlock ≠ some b.block) from by
          refine ⟨HR0.out.mono B5.out, fun b hb hp => ?_⟩
          have h1 := HR0.out.low hp b hb
          have h2 := Zb.out
          have h3 := HW5.out.base
          refine ⟨by omega, fun e => ?_⟩
          have := (HW5.out.own.lt _ e).1
          omega)
        go_wp2_with fail
        have q := wbytes_calls B g v5 l5 true Y ly.length cy ly w5 HW5.out Z5.out rfl HRw.out.1 HRw.out.2 (by have := Hs.out; have := Ht.out; omega)
        with_reducible refine q.mono ?_
        clear q
        rintro e w6 ⟨rfl, v6, hw6, hf6⟩
        have HW6 := Pk.mk hw6
        have B6 := Pk.mk (B5.out.trans ((hf6.below HW5.out Z5.out).mono Zb.out))
        have HL6 := Pk.mk (show (l5 ++ (numB ly.length ++ ly)).length ≤ 18 * opsSum (K.take (t + 1)) by
          have h1 := numB_len9 (n := ly.length) (by omega)
          have h2 := HL.out
          have h3 := Hs.out
          simp only [List.length_append]
          omega)
        generalize l5 ++ (numB ly.length ++ ly) = l6 at *
        clear hw6 hf6 d3
        go_wp2_with fail
        have q := wdone_spoilt E B g v6 l6 w6 (HE.out.mono B6.out) HW6.out
        with_reducible refine q.mono ?_
        clear q
        rintro e w7 ⟨rfl, hb⟩
        have B7 := Pk.mk (B6.out.trans (hb.mono B6.out.size))
        have HW7 := Pk.mk (HW6.out.mono hb)
        have hE7 := HE.out.mono B7.out
        have ce := hE7.cell 0 (by decide)
        have he := err_neq_same hE7 (g := 0) (by decide)
        simp only [errV, errN_12] at ce he ⊢
        clear hE7 hb
        go_wp2
        go_roundw
        · exact ⟨t + 1, v6, l6, by omega, by go_num, HW7, HL6, B7⟩
        · simp [intOf]; omega
      · have hte : t = n := by omega
        subst hte
        go_wp2_with fail
        have q := wdone_spoilt E B g v l wr (HE.out.mono B0.out) HW.out
        with_reducible refine q.mono ?_
        clear q
        rintro e w7 ⟨rfl, hb⟩
        have B7 := Pk.mk (B0.out.trans (hb.mono B0.out.size))
        have hE7 := HE.out.mono B7.out
        have ce := hE7.cell 0 (by decide)
        have he := err_eql hE7 (g := 0) (h := 0) (by decide) (by decide)
        rw [beq_self_eq_true] at he
        simp only [errV, errN_12] at ce he ⊢
        clear hE7 hb
        go_wp2
        go_ret
        exact ⟨by first | rfl | simp, B7.out⟩

set_option maxRecDepth 100000 in
set_option maxHeartbeats 4000000 in
theorem wireSpoilt_walk (E : Nat → Addr) (A : Option Addr) (ca : Nat) (K : List OpV) (x : Int) (w : World) (hE : ErrW w E wErrs) (hA : OPS w A K) (_c : K.length ≤ ca) (hf : ∀ x ∈ K, x.fit) (hwx : (Lit.int .i64 x).wf = true) (hs : opsSum K ≤ 1048576) :
    Calls Tryd.prog 5 #[.slice A K.length ca, .int .i64 x] w fun e w' => e = .returned (.bool true) ∧ Below w.heap.size w w' := by
  by_cases hx : x < 0
  · exact wireSpoilt_walk0 E A ca K.length K x w hE rfl hA hf hs x (Or.inl ⟨hx, rfl⟩) hx
  · have hb := bounds_i64 hwx
    obtain ⟨m, rfl⟩ : ∃ m : Nat, x = (m : Int) := ⟨x.toNat, by omega⟩
    exact wireSpoilt_walk0 E A ca K.length K m w hE rfl hA hf hs (-1 - (m : Int)) (Or.inr ⟨by omega, xor_neg m (by omega)⟩) (by omega)
end Go.Proofs.YtdnmfgpladgjhaaDoor
