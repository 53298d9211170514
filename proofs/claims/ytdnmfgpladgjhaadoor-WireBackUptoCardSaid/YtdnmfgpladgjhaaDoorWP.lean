/- WireBack walked. -/
import Derived.Test.YtdnmfgpladgjhaaDoorWO
import Derived.Test.YtdnmfgpladgjhaaDoorWI
import Derived.Test.YtdnmfgpladgjhaaDoorWK
namespace Go.Proofs.YtdnmfgpladgjhaaDoor
open Go Go.RowKit Go.Proofs.YtdnmfgpladgjhaaDoor.Gf
set_option linter.unusedVariables false
set_option linter.unusedSimpArgs false

theorem put1_len (x : OpV) (h : x.l.length ≤ 140737488351232) : (put1 x).length ≤ 18 * (x.l.length + 1) := by
  have h1 := numB_len9 (nOf_spec x).1
  have h2 := numB_len9 (n := x.l.length) (by omega)
  unfold put1 opPut
  split
  · omega
  · split
    · rw [List.length_append]; omega
    · simp
theorem puts_len (K : List OpV) (h : ∀ x ∈ K, x.fit) : (puts K).length ≤ 18 * opsSum K := by
  induction K with
  | nil => simp [puts]
  | cons x K ih =>
    have h1 := put1_len x (h x (List.mem_cons_self ..)).2.2.2.2
    have h2 := ih (fun y hy => h y (List.mem_cons_of_mem _ hy))
    simp only [puts, opsSum, List.flatMap_cons, List.map_cons, List.sum_cons, List.length_append] at h2 ⊢
    omega
def backErrs : List Nat := [0, 1]

set_option maxRecDepth 100000 in
set_option maxHeartbeats 8000000 in
theorem wireBack_walk0 (E : Nat → Addr) (S : Option Addr) (sc n : Nat) (K : List OpV) (x : Int) (w : World) (hE : ErrW w E backErrs) (hn : K.length = n) (hS : OPS w S K) (hf : ∀ x ∈ K, x.fit) (hs : opsSum K ≤ 1048576) :
    Calls Tryd.prog 7 #[.slice S n sc, .int .i64 x] w fun e w' => e = .returned (.bool true) ∧ Below w.heap.size w w' := by
  have hnb : n ≤ 1048576 := by rw [← hn]; exact Nat.le_trans (opsSum_len K) hs
  have hpl := puts_len K hf
  have HS := Pk.mk hS
  have HE := Pk.mk (hE.sub (hs := rdErrs) (by decide))
  have HN := Pk.mk hn
  have HF := Pk.mk hf
  have HT := Pk.mk (show ∀ t, (puts (K.take t)).length ≤ 18 * 1048576 from fun t => by
    have h1 := puts_len (K.take t) (fun x hx => hf x (List.mem_of_mem_take hx))
    have h2 := opsSum_take K t
    omega)
  have HPL := Pk.mk (show (puts K).length ≤ 18 * 1048576 by omega)
  clear hE hS hn hf hs hpl
  go_enter Tryd.func7, Tryd.ntmps7
  go_wp2_with fail
  refine (alive13_calls w).mono ?_
  rintro e w1 ⟨rfl, hb⟩
  have B0 := Pk.mk hb
  have S1 := Pk.mk hb.size
  clear hb
  go_wp2_with fail
  have q := newWriter_calls w1
  with_reducible refine q.mono ?_
  clear q
  rintro e w2 ⟨g, rfl, hg, hw, hb⟩
  replace B0 := Pk.mk (B0.out.trans (hb.mono B0.out.size))
  have HW := Pk.mk hw
  clear hw hb
  obtain ⟨B, HB⟩ : ∃ B, Pk (w1.heap.size = B) := ⟨_, ⟨rfl⟩⟩
  rw [HB.out] at HW S1
  have Zb := S1
  go_wp2
  go_loopw [20] (fun x wr => ∃ (t : Nat) (v : Value), t ≤ n ∧ x = .int .i64 (t : Int) ∧ Pk (Wr B wr g v (puts (K.take t)) false) ∧ Pk (Below w.heap.size w wr)) (fun x _ => n - (intOf x).toNat)
  case atStart => exact ⟨0, _, Nat.zero_le _, rfl, ⟨by simpa [puts] using HW.out⟩, B0⟩
  case round =>
    clear HW B0
    obtain ⟨t, v, ht, rfl, HW, B0⟩ := hrel
    by_cases hlt : t < n
    · have hlt' : t < K.length := by rw [HN.out]; exact hlt
      obtain ⟨a, rfl, c0, c1, c2, c3, hr⟩ := (HS.out.mono B0.out).at hlt'
      have HR0 := Pk.mk (HS.out t _ (List.getElem?_eq_getElem hlt')).2
      have hfit := HF.out _ (List.getElem_mem hlt')
      have Hsu := Pk.mk (puts_succ hlt')
      obtain ⟨_, _, _, hcy, hly⟩ := hfit
      obtain ⟨hnn, hbn⟩ := nOf_spec K[t]
      have hlt2 := HT.out t
      have hlt3 := HT.out (t + 1)
      rw [Hsu.out, List.length_append] at hlt3
      generalize K[t] = y at *
      obtain ⟨wa, Hwa⟩ : ∃ wa, Pk (wr.alloc (.cells #[.int .i64 y.k, .int .i64 y.wh, .int .i64 y.n, .slice y.A y.l.length y.c] 38) = wa) := ⟨_, ⟨rfl⟩⟩
      have Ba := Pk.mk (show Below wr.heap.size wr wa by rw [← Hwa.out]; exact below_alloc _ _)
      have Bw := Pk.mk (B0.out.trans (Ba.out.mono B0.out.size))
      have HWa := Pk.mk (HW.out.mono Ba.out)
      have Za := Pk.mk (show B ≤ wa.heap.size from Nat.le_trans HWa.out.base (Nat.le_of_lt HWa.out.lt))
      have HRY := Pk.mk (show RB wa y.A y.l ∧ (∀ b, y.A = some b → 0 < y.l.length → b.block ≠ g ∧ v.ownBlock ≠ some b.block) from by
        refine ⟨HR0.out.mono Bw.out, fun b hb hp => ?_⟩
        have h1 := HR0.out.low hp b hb
        have h2 := Zb.out
        have h3 := HWa.out.base
        refine ⟨by omega, fun e => ?_⟩
        have := (HWa.out.own.lt _ e).1
        omega)
      have hcv := conv_bytes' (w := wa) y.c rfl HRY.out.1
      clear hr
      by_cases k1 : y.k = 1
      · have Hq := Pk.mk (show put1 y = numB (nOf y) by unfold put1 opPut; rw [if_pos k1])
        have Hwb := Pk.mk (show wr.alloc (.cells #[.int .i64 1, .int .i64 y.wh, .int .i64 y.n, .slice y.A y.l.length y.c] 38) = wa by rw [← k1]; exact Hwa.out)
        go_wp2_with fail
        rw [Hwb.out]
        have q := wnum_calls B g v (puts (K.take t)) false (nOf y) wa HWa.out Za.out hnn (by omega)
        with_reducible refine q.mono ?_
        clear q
        rintro e w5 ⟨rfl, v5, hw5, hf5⟩
        have hb5 := hf5.below HWa.out Za.out
        have B5 := Pk.mk (Bw.out.trans (hb5.mono Zb.out))
        rw [← Hq.out, ← Hsu.out] at hw5
        have HW5 := Pk.mk hw5
        clear hw5 hf5 hb5
        go_wp2
        go_roundw
        · exact ⟨t + 1, _, by omega, by go_num, HW5, B5⟩
        · simp [intOf]; omega
      · by_cases k2 : y.k = 2
        · have Hq := Pk.mk (show put1 y = numB y.l.length ++ y.l by unfold put1 opPut; rw [if_neg k1, if_pos (Or.inl k2)])
          have Hwb := Pk.mk (show wr.alloc (.cells #[.int .i64 2, .int .i64 y.wh, .int .i64 y.n, .slice y.A y.l.length y.c] 38) = wa by rw [← k2]; exact Hwa.out)
          rw [← Hwb.out] at hcv
          go_wp2_with fail
          rw [Hwb.out]
          have q := wtext_calls B g v (puts (K.take t)) false y.l wa HWa.out Za.out (by rw [Hq.out, List.length_append] at hlt3; omega)
          with_reducible refine q.mono ?_
          clear q
          rintro e w5 ⟨rfl, v5, hw5, hf5⟩
          have hb5 := hf5.below HWa.out Za.out
          have B5 := Pk.mk (Bw.out.trans (hb5.mono Zb.out))
          rw [← Hq.out, ← Hsu.out] at hw5
          have HW5 := Pk.mk hw5
          clear hw5 hf5 hb5
          go_wp2
          go_roundw
          · exact ⟨t + 1, _, by omega, by go_num, HW5, B5⟩
          · simp [intOf]; omega
        · by_cases k3 : y.k = 3
          · have Hq := Pk.mk (show put1 y = numB y.l.length ++ y.l by unfold put1 opPut; rw [if_neg k1, if_pos (Or.inr k3)])
            have Hwb := Pk.mk (show wr.alloc (.cells #[.int .i64 3, .int .i64 y.wh, .int .i64 y.n, .slice y.A y.l.length y.c] 38) = wa by rw [← k3]; exact Hwa.out)
            go_wp2_with fail
            rw [Hwb.out]
            have q := wbytes_calls B g v (puts (K.take t)) false y.A y.l.length y.c y.l wa HWa.out Za.out rfl HRY.out.1 HRY.out.2 (by rw [Hq.out, List.length_append] at hlt3; omega)
            with_reducible refine q.mono ?_
            clear q
            rintro e w5 ⟨rfl, v5, hw5, hf5⟩
            have hb5 := hf5.below HWa.out Za.out
            have B5 := Pk.mk (Bw.out.trans (hb5.mono Zb.out))
            rw [← Hq.out, ← Hsu.out] at hw5
            have HW5 := Pk.mk hw5
            clear hw5 hf5 hb5
            go_wp2
            go_roundw
            · exact ⟨t + 1, _, by omega, by go_num, HW5, B5⟩
            · simp [intOf]; omega
          · have Hq := Pk.mk (show put1 y = [] by unfold put1 opPut; rw [if_neg k1, if_neg (by rintro (h | h); exact k2 h; exact k3 h)])
            have HW5 := Pk.mk (show Wr B wa g v (puts (K.take (t + 1))) false by rw [Hsu.out, Hq.out, List.append_nil]; exact HWa.out)
            clear Hsu Hq hlt2 hlt3
            go_wp2
            rw [Hwa.out]
            go_roundw
            · exact ⟨t + 1, v, by omega, by go_num, HW5, Bw⟩
            · simp [intOf]; omega
    · have hte : t = n := by omega
      subst hte
      have hw := HW.out
      rw [← HN.out, List.take_length] at hw
      have HW1 := Pk.mk hw
      clear hw HW
      obtain ⟨m, Hm⟩ : ∃ m, Pk ((puts K).length = m) := ⟨_, ⟨rfl⟩⟩
      have hm := HPL.out
      rw [Hm.out] at hm
      go_wp2_with fail
      have q := wdone_calls B g v (puts K) wr HW1.out (by rw [Hm.out]; omega)
      rw [Hm.out] at q
      with_reducible refine q.mono ?_
      clear q
      rintro e w5 ⟨u, rfl, ho, hb⟩
      have B5 := Pk.mk (B0.out.trans (hb.mono B0.out.size))
      obtain ⟨V, cv, rfl, hcv, hcs, _⟩ := own_form ho
      have RV := Pk.mk (show RB w5 V (puts K) from hcs)
      clear ho hb hcs
      go_wp2_with fail
      have q := read_calls E V cv S t sc m K w5 (HE.out.mono B5.out) (by rw [← Hm.out, List.take_length]; exact RV.out) (Nat.le_of_eq Hm.out.symm) (by omega) (HS.out.mono B5.out) HN.out hnb HF.out
      rw [decide_eq_true Hm.out.symm] at q
      with_reducible refine q.mono ?_
      clear q
      rintro e w6 ⟨rfl, hb⟩
      have B6 := Pk.mk (B5.out.trans (hb.mono B5.out.size))
      have RV6 := Pk.mk (RV.out.mono hb)
      clear hb
      by_cases hm0 : m = 0
      · subst hm0
        go_wp2
        go_ret
        exact ⟨rfl, B6.out⟩
      · obtain ⟨j, hj, hje0⟩ := tmod_in x m (by omega)
        have hje : (wrap64 (x.tmod (m : Int) + (m : Int))).tmod (m : Int) = (j : Int) := by
          have h1 := Int.tmod_lt_of_pos x (show (0 : Int) < (m : Int) by omega)
          have h2 := Int.lt_tmod_of_pos x (show (0 : Int) < (m : Int) by omega)
          rw [← hje0]
          congr 1
          unfold wrap64
          omega
        clear hje0
        have hjc : j ≤ cv := by omega
        go_wp2_with fail
        have q := read_calls E V j S t sc j K w6 (HE.out.mono B6.out) (rb_take RV6.out j) (by rw [Hm.out]; omega) (by omega) (HS.out.mono B6.out) HN.out hnb HF.out
        rw [decide_eq_false (by rw [Hm.out]; omega)] at q
        with_reducible refine q.mono ?_
        clear q
        rintro e w7 ⟨rfl, hb⟩
        have B7 := Pk.mk (B6.out.trans (hb.mono B6.out.size))
        clear hb
        go_wp2
        go_ret
        exact ⟨rfl, B7.out⟩
theorem wireBack_walk (E : Nat → Addr) (S : Option Addr) (sc : Nat) (K : List OpV) (x : Int) (w : World) (hE : ErrW w E backErrs) (hS : OPS w S K) (_c : K.length ≤ sc) (hf : ∀ x ∈ K, x.fit) (_wx : (Lit.int .i64 x).wf = true) (hs : opsSum K ≤ 1048576) :
    Calls Tryd.prog 7 #[.slice S K.length sc, .int .i64 x] w fun e w' => e = .returned (.bool true) ∧ Below w.heap.size w w' := wireBack_walk0 E S sc K.length K x w hE rfl hS hf hs
end Go.Proofs.YtdnmfgpladgjhaaDoor
