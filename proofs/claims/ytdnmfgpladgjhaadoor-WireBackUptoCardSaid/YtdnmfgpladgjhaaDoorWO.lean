/- tesseralaw13.read walked. -/
import Derived.Test.YtdnmfgpladgjhaaDoorWN
import Derived.Test.YtdnmfgpladgjhaaDoorWF
namespace Go.Proofs.YtdnmfgpladgjhaaDoor
open Go Go.RowKit Go.Proofs.YtdnmfgpladgjhaaDoor.Gf
set_option linter.unusedVariables false
set_option linter.unusedSimpArgs false

def nOf (x : OpV) : Nat := (bits .and .i64 x.n 9223372036854775807).toNat
theorem nOf_spec (x : OpV) : nOf x < 9223372036854775808 ∧ bits .and .i64 x.n 9223372036854775807 = (nOf x : Int) := by
  obtain ⟨m, hm, h⟩ := and63 x.n
  have : nOf x = m := by unfold nOf; rw [h]; rfl
  rw [this]; exact ⟨hm, h⟩
def put1 (x : OpV) : List F := opPut x (nOf x)
def puts (K : List OpV) : List F := K.flatMap put1
theorem puts_succ {K : List OpV} {t : Nat} (h : t < K.length) : puts (K.take (t + 1)) = puts (K.take t) ++ put1 K[t] := by
  unfold puts
  rw [List.take_succ_eq_append_getElem h, List.flatMap_append, List.flatMap_singleton]
theorem puts_split {K : List OpV} {t : Nat} (h : t < K.length) : ∃ rest, puts K = puts (K.take t) ++ (put1 K[t] ++ rest) := by
  refine ⟨puts (K.drop (t + 1)), ?_⟩
  unfold puts
  conv => lhs; rw [← List.take_append_drop t K, ← List.getElem_cons_drop h]
  rw [List.flatMap_append, List.flatMap_cons]
/-- What lies ahead of the reader: the whole of an Op's bytes, or a strict beginning of them. -/
theorem ahead {K : List OpV} {m t : Nat} (h : t < K.length) (hm : m ≤ (puts K).length) (hp : (puts (K.take t)).length ≤ m) :
    ((∃ s, ((puts K).take m).drop (puts (K.take t)).length = put1 K[t] ++ s) ∧ (puts (K.take (t + 1))).length ≤ m) ∨
    (∃ c, c < (put1 K[t]).length ∧ ((puts K).take m).drop (puts (K.take t)).length = (put1 K[t]).take c ∧ m ≠ (puts K).length) := by
  obtain ⟨rest, hr⟩ := puts_split h
  have e1 : ((puts K).take m).drop (puts (K.take t)).length = (put1 K[t] ++ rest).take (m - (puts (K.take t)).length) := by
    rw [List.drop_take, hr, List.drop_left' rfl]
  have hl := congrArg List.length hr
  simp only [List.length_append] at hl
  rw [e1, puts_succ h]
  by_cases hc : (put1 K[t]).length ≤ m - (puts (K.take t)).length
  · left
    refine ⟨⟨rest.take (m - (puts (K.take t)).length - (put1 K[t]).length), ?_⟩, by rw [List.length_append]; omega⟩
    rw [List.take_append, List.take_of_length_le hc]
  · right
    refine ⟨m - (puts (K.take t)).length, by omega, ?_, by omega⟩
    rw [List.take_append_of_le_length (by omega)]

set_option maxRecDepth 100000 in
set_option maxHeartbeats 8000000 in
theorem read_calls (E : Nat → Addr) (A : Option Addr) (ca : Nat) (S : Option Addr) (n sc m : Nat) (K : List OpV) (w : World) (hE : ErrW w E rdErrs) (hA : RB w A ((puts K).take m)) (hm : m ≤ (puts K).length) (hl : m ≤ 140737488355328)
    (hS : OPS w S K) (hn : K.length = n) (hnb : n ≤ 1048576) (hf : ∀ x ∈ K, x.fit) :
    Calls Tryd.prog 30 #[.slice A m ca, .slice S n sc] w fun e w' => e = .returned (.tuple #[.bool (decide (m = (puts K).length)), .bool (decide (m = (puts K).length))]) ∧ Below w.heap.size w w' := by
  have HE := Pk.mk hE
  have HA := Pk.mk hA
  have HS := Pk.mk hS
  have HN := Pk.mk hn
  have HF := Pk.mk hf
  have HM := Pk.mk hm
  have Hlm := Pk.mk (show ((puts K).take m).length = m by rw [List.length_take]; omega)
  clear hE hA hS hn hf hm
  obtain ⟨whole, Hw⟩ : ∃ b, Pk (decide (m = (puts K).length) = b) := ⟨_, ⟨rfl⟩⟩
  rw [Hw.out]
  go_enter Tryd.func30, Tryd.ntmps30
  go_wp2_with fail
  have q := newReader_calls A m ca ((puts K).take m) w Hlm.out HA.out hl
  with_reducible refine q.mono ?_
  clear q
  rintro e w1 ⟨g, X, cx, rfl, hr, hb⟩
  have HR := Pk.mk hr
  have B0 := Pk.mk hb
  clear hr hb HA
  go_wp2
  go_loopw [21] (fun x wr => ∃ t : Nat, t ≤ n ∧ x = .int .i64 (t : Int) ∧ Pk ((puts (K.take t)).length ≤ m) ∧ Pk (Rd w.heap.size wr g X cx ((puts K).take m) (puts (K.take t)).length) ∧ Pk (Below w.heap.size w wr)) (fun x _ => n - (intOf x).toNat)
  case atStart => exact ⟨0, Nat.zero_le _, rfl, ⟨by simp [puts]⟩, ⟨by simpa [puts] using HR.out⟩, B0⟩
  case round =>
    clear HR B0
    obtain ⟨t, ht, rfl, HP, HR, B0⟩ := hrel
    by_cases hlt : t < n
    · have hlt' : t < K.length := by rw [HN.out]; exact hlt
      obtain ⟨a, rfl, c0, c1, c2, c3, hr⟩ := (HS.out.mono B0.out).at hlt'
      have hfit := HF.out _ (List.getElem_mem hlt')
      have HR0 := Pk.mk (HS.out t _ (List.getElem?_eq_getElem hlt')).2
      have Hah := Pk.mk (ahead hlt' HM.out HP.out)
      have Hsu := Pk.mk (puts_succ hlt')
      have hfx := hfit
      obtain ⟨_, _, _, hcy, hly⟩ := hfx
      obtain ⟨hnn, hbn⟩ := nOf_spec K[t]
      generalize K[t] = y at *
      obtain ⟨wa, Hwa⟩ : ∃ wa, Pk (wr.alloc (.cells #[.int .i64 y.k, .int .i64 y.wh, .int .i64 y.n, .slice y.A y.l.length y.c] 38) = wa) := ⟨_, ⟨rfl⟩⟩
      have Ba := Pk.mk (show Below wr.heap.size wr wa by rw [← Hwa.out]; exact below_alloc _ _)
      have Hblk := Pk.mk (show wa.heap[wr.heap.size]? = some (.cells #[.int .i64 y.k, .int .i64 y.wh, .int .i64 y.n, .slice y.A y.l.length y.c] 38 (0, 0)) by rw [← Hwa.out]; exact heap_alloc_new _ _)
      have Bw := Pk.mk (B0.out.trans (Ba.out.mono B0.out.size))
      have HRa := Pk.mk (HR.out.mono Ba.out)
      have Hgn := Pk.mk (show wr.heap.size ≠ g by have := HR.out.lt; omega)
      have hwg := Pk.mk HR.out.base
      have d0 : wa.cell? ⟨wr.heap.size, 0, none⟩ = some (.int .i64 y.k) := by rw [cell_of_row _ _ _ _ _ _ Hblk.out]; rfl
      have d3 : wa.cell? ⟨wr.heap.size, 3, none⟩ = some (.slice y.A y.l.length y.c) := by rw [cell_of_row _ _ _ _ _ _ Hblk.out]; rfl
      have HRY := Pk.mk hr
      clear hr hfit
      have e8 := numB_len9 hnn
      by_cases k1 : y.k = 1
      · have Hq := Pk.mk (show put1 y = numB (nOf y) by unfold put1 opPut; rw [if_pos k1])
        have Hwb := Pk.mk (show wr.alloc (.cells #[.int .i64 1, .int .i64 y.wh, .int .i64 y.n, .slice y.A y.l.length y.c] 38) = wa by rw [← k1]; exact Hwa.out)
        clear d0 d3
        rcases Hah.out with ⟨⟨s, h1⟩, h2⟩ | ⟨c, h1, h2, h3⟩
        · rw [Hq.out] at h1
          have e1 := rNum_put (most := 9223372036854775807) hnn h1 (by omega)
          have e2 : (puts (K.take t)).length + (numB (nOf y)).length = (puts (K.take (t + 1))).length := by rw [Hsu.out, Hq.out, List.length_append]
          rw [e2] at e1
          have H2 := Pk.mk h2
          have E1 := Pk.mk e1
          clear e1 e2 h1 h2 Hah Hsu Hq
          go_wp2_with fail
          rw [Hwb.out]
          have q := rnum_calls E w.heap.size g X cx _ _ 9223372036854775807 wa (HE.out.mono Bw.out) HRa.out
          rw [E1.out] at q
          with_reducible refine q.mono ?_
          clear q
          rintro e w5 ⟨rfl, hr5, hg5⟩
          have R5 := Pk.mk hr5
          have H5 := Pk.mk (heap_off Hblk.out hg5 Hgn.out)
          have B5 := Pk.mk (Bw.out.trans (below_grown hg5 Bw.out.size (fun k hk => by cases hk; exact hwg.out)))
          have RY5 := Pk.mk (HR0.out.mono B5.out)
          clear hr5 hg5
          have d2 : w5.cell? ⟨wr.heap.size, 2, none⟩ = some (.int .i64 y.n) := by rw [cell_of_row _ _ _ _ _ _ H5.out]; rfl
          simp only [errN_0]
          go_wp2
          go_roundw
          · exact ⟨t + 1, by omega, by go_num, H2, R5, B5⟩
          · simp [intOf]; omega
        · rw [Hq.out] at h1 h2
          have E1 := Pk.mk (rNum_cut (most := 9223372036854775807) h1 h2)
          have Hwf := Pk.mk (show whole = false by rw [← Hw.out]; simpa using h3)
          clear h1 h2 h3 Hah Hsu Hq
          go_wp2_with fail
          rw [Hwb.out]
          have q := rnum_calls E w.heap.size g X cx _ _ 9223372036854775807 wa (HE.out.mono Bw.out) HRa.out
          rw [E1.out] at q
          with_reducible refine q.mono ?_
          clear q
          rintro e w5 ⟨rfl, hr5, hg5⟩
          have R5 := Pk.mk hr5
          have H5 := Pk.mk (heap_off Hblk.out hg5 Hgn.out)
          have B5 := Pk.mk (Bw.out.trans (below_grown hg5 Bw.out.size (fun k hk => by cases hk; exact hwg.out)))
          have RY5 := Pk.mk (HR0.out.mono B5.out)
          clear hr5 hg5
          have hne := fun gg => err_neq_nil (w := w5) E gg
          simp only [errN_10]
          go_wp2
          go_ret2
          exact ⟨by rw [Hwf.out]; rfl, B5.out⟩
      · by_cases k2 : y.k = 2
        · have Hq := Pk.mk (show put1 y = numB y.l.length ++ y.l by unfold put1 opPut; rw [if_neg k1, if_pos (Or.inl k2)])
          have Hwb := Pk.mk (show wr.alloc (.cells #[.int .i64 2, .int .i64 y.wh, .int .i64 y.n, .slice y.A y.l.length y.c] 38) = wa by rw [← k2]; exact Hwa.out)
          clear d0 d3
          have hly2 : y.l.length < 9223372036854775808 := by omega
          have hpl := HR.out.pos
          rcases Hah.out with ⟨⟨s, h1⟩, h2⟩ | ⟨c, h1, h2, h3⟩
          · rw [Hq.out] at h1
            have e1 := rBytes_put (most := (y.l.length : Int)) hly2 h1 (by omega) hpl
            have e2 : (puts (K.take t)).length + (numB y.l.length ++ y.l).length = (puts (K.take (t + 1))).length := by rw [Hsu.out, Hq.out]; exact (List.length_append).symm
            rw [e2] at e1
            have H2 := Pk.mk h2
            have E1 := Pk.mk e1
            clear e1 e2 h1 h2 Hah Hsu Hq hpl
            go_wp2_with fail
            rw [Hwb.out]
            have q := rtext_calls E w.heap.size g X cx _ _ (y.l.length : Int) wa (HE.out.mono Bw.out) HRa.out
            rw [E1.out] at q
            with_reducible refine q.mono ?_
            clear q
            rintro e w5 ⟨rfl, hr5, hg5⟩
            have R5 := Pk.mk hr5
            have H5 := Pk.mk (heap_off Hblk.out hg5 Hgn.out)
            have B5 := Pk.mk (Bw.out.trans (below_grown hg5 Bw.out.size (fun k hk => by cases hk; exact hwg.out)))
            have RY5 := Pk.mk (HR0.out.mono B5.out)
            clear hr5 hg5
            have d3 : w5.cell? ⟨wr.heap.size, 3, none⟩ = some (.slice y.A y.l.length y.c) := by rw [cell_of_row _ _ _ _ _ _ H5.out]; rfl
            have hcv := conv_bytes' (w := w5) y.c rfl RY5.out
            simp only [errN_0]
            go_wp2
            go_roundw
            · exact ⟨t + 1, by omega, by go_num, H2, R5, B5⟩
            · simp [intOf]; omega
          · rw [Hq.out] at h1 h2
            have E1 := Pk.mk (rBytes_cut (most := (y.l.length : Int)) hly2 h1 h2 hpl)
            have Hwf := Pk.mk (show whole = false by rw [← Hw.out]; simpa using h3)
            clear h1 h2 h3 Hah Hsu Hq hpl
            go_wp2_with fail
            rw [Hwb.out]
            have q := rtext_calls E w.heap.size g X cx _ _ (y.l.length : Int) wa (HE.out.mono Bw.out) HRa.out
            rw [E1.out] at q
            with_reducible refine q.mono ?_
            clear q
            rintro e w5 ⟨rfl, hr5, hg5⟩
            have R5 := Pk.mk hr5
            have H5 := Pk.mk (heap_off Hblk.out hg5 Hgn.out)
            have B5 := Pk.mk (Bw.out.trans (below_grown hg5 Bw.out.size (fun k hk => by cases hk; exact hwg.out)))
            have RY5 := Pk.mk (HR0.out.mono B5.out)
            clear hr5 hg5
            have hne := fun gg => err_neq_nil (w := w5) E gg
            simp only [errN_10]
            go_wp2
            go_ret2
            exact ⟨by rw [Hwf.out]; rfl, B5.out⟩
        · by_cases k3 : y.k = 3
          · have Hq := Pk.mk (show put1 y = numB y.l.length ++ y.l by unfold put1 opPut; rw [if_neg k1, if_pos (Or.inr k3)])
            have Hwb := Pk.mk (show wr.alloc (.cells #[.int .i64 3, .int .i64 y.wh, .int .i64 y.n, .slice y.A y.l.length y.c] 38) = wa by rw [← k3]; exact Hwa.out)
            clear d0 d3
            have hly2 : y.l.length < 9223372036854775808 := by omega
            have hpl := HR.out.pos
            rcases Hah.out with ⟨⟨s, h1⟩, h2⟩ | ⟨c, h1, h2, h3⟩
            · rw [Hq.out] at h1
              have e1 := rBytes_put (most := (y.l.length : Int)) hly2 h1 (by omega) hpl
              have e2 : (puts (K.take t)).length + (numB y.l.length ++ y.l).length = (puts (K.take (t + 1))).length := by rw [Hsu.out, Hq.out]; exact (List.length_append).symm
              rw [e2] at e1
              have H2 := Pk.mk h2
              have E1 := Pk.mk e1
              clear e1 e2 h1 h2 Hah Hsu Hq hpl
              go_wp2_with fail
              rw [Hwb.out]
              have q := rbytes_calls E w.heap.size g X cx _ _ (y.l.length : Int) wa (HE.out.mono Bw.out) HRa.out
              rw [E1.out] at q
              with_reducible refine q.mono ?_
              clear q
              rintro e w5 ⟨v, rfl, ho5, hr5, hg5⟩
              obtain ⟨V, cv, rfl, _, hcs5, _⟩ := own_form ho5
              have hcw := conv_bytes' (w := w5) cv rfl (show RB w5 V y.l from hcs5)
              clear ho5 hcs5
              have R5 := Pk.mk hr5
              have H5 := Pk.mk (heap_off Hblk.out hg5 Hgn.out)
              have B5 := Pk.mk (Bw.out.trans (below_grown hg5 Bw.out.size (fun k hk => by cases hk; exact hwg.out)))
              have RY5 := Pk.mk (HR0.out.mono B5.out)
              clear hr5 hg5
              have d3 : w5.cell? ⟨wr.heap.size, 3, none⟩ = some (.slice y.A y.l.length y.c) := by rw [cell_of_row _ _ _ _ _ _ H5.out]; rfl
              have hcv := conv_bytes' (w := w5) y.c rfl RY5.out
              simp only [errN_0]
              go_wp2
              go_roundw
              · exact ⟨t + 1, by omega, by go_num, H2, R5, B5⟩
              · simp [intOf]; omega
            · rw [Hq.out] at h1 h2
              have E1 := Pk.mk (rBytes_cut (most := (y.l.length : Int)) hly2 h1 h2 hpl)
              have Hwf := Pk.mk (show whole = false by rw [← Hw.out]; simpa using h3)
              clear h1 h2 h3 Hah Hsu Hq hpl
              go_wp2_with fail
              rw [Hwb.out]
              have q := rbytes_calls E w.heap.size g X cx _ _ (y.l.length : Int) wa (HE.out.mono Bw.out) HRa.out
              rw [E1.out] at q
              with_reducible refine q.mono ?_
              clear q
              rintro e w5 ⟨v, rfl, ho5, hr5, hg5⟩
              clear ho5
              have R5 := Pk.mk hr5
              have H5 := Pk.mk (heap_off Hblk.out hg5 Hgn.out)
              have B5 := Pk.mk (Bw.out.trans (below_grown hg5 Bw.out.size (fun k hk => by cases hk; exact hwg.out)))
              have RY5 := Pk.mk (HR0.out.mono B5.out)
              clear hr5 hg5
              have hne := fun gg => err_neq_nil (w := w5) E gg
              simp only [errN_10]
              go_wp2
              go_ret2
              exact ⟨by rw [Hwf.out]; rfl, B5.out⟩
          · have Hq := Pk.mk (show put1 y = [] by unfold put1 opPut; rw [if_neg k1, if_neg (by rintro (h | h); exact k2 h; exact k3 h)])
            have H2 := Pk.mk (show (puts (K.take (t + 1))).length ≤ m by rw [Hsu.out, Hq.out, List.append_nil]; exact HP.out)
            have R5 := Pk.mk (show Rd w.heap.size wa g X cx ((puts K).take m) (puts (K.take (t + 1))).length by rw [Hsu.out, Hq.out, List.append_nil]; exact HRa.out)
            clear Hah Hsu Hq
            go_wp2
            rw [Hwa.out]
            go_roundw
            · exact ⟨t + 1, by omega, by go_num, H2, R5, Bw⟩
            · simp [intOf]; omega
    · have hte : t = n := by omega
      subst hte
      have hp := HP.out
      have hr := HR.out
      rw [← HN.out, List.take_length] at hp hr
      have hmm : m = (puts K).length := by have := HM.out; omega
      have Hwt := Pk.mk (show whole = true by rw [← Hw.out]; simpa using hmm)
      have HR1 := Pk.mk hr
      have hpm := Pk.mk (show (puts K).length = ((puts K).take m).length by rw [Hlm.out, hmm])
      clear hp hr hmm
      have he := end_calls E w.heap.size g X cx ((puts K).take m) (puts K).length
      rw [if_pos hpm.out, errN_0] at he
      go_wp2_with fail
      apply wp_region_each' [(83, []), (84, [0]), (85, [1]), (4, [1]), (5, [2, 3, 0, 1, 2, 3])] [isV _, isV .nilIface, isV _, isV _, isV _] (by kernel_rfl) (by kernel_rfl)
      case hstab => repeat' first | (intro _ _ _ _ h; exact h) | exact isR_stable | exact trivial | refine And.intro ?_ ?_ | assumption
      case hops =>
        refine eachOp_cons ?_ ?_
        · intro wz hwz
          simp only [eachDep]
          replace hwz : Pk (Below wr.heap.size wr wz) := hwz
          simp only [Step, Act.put, dstIn, List.map_cons, List.getD_cons_zero, List.getD_cons_succ, List.setIfInBounds_toArray, List.set_cons_zero, List.set_cons_succ]
          intro R hR
          rw [if_pos (by rfl)]
          go_simp
          first | exact hR _ _ ⟨⟨Below.refl _ _⟩, isV_mk (w := wz)⟩ | (rw [if_pos (by omega)]; exact hR _ _ ⟨⟨Below.refl _ _⟩, isV_mk (w := wz)⟩)
        refine eachOp_cons ?_ ?_
        · intro wz hwz
          simp only [eachDep]
          replace hwz : Pk (Below wr.heap.size wr wz) := hwz
          (intro v h; have h2 := (id h : v = _); clear h; subst h2)
          simp only [Step, Act.put, dstIn, List.map_cons, List.getD_cons_zero, List.getD_cons_succ, List.setIfInBounds_toArray, List.set_cons_zero, List.set_cons_succ]
          intro R hR
          rw [if_pos (by rfl)]
          go_simp
          (go_at_call 28; (with_reducible refine (he _ ((HE.out.mono B0.out).mono hwz.out) (HR1.out.mono hwz.out)).mono ?_); rintro e w' ⟨rfl, hb⟩; exact hR _ _ ⟨⟨hb⟩, isV_mk (w := w')⟩)
        refine eachOp_cons ?_ ?_
        · intro wz hwz
          simp only [eachDep]
          replace hwz : Pk (Below wr.heap.size wr wz) := hwz
          (intro v h; have h2 := (id h : v = _); clear h; subst h2)
          simp only [Step, Act.put, dstIn, List.map_cons, List.getD_cons_zero, List.getD_cons_succ, List.setIfInBounds_toArray, List.set_cons_zero, List.set_cons_succ]
          intro R hR
          rw [if_pos (by rfl)]
          go_simp
          first | exact hR _ _ ⟨⟨Below.refl _ _⟩, isV_mk (w := wz)⟩ | (rw [if_pos (by omega)]; exact hR _ _ ⟨⟨Below.refl _ _⟩, isV_mk (w := wz)⟩)
        refine eachOp_cons ?_ ?_
        · intro wz hwz
          simp only [eachDep]
          replace hwz : Pk (Below wr.heap.size wr wz) := hwz
          (intro v h; have h2 := (id h : v = _); clear h; subst h2)
          simp only [Step, Act.put, dstIn, List.map_cons, List.getD_cons_zero, List.getD_cons_succ, List.setIfInBounds_toArray, List.set_cons_zero, List.set_cons_succ]
          intro R hR
          rw [if_pos (by rfl)]
          go_simp
          first | exact hR _ _ ⟨⟨Below.refl _ _⟩, isV_mk (w := wz)⟩ | (rw [if_pos (by omega)]; exact hR _ _ ⟨⟨Below.refl _ _⟩, isV_mk (w := wz)⟩)
        refine eachOp_cons ?_ ?_
        · intro wz hwz
          simp only [eachDep]
          replace hwz : Pk (Below wr.heap.size wr wz) := hwz
          (intro v h; have h2 := (id h : v = _); clear h; subst h2)
          (intro v h; have h2 := (id h : v = _); clear h; subst h2)
          (intro v h; have h2 := (id h : v = _); clear h; subst h2)
          (intro v h; have h2 := (id h : v = _); clear h; subst h2)
          (intro v h; have h2 := (id h : v = _); clear h; subst h2)
          (intro v h; have h2 := (id h : v = _); clear h; subst h2)
          simp only [Step, Act.put, dstIn, List.map_cons, List.getD_cons_zero, List.getD_cons_succ, List.setIfInBounds_toArray, List.set_cons_zero, List.set_cons_succ]
          intro R hR
          rw [if_pos (by rfl)]
          go_simp
          first | exact hR _ _ ⟨⟨Below.refl _ _⟩, isV_mk (w := wz)⟩ | (rw [if_pos (by omega)]; exact hR _ _ ⟨⟨Below.refl _ _⟩, isV_mk (w := wz)⟩)
        exact eachOp_nil
      intro wq hwq
      simp only [eachDep, List.size_toArray, List.length_cons, List.length_nil, Nat.zero_add, Nat.reduceAdd, List.range, List.range.loop]
      (intro v h; have h2 := (id h : v = _); clear h; subst h2)
      (intro v h; have h2 := (id h : v = _); clear h; subst h2)
      (intro v h; have h2 := (id h : v = _); clear h; subst h2)
      (intro v h; have h2 := (id h : v = _); clear h; subst h2)
      (intro v h; have h2 := (id h : v = _); clear h; subst h2)
      simp only [Act.put, dstIn, List.map_cons, List.getD_cons_zero, List.getD_cons_succ, List.setIfInBounds_toArray, List.set_cons_zero, List.set_cons_succ]
      have hwq' : Below wr.heap.size wr wq := hwq.out
      have B5 := Pk.mk (B0.out.trans (hwq'.mono B0.out.size))
      clear hwq hwq' he
      go_wp2
      go_ret2
      exact ⟨by rw [Hwt.out]; first | rfl | simp, B5.out⟩
end Go.Proofs.YtdnmfgpladgjhaaDoor
