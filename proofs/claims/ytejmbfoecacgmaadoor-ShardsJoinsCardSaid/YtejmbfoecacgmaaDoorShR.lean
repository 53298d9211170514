/- ShardsJoins walked. -/
import Derived.Test.YtejmbfoecacgmaaDoorShQ
namespace Go.Proofs.YtejmbfoecacgmaaDoor
open Go Go.RowKit Go.Proofs.YtejmbfoecacgmaaDoor.Gf
set_option linter.unusedVariables false
set_option linter.unusedSimpArgs false

/-- Copies with marked room, each in a block of its own. -/
def MBs (w : World) (base : Nat) (K H : List Sh) : Prop := K.length = H.length ∧ ∀ (j : Nat) (x y : Sh), K[j]? = some x → H[j]? = some y → ∃ g, x = (some ⟨g, 0, none⟩, y.2.2.length + 6, y.2.2) ∧ base ≤ g ∧ BB w g (y.2.2 ++ marks)
theorem MBs.nil (w : World) (base : Nat) : MBs w base [] [] := And.intro rfl (fun j x y h => by simp at h)
theorem MBs.mono {w w' : World} {base : Nat} {K H : List Sh} (h : MBs w base K H) (hb : Below w.heap.size w w') : MBs w' base K H :=
  And.intro h.1 (fun j x y h1 h2 => by
    obtain ⟨g, hx, hg, hB⟩ := h.2 j x y h1 h2
    exact ⟨g, hx, hg, hB.mono hb⟩)
theorem MBs.off {w w' : World} {base B g : Nat} {K H : List Sh} (h : MBs w base K H) (hgr : w.grownBy w' (some g)) (hlt : ∀ (j : Nat) (x : Sh), K[j]? = some x → ∀ a, x.1 = some a → a.block ≠ g) : MBs w' base K H :=
  And.intro h.1 (fun j x y h1 h2 => by
    obtain ⟨g', hx, hg, hB⟩ := h.2 j x y h1 h2
    exact ⟨g', hx, hg, Blk.off hB hgr (by have := hlt j x h1; rw [hx] at this; exact this _ rfl)⟩)
theorem MBs.keep {w w' : World} {b base n : Nat} {K H : List Sh} {v : Value} {xs : List Value} (h : MBs w b K H) (ho : w.ownsRow base 22 1 v n xs) (hk : ∀ k, k < w.heap.size → v.ownBlock ≠ some k → w'.heap[k]? = w.heap[k]?) : MBs w' b K H :=
  And.intro h.1 (fun j x y h1 h2 => by
    obtain ⟨g, hx, hg, hB⟩ := h.2 j x y h1 h2
    exact ⟨g, hx, hg, (hk g hB.lt (own_ne ho hB)).trans hB⟩)
theorem MBs.snoc {w : World} {base g : Nat} {K H : List Sh} {y : Sh} (h : MBs w base K H) (hg : base ≤ g) (hB : BB w g (y.2.2 ++ marks)) : MBs w base (K ++ [(some ⟨g, 0, none⟩, y.2.2.length + 6, y.2.2)]) (H ++ [y]) :=
  And.intro (by simp [h.1]) (fun j x z h1 h2 => by
    rcases Nat.lt_or_ge j K.length with hj | hj
    · rw [List.getElem?_append_left hj] at h1
      rw [List.getElem?_append_left (by rw [← h.1]; exact hj)] at h2
      exact h.2 j x z h1 h2
    · rw [List.getElem?_append_right hj] at h1
      rw [List.getElem?_append_right (by rw [← h.1]; exact hj), ← h.1] at h2
      cases hd : j - K.length with
      | zero =>
        rw [hd] at h1 h2
        simp only [List.getElem?_cons_zero, Option.some.injEq] at h1 h2
        subst h1 h2
        exact ⟨g, rfl, hg, hB⟩
      | succ d => rw [hd] at h1; simp at h1)
theorem MBs.rbs {w : World} {base : Nat} {K H : List Sh} (h : MBs w base K H) : rbs w K := fun x hx => by
  obtain ⟨j, hj, hjx⟩ := List.getElem_of_mem hx
  obtain ⟨g, hx, hg, hB⟩ := h.2 j x (H[j]'(by rw [← h.1]; exact hj)) (by rw [List.getElem?_eq_getElem hj, hjx]) (List.getElem?_eq_getElem (by rw [← h.1]; exact hj))
  rw [hx]; exact hB.front
theorem MBs.fit {w : World} {base n hh : Nat} {K H : List Sh} (h : MBs w base K H) : fitH K n hh ↔ fitH H n hh := by
  have key : ∀ (j : Nat) (h1 : j < K.length) (h2 : j < H.length), K[j].2.2 = H[j].2.2 := fun j h1 h2 => by
    obtain ⟨g, hx, _⟩ := h.2 j _ _ (List.getElem?_eq_getElem h1) (List.getElem?_eq_getElem h2)
    rw [hx]
  refine ⟨fun hf => And.intro (by rw [← h.1]; exact hf.1) (fun x hx => ?_), fun hf => And.intro (by rw [h.1]; exact hf.1) (fun x hx => ?_)⟩
  · obtain ⟨j, hj, rfl⟩ := List.getElem_of_mem hx
    rw [← key j (by rw [h.1]; exact hj) hj]; exact hf.2 _ (List.getElem_mem _)
  · obtain ⟨j, hj, rfl⟩ := List.getElem_of_mem hx
    rw [key j hj (by rw [← h.1]; exact hj)]; exact hf.2 _ (List.getElem_mem _)
theorem MBs.join_eq {w : World} {base : Nat} {K H : List Sh} (h : MBs w base K H) (t : Nat) : joined K t = joined H t := by
  have e : lists K = lists H := by
    apply List.ext_getElem?
    intro j
    simp only [lists, List.getElem?_map]
    rcases Nat.lt_or_ge j K.length with hj | hj
    · have hj2 : j < H.length := by rw [← h.1]; exact hj
      obtain ⟨g, hx, _⟩ := h.2 j _ _ (List.getElem?_eq_getElem hj) (List.getElem?_eq_getElem hj2)
      rw [List.getElem?_eq_getElem hj, List.getElem?_eq_getElem hj2, hx]
      rfl
    · rw [List.getElem?_eq_none hj, List.getElem?_eq_none (by rw [← h.1]; exact hj)]
  have f : ∀ (L : List Sh), joined L t = ((lists L).take t).flatten := fun L => by
    rw [joined, lists, ← List.map_take, List.flatMap_def]
  rw [f, f, e]

/-- Apart, the second list the head of a block, without the room behind it. -/
theorem apart_cut (A : Option Addr) (ca n : Nat) (la : List F) (g : Nat) (ds : List F) (ex : List Value) (m : Nat) (w : World) (hn : la.length = n) (ha : RB w A la) (hA : ∀ a, A = some a → a.block ≠ g)
    (hg : w.heap[g]? = some (.cells (bvs ds ++ ex).toArray 5 (0, 0))) (hm : ds.length = m) (hl : m ≤ 140737488355000) :
    Calls Tryd.prog 15 #[.slice A n ca, .slice (some ⟨g, 0, none⟩) m m] w
      fun e w' => e = .returned (.bool true) ∧ (∃ ds2 : List F, ds2.length = m ∧ w'.heap[g]? = some (.cells (bvs ds2 ++ ex).toArray 5 (0, 0))) ∧ w.grownBy w' (some g) := by
  subst hn hm
  refine (apart_calls A ca la g ds.length [] ex [] ds w (by simpa using hg) (by simp) ?_ hl).mono ?_
  · intro w' mid _ _ hgr
    exact ha.off hgr (fun _ => hA)
  · rintro e w' ⟨rfl, ⟨qs, ex', h1, h2, h3⟩, hgr⟩
    obtain rfl : ex' = [] := List.length_eq_zero_iff.1 h2
    exact ⟨rfl, ⟨qs, h1, by simpa using h3⟩, hgr⟩

set_option maxRecDepth 100000 in
set_option maxHeartbeats 4000000 in
theorem shardsJoins_walk0 (E : Nat → Addr) (k size : Int) (A : Option Addr) (n ca : Nat) (H : List Sh) (w : World) (hE : ErrW w E errG) (hs : size ≤ 9223372036854775807) (hL : LL w A H) (hn : H.length = n) (hnl : n ≤ 5864062014634) (hl : ∀ x ∈ H, x.2.2.length ≤ 140737488351232) :
    Calls Tryd.prog 5 #[.int .i64 k, .int .i64 size, .slice A n ca] w fun e w' => e = .returned (.bool true) ∧ Below w.heap.size w w' := by
  have HE := Pk.mk hE
  have HL := Pk.mk hL
  have HN := Pk.mk hn
  have HB := Pk.mk hl
  have B0 := Pk.mk (Below.refl w.heap.size w)
  clear hE hL hn hl
  go_enter Tryd.func5, Tryd.ntmps5
  go_wp2_with fail
  refine (alive06_calls E w (HE.out.sub shErrs_sub)).mono ?_
  rintro e w1 ⟨rfl, hb⟩
  replace HE := Pk.mk (HE.out.mono hb)
  replace HL := Pk.mk (HL.out.mono hb)
  replace B0 := Pk.mk (B0.out.trans ((hb).mono B0.out.size))
  clear hb
  have HO0 := Pk.mk (own_of_blk (base := w1.heap.size) (e := 22) (xs := []) (ex := []) (Nat.le_refl _) (heap_alloc_new w1 (.cells #[] 22)) (by unfold maxLen; simp))
  go_wp2
  go_loopw [21, 7] (fun x o wr => ∃ (t : Nat) (K : List Sh), t ≤ n ∧ x = .int .i64 (t : Int) ∧ Pk (wr.ownsRow w1.heap.size 22 1 o t (K.map hdr)) ∧ Pk (MBs wr w1.heap.size K (H.take t)) ∧ Pk (Below w1.heap.size w1 wr)) (fun x _ _ => n - (intOf x).toNat)
  case atStart => exact ⟨0, [], Nat.zero_le _, rfl, HO0, ⟨by rw [List.take_zero]; exact MBs.nil _ _⟩, ⟨below_alloc _ _⟩⟩
  case round =>
    clear HO0
    obtain ⟨t, K, ht, rfl, HO, HK, Hb⟩ := hrel
    obtain ⟨wo, rfl⟩ : ∃ wo : World, wo = wr := ⟨_, rfl⟩
    by_cases hlt : t < n
    · have hlt' : t < H.length := by rw [HN.out]; exact hlt
      obtain ⟨a, rfl, hcell, hrb⟩ := (HL.out.mono Hb.out).at hlt'
      have Ht := Pk.mk (List.take_succ_eq_append_getElem hlt')
      have hlen := HB.out _ (List.getElem_mem hlt')
      generalize H[t] = x at *
      obtain ⟨X, cx, lx⟩ := x
      simp only at hrb hlen
      simp only [hdr] at hcell
      go_wp2_with fail
      have q := bytes_calls X cx lx wo hrb hlen
      with_reducible refine q.mono ?_
      clear q
      rintro e w2 ⟨g, rfl, hg, hB, hb⟩
      have HO1 := own_below HO.out hb
      have HK1 := HK.out.mono hb
      have HB1 := Pk.mk hB
      have HO1 := Pk.mk HO1
      have HK1 := Pk.mk HK1
      have Hg := Pk.mk (Nat.le_trans Hb.out.size hg)
      have Hb1 := Pk.mk (Hb.out.trans (hb.mono Hb.out.size))
      clear hB hb hg HO HK hcell hrb
      go_wp2_with ((with_reducible refine gate_b (b := .append) rfl ?_); refine Pk.out ?_)
      refine ⟨?_⟩
      refine push_list w1.heap.size _ t (K.map hdr) HO1.out Hb1.out.size _ _ _ (by omega) rfl rfl rfl rfl ?_
      intro v4 w4 hown hb hk
      have HO2 := Pk.mk (show w4.ownsRow w1.heap.size 22 1 v4 (t + 1) (List.map hdr (K ++ [((some ⟨g, 0, none⟩, lx.length + 6, lx) : Sh)])) by
        rw [List.map_append, List.map_singleton, hdr]; exact hown)
      have HK2 := Pk.mk (show MBs w4 w1.heap.size (K ++ [((some ⟨g, 0, none⟩, lx.length + 6, lx) : Sh)]) (H.take (t + 1)) by
        rw [Ht.out]
        exact (HK1.out.keep HO1.out hk).snoc (y := (X, cx, lx)) Hg.out ((hk _ HB1.out.lt (own_ne HO1.out HB1.out)).trans HB1.out))
      have Hb2 := Pk.mk (Hb1.out.trans hb)
      clear hown hb hk HO1 HK1 HB1 Hb1 Hb Ht
      go_wp2
      go_roundw
      · exact ⟨t + 1, _, by omega, by go_num, HO2, HK2, Hb2⟩
      · simp [intOf]; omega
    · have hte : t = n := by omega
      subst hte
      have HKn := Pk.mk (show MBs wo w1.heap.size K H by have h := HK.out; rwa [List.take_of_length_le (by rw [HN.out]; exact Nat.le_refl _)] at h)
      have hb := Hb.out
      replace HE := Pk.mk (HE.out.mono hb)
      replace HL := Pk.mk (HL.out.mono hb)
      replace B0 := Pk.mk (B0.out.trans ((hb).mono B0.out.size))
      clear hb
      obtain ⟨X, cx, rfl, hcx, hcs, _⟩ := own_form HO.out
      have HLK := Pk.mk (show LL wo X K from And.intro hcs HKn.out.rbs)
      have HKl := Pk.mk (show K.length = t by rw [HKn.out.1, HN.out])
      clear hcs HK HO
      have BJ := Pk.mk (Below.refl wo.heap.size wo)
      have HEo := HE
      obtain ⟨wj, rfl⟩ : ∃ wj : World, wj = wo := ⟨_, rfl⟩
      by_cases h0 : halfC k size = 0
      · obtain ⟨k1, k2, s1, s2, v1, v2, m1, m2⟩ := half_ok h0
        obtain ⟨kk, rfl⟩ : ∃ kk : Nat, k = kk := ⟨k.toNat, by omega⟩
        obtain ⟨sz, rfl⟩ : ∃ sz : Nat, size = sz := ⟨size.toNat, by omega⟩
        obtain ⟨hh, hv⟩ : ∃ hh : Nat, halfV kk sz = hh := ⟨(halfV kk sz).toNat, by omega⟩
        have H0 := Pk.mk h0
        have HV := Pk.mk hv
        clear h0 hv m1 m2
        by_cases hf : fitH H (2 * kk) hh
        · have Hf := Pk.mk hf
          have Htk := Pk.mk (show t = 2 * kk by rw [← HN.out]; exact hf.1)
          have HKf := Pk.mk ((HKn.out.fit).2 hf)
          clear hf
          go_wp2_with fail
          have q := join_ok E kk hh sz t X cx K wj (HE.out.sub shErrs_sub) HLK.out.1 HLK.out.2 HKf.out.2 HKl.out Htk.out H0.out HV.out
          with_reducible refine q.mono ?_
          clear q
          rintro e w5 ⟨v5, rfl, ho, hb⟩
          obtain ⟨gd, exd, rfl, hgd, hrow, hdl, _⟩ := own_blk ho (Or.inl (by omega))
          have HD := Pk.mk hrow
          have Hgd := Pk.mk hgd
          have HDl := Pk.mk (show ((joined K t).take sz).length = sz by rw [← bvs_length]; exact hdl)
          replace BJ := Pk.mk (BJ.out.trans ((hb).mono BJ.out.size))
          clear hb
          clear hgd hrow hdl ho
          go_wp2_with fail
          have q := refJoin_calls kk hh sz A t ca H w5 (HL.out.mono BJ.out) HN.out hnl H0.out HV.out
          with_reducible refine q.mono ?_
          clear q
          rintro e w6 ⟨hb, hrj⟩
          have HD6 := Pk.mk ((hb.block gd (Array.getElem?_eq_some_iff.1 HD.out).1).trans HD.out)
          replace BJ := Pk.mk (BJ.out.trans ((hb).mono BJ.out.size))
          clear hb
          have Hrj := Pk.mk hrj
          clear hrj
          obtain ⟨v6, rfl, ho6⟩ : ∃ v, e = .returned (.tuple #[v, .int .i64 0]) ∧ w6.ownsRow w5.heap.size 5 1 v sz (bvs ((joined H (2 * kk)).take sz)) := by
            rcases Hrj.out with ⟨_, h⟩ | ⟨h, _⟩
            · exact h
            · exact absurd Hf.out h
          obtain ⟨Y, cy, rfl, hcy, hcs, hyl⟩ := own_form ho6
          have HY := Pk.mk hcs
          have HYl := Pk.mk (show ((joined H (2 * kk)).take sz).length = sz by rw [← bvs_length]; exact hyl)
          clear Hrj ho6 hcy hcs hyl
          go_wp2_with fail
          have q := num0_calls E w6 (HE.out.mono BJ.out)
          with_reducible refine q.mono ?_
          clear q
          rintro e w7 ⟨rfl, hb⟩
          have HD7 := Pk.mk ((hb.block gd (Array.getElem?_eq_some_iff.1 HD6.out).1).trans HD6.out)
          have hje : joined K t = joined H (2 * kk) := by rw [HKn.out.join_eq, Htk.out]
          have r1 := conv_bytes' (n := sz) (sz + exd.length) HDl.out (Cs.of_blk HD7.out)
          have r2 := conv_bytes' (n := sz) cy HYl.out (HY.out.mono hb)
          rw [hje] at r1
          have hbb : ((bs ((joined H (2 * kk)).take sz)).toList == (bs ((joined H (2 * kk)).take sz)).toList) = true := beq_self_eq_true _
          replace BJ := Pk.mk (BJ.out.trans ((hb).mono BJ.out.size))
          clear hb
          clear HD HD6 hje
          go_wp2
          clear r1 r2 hbb
          go_loopw [58] (fun x wr => ∃ (u : Nat) (ds : List F) (ex : List Value), u ≤ t ∧ x = .int .i64 (u : Int) ∧ Pk (ds.length = sz ∧ ex.length = exd.length) ∧ Pk (wr.heap[gd]? = some (.cells (bvs ds ++ ex).toArray 5 (0, 0))) ∧ Pk (Below wj.heap.size wj wr)) (fun x _ => t - (intOf x).toNat)
          case atStart => exact ⟨0, (joined K t).take sz, exd, Nat.zero_le _, rfl, ⟨HDl.out, rfl⟩, HD7, BJ⟩
          case round =>
            clear BJ HD7 HY HYl HDl
            obtain ⟨u, ds, ex, hu, rfl, HDl, HD, BJ⟩ := hrel
            by_cases hul : u < t
            · have u1 : u < K.length := by rw [HKl.out]; exact hul
              have u2 : u < H.length := by rw [HN.out]; exact hul
              obtain ⟨a, rfl, hc1, _⟩ := (HLK.out.mono BJ.out).at u1
              obtain ⟨b, rfl, hcj, _⟩ := HL.out.at u2
              have hc2 := cell_below hcj BJ.out
              have hrb := HL.out.2 _ (List.getElem_mem u2)
              obtain ⟨g, hKu, hg, hB⟩ := HKn.out.2 u _ _ (List.getElem?_eq_getElem u1) (List.getElem?_eq_getElem u2)
              have hlen := HB.out _ (List.getElem_mem u2)
              rw [hKu] at hc1
              generalize H[u] = y at *
              obtain ⟨Z, cz, lz⟩ := y
              simp only [hdr] at hc1 hc2 hcj
              simp only at hrb hlen hB
              have HZ := Pk.mk hrb
              have HG := Pk.mk hB
              clear hrb hB hKu
              have Hbb := Pk.mk (show (b.add u).block ≠ gd by
                have h1 := World.block_lt_of_cell? wj _ (hcj)
                have := Hgd.out
                omega)
              have Hne := Pk.mk (show g ≠ gd by have := HG.out.lt; have := Hgd.out; omega)
              have hc2' := hc2
              go_wp2_with fail
              have q := apart_cut (some ⟨g, 0, none⟩) (lz.length + 6) lz.length lz gd ds ex sz wr rfl (HG.out.mono BJ.out).front (fun a h => by cases h; exact Hne.out) HD.out HDl.out.1 (by omega)
              with_reducible refine q.mono ?_
              clear q
              rintro e w8 ⟨rfl, ⟨ds2, hds2, hD2⟩, hgr⟩
              have BJ2 := Pk.mk (BJ.out.grown hgr BJ.out.size (fun k hk => by cases hk; exact Hgd.out))
              have HD2 := Pk.mk hD2
              have hc3 := hgr.cell hc2' (by have hb := Hbb.out; simpa using hb)
              clear hgr hD2 hc2'
              go_wp2_with fail
              have q := qb (kept_calls g lz Z cz w8 (HG.out.mono BJ2.out) (HZ.out.mono BJ2.out) hlen)
              with_reducible refine q.mono ?_
              clear q
              rintro e w9 ⟨rfl, hb⟩
              have BJ3 := Pk.mk (BJ2.out.trans (hb.mono BJ2.out.size))
              have HD3 := Pk.mk ((hb.block gd (Array.getElem?_eq_some_iff.1 HD2.out).1).trans HD2.out)
              clear hb hc3 hc1 hc2
              go_wp2
              go_roundw
              · exact ⟨u + 1, ds2, ex, by omega, by go_num, ⟨hds2, HDl.out.2⟩, HD3, BJ3⟩
              · simp [intOf]; omega
            · have hue : u = t := by omega
              subst hue
              go_wp2
              go_ret
              exact ⟨rfl, B0.out.trans (BJ.out.mono B0.out.size)⟩
        · have Hf := Pk.mk hf
          have HKf := Pk.mk (fun h => hf ((HKn.out.fit).1 h))
          clear hf
          go_wp2_with fail
          have q := join_bad E kk hh sz X t cx K wj (HE.out.sub joErrs_sub) HLK.out HKl.out hnl HKf.out H0.out HV.out
          with_reducible refine q.mono ?_
          clear q
          rintro e w5 ⟨rfl, hb⟩
          replace BJ := Pk.mk (BJ.out.trans ((hb).mono BJ.out.size))
          clear hb
          go_wp2_with fail
          have q := refJoin_calls kk hh sz A t ca H w5 (HL.out.mono BJ.out) HN.out hnl H0.out HV.out
          with_reducible refine q.mono ?_
          clear q
          rintro e w6 ⟨hb, hrj⟩
          replace BJ := Pk.mk (BJ.out.trans ((hb).mono BJ.out.size))
          clear hb
          obtain rfl : e = .returned (.tuple #[.slice none 0 0, .int .i64 5]) := by
            rcases hrj with ⟨h, _⟩ | ⟨_, h⟩
            · exact absurd h Hf.out
            · exact h
          go_wp2_with fail
          have q := num_calls E 5 w6 (HE.out.mono BJ.out) (by omega)
          with_reducible refine q.mono ?_
          clear q
          rintro e w7 ⟨rfl, hb⟩
          replace BJ := Pk.mk (BJ.out.trans ((hb).mono BJ.out.size))
          clear hb
          have r1 := conv_bytes' (w := w7) (A := none) (l := []) (n := 0) 0 rfl (Cs.nil _ _)
          go_wp2
          clear r1
          go_loopw [58] (fun x wr => ∃ u : Nat, u ≤ t ∧ x = .int .i64 (u : Int) ∧ Pk (Below wj.heap.size wj wr)) (fun x _ => t - (intOf x).toNat)
          case atStart => exact ⟨0, Nat.zero_le _, rfl, BJ⟩
          case round =>
            clear BJ
            obtain ⟨u, hu, rfl, BJ⟩ := hrel
            by_cases hul : u < t
            · have u1 : u < K.length := by rw [HKl.out]; exact hul
              have u2 : u < H.length := by rw [HN.out]; exact hul
              obtain ⟨a, rfl, hc1, _⟩ := (HLK.out.mono BJ.out).at u1
              obtain ⟨b, rfl, hcj, _⟩ := HL.out.at u2
              have hc2 := cell_below hcj BJ.out
              have hrb := HL.out.2 _ (List.getElem_mem u2)
              obtain ⟨g, hKu, hg, hB⟩ := HKn.out.2 u _ _ (List.getElem?_eq_getElem u1) (List.getElem?_eq_getElem u2)
              have hlen := HB.out _ (List.getElem_mem u2)
              rw [hKu] at hc1
              generalize H[u] = y at *
              obtain ⟨Z, cz, lz⟩ := y
              simp only [hdr] at hc1 hc2 hcj
              simp only at hrb hlen hB
              have HZ := Pk.mk hrb
              have HG := Pk.mk hB
              clear hrb hB hKu
              have hc2' := hc2
              go_wp2_with fail
              have q := apart_nil_calls (some ⟨g, 0, none⟩) (lz.length + 6) lz wr (HG.out.mono BJ.out).front
              with_reducible refine q.mono ?_
              clear q
              rintro e w8 ⟨rfl, hb⟩
              have BJ2 := Pk.mk (BJ.out.trans (hb.mono BJ.out.size))
              have hc3 := cell_below hc2' hb
              clear hb hc2'
              go_wp2_with fail
              have q := qb (kept_calls g lz Z cz w8 (HG.out.mono BJ2.out) (HZ.out.mono BJ2.out) hlen)
              with_reducible refine q.mono ?_
              clear q
              rintro e w9 ⟨rfl, hb⟩
              have BJ3 := Pk.mk (BJ2.out.trans (hb.mono BJ2.out.size))
              clear hb hc3 hc1 hc2
              go_wp2
              go_roundw
              · exact ⟨u + 1, by omega, by go_num, BJ3⟩
              · simp [intOf]; omega
            · have hue : u = t := by omega
              subst hue
              go_wp2
              go_ret
              exact ⟨rfl, B0.out.trans (BJ.out.mono B0.out.size)⟩
      · have H0 := Pk.mk h0
        have c25 : halfC k size ≤ 25 := by rcases halfC_cases k size with h | h | h | h <;> omega
        clear h0
        go_wp2_with fail
        have q := join_err E k size X t cx wj (HE.out.sub shErrs_sub) H0.out hs
        with_reducible refine q.mono ?_
        clear q
        rintro e w5 ⟨rfl, hb⟩
        replace BJ := Pk.mk (BJ.out.trans ((hb).mono BJ.out.size))
        clear hb
        go_wp2_with fail
        have q := refJoin_err k size A t ca w5 H0.out
        with_reducible refine q.mono ?_
        clear q
        rintro e w6 ⟨rfl, hw⟩
        obtain rfl := Eq.symm hw
        clear hw
        go_wp2_with fail
        have q := num_calls E _ w5 (HE.out.mono BJ.out) c25
        with_reducible refine q.mono ?_
        clear q
        rintro e w7 ⟨rfl, hb⟩
        replace BJ := Pk.mk (BJ.out.trans ((hb).mono BJ.out.size))
        clear hb
        have r1 := conv_bytes' (w := w7) (A := none) (l := []) (n := 0) 0 rfl (Cs.nil _ _)
        go_wp2
        clear r1
        go_loopw [58] (fun x wr => ∃ u : Nat, u ≤ t ∧ x = .int .i64 (u : Int) ∧ Pk (Below wj.heap.size wj wr)) (fun x _ => t - (intOf x).toNat)
        case atStart => exact ⟨0, Nat.zero_le _, rfl, BJ⟩
        case round =>
          clear BJ
          obtain ⟨u, hu, rfl, BJ⟩ := hrel
          by_cases hul : u < t
          · have u1 : u < K.length := by rw [HKl.out]; exact hul
            have u2 : u < H.length := by rw [HN.out]; exact hul
            obtain ⟨a, rfl, hc1, _⟩ := (HLK.out.mono BJ.out).at u1
            obtain ⟨b, rfl, hcj, _⟩ := HL.out.at u2
            have hc2 := cell_below hcj BJ.out
            have hrb := HL.out.2 _ (List.getElem_mem u2)
            obtain ⟨g, hKu, hg, hB⟩ := HKn.out.2 u _ _ (List.getElem?_eq_getElem u1) (List.getElem?_eq_getElem u2)
            have hlen := HB.out _ (List.getElem_mem u2)
            rw [hKu] at hc1
            generalize H[u] = y at *
            obtain ⟨Z, cz, lz⟩ := y
            simp only [hdr] at hc1 hc2 hcj
            simp only at hrb hlen hB
            have HZ := Pk.mk hrb
            have HG := Pk.mk hB
            clear hrb hB hKu
            have hc2' := hc2
            go_wp2_with fail
            have q := apart_nil_calls (some ⟨g, 0, none⟩) (lz.length + 6) lz wr (HG.out.mono BJ.out).front
            with_reducible refine q.mono ?_
            clear q
            rintro e w8 ⟨rfl, hb⟩
            have BJ2 := Pk.mk (BJ.out.trans (hb.mono BJ.out.size))
            have hc3 := cell_below hc2' hb
            clear hb hc2'
            go_wp2_with fail
            have q := qb (kept_calls g lz Z cz w8 (HG.out.mono BJ2.out) (HZ.out.mono BJ2.out) hlen)
            with_reducible refine q.mono ?_
            clear q
            rintro e w9 ⟨rfl, hb⟩
            have BJ3 := Pk.mk (BJ2.out.trans (hb.mono BJ2.out.size))
            clear hb hc3 hc1 hc2
            go_wp2
            go_roundw
            · exact ⟨u + 1, by omega, by go_num, BJ3⟩
            · simp [intOf]; omega
          · have hue : u = t := by omega
            subst hue
            go_wp2
            go_ret
            exact ⟨rfl, B0.out.trans (BJ.out.mono B0.out.size)⟩

theorem shardsJoins_walk (E : Nat → Addr) (k size : Int) (A : Option Addr) (ca : Nat) (H : List Sh) (w : World) (hE : ErrW w E errG) (_wk : (Lit.int .i64 k).wf = true) (ws : (Lit.int .i64 size).wf = true) (hL : LL w A H) (hnl : H.length ≤ 5864062014634) (hl : ∀ x ∈ H, x.2.2.length ≤ 140737488351232) :
    Calls Tryd.prog 5 #[.int .i64 k, .int .i64 size, .slice A H.length ca] w fun e w' => e = .returned (.bool true) ∧ Below w.heap.size w w' :=
  shardsJoins_walk0 E k size A _ ca H w hE (wf_i64_bd ws).2 hL rfl hnl hl
end Go.Proofs.YtejmbfoecacgmaaDoor
