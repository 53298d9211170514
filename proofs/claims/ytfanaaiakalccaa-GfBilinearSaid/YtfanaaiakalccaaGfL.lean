/- The field's Go functions on lists: Dot, Sum, Scale, AddScaled: what each call answers, in memory of its own. -/
import Derived.Test.YtfanaaiakalccaaGfA
import Derived.Laws.CopyOwn
import Derived.Deep.LoopGhost
import Derived.Deep.QuietTactic
import Derived.BigQuiet
namespace Go.Proofs.Ytfanaaiakalccaa
open Go Go.RowKit Go.Proofs.Ytfanaaiakalccaa.Gf
set_option linter.unusedSimpArgs false
set_option linter.unusedVariables false

/-- A list with noughts behind it, up to a length. -/
def pad (a : List F) (n : Nat) : List F := a ++ List.replicate (n - a.length) 0
theorem pad_length (a : List F) (n : Nat) : (pad a n).length = max a.length n := by simp [pad]; omega
/-- A kernel at every place of the longer list. -/
def eachF (k : F → F → F) (a b : List F) : List F := List.zipWith k (pad a b.length) b ++ (pad a b.length).drop b.length
def eachN (k : F → F → F) (a b : List F) (n : Nat) : List F := (List.zipWith k (pad a b.length) b).take n ++ (pad a b.length).drop n
theorem eachN_zero (k : F → F → F) (a b : List F) : eachN k a b 0 = pad a b.length := by simp [eachN]
theorem eachN_all (k : F → F → F) (a b : List F) : eachN k a b b.length = eachF k a b := by
  unfold eachN eachF
  rw [List.take_of_length_le (by simp; omega)]
theorem eachN_length (k : F → F → F) (a b : List F) (n : Nat) (h : n ≤ b.length) : (eachN k a b n).length = max a.length b.length := by
  simp [eachN, pad_length]; omega
theorem eachF_length (k : F → F → F) (a b : List F) : (eachF k a b).length = max a.length b.length := by
  rw [← eachN_all, eachN_length k a b _ (Nat.le_refl _)]
theorem eachN_get (k : F → F → F) (a b : List F) (n : Nat) (h : n < b.length) (h2 : n < (eachN k a b n).length) (h3 : n < (pad a b.length).length) : (eachN k a b n)[n] = (pad a b.length)[n] := by
  simp only [eachN]
  rw [List.getElem_append_right (by simp; omega)]
  simp [pad_length]
  have : min n (min (max a.length b.length) b.length) = n := by omega
  simp [this]
theorem eachN_set (k : F → F → F) (a b : List F) (n : Nat) (h : n < b.length) (h3 : n < (pad a b.length).length) : (eachN k a b n).set n (k ((pad a b.length)[n]) b[n]) = eachN k a b (n + 1) := by
  have hz : n < (List.zipWith k (pad a b.length) b).length := by simp; omega
  simp only [eachN]
  rw [List.set_append_right _ _ (by simp; omega)]
  have hm : n - (List.take n (List.zipWith k (pad a b.length) b)).length = 0 := by simp [pad_length]; omega
  rw [hm, List.drop_eq_getElem_cons h3, List.set_cons_zero, List.take_succ_eq_append_getElem hz]
  simp

theorem scaledK_calls (c x y : F) (g : Nat) (w : World) (hc : w.cell? ⟨g, 0, none⟩ = some (.int .u8 (i c))) :
    Calls Try.prog 35 #[.int .u8 (i x), .int .u8 (i y), .pointer (some ⟨g, 0, none⟩)] w fun e w' => e = .returned (.int .u8 (i (x ^^^ mul c y))) ∧ w' = w := by
  have Hx := Pk.mk (xor_u8 x (mul c y))
  go_enter Try.func35, Try.ntmps35
  go_wp2_with (go_at_call 12; refine (mul_calls _ _ _).mono ?_; rintro e w' ⟨rfl, rfl⟩)
  go_ret
  exact ⟨ret_int Hx.out, rfl⟩
theorem scaled_calls (c : F) (w : World) :
    Calls Try.prog 34 #[.int .u8 (i c)] w fun e w' => e = .returned (.func (.func 35) #[] #[.pointer (some ⟨w.heap.size, 0, none⟩)]) ∧ w' = w.alloc (.cells #[.int .u8 (i c)] 5) := by
  go_enter Try.func34, Try.ntmps34
  go_wp2
  go_ret
  exact ⟨rfl, rfl⟩

theorem splice_pad (la lb : List F) (N : Nat) (hN : N = max la.length lb.length) : splice (bvs (List.replicate N 0)) 0 (bvs la) = bvs (pad la lb.length) := by
  simp only [splice, pad, bvs_append, List.take_zero, List.nil_append, Nat.zero_add, bvs_length]
  congr 1
  simp only [bvs, List.map_replicate, List.drop_replicate]
  congr 1
  omega

set_option maxRecDepth 100000 in
set_option maxHeartbeats 1000000 in
theorem eachScaled_calls (c : F) (g0 : Nat) (A : Option Addr) (ca : Nat) (la : List F) (B : Option Addr) (cb : Nat) (lb : List F) (w : World) (hg : w.cell? ⟨g0, 0, none⟩ = some (.int .u8 (i c)))
    (ha : RB w A la) (hb : RB w B lb) (hca : la.length ≤ 140737488355328) (hcb : lb.length ≤ 140737488355328) :
    Calls Try.prog 33 #[.slice A la.length ca, .slice B lb.length cb, .func (.func 35) #[] #[.pointer (some ⟨g0, 0, none⟩)]] w
      fun e w' => Made w w' e (eachF (fun x y => x ^^^ mul c y) la lb) := by
  obtain ⟨i8, hi, hz0, hz1, hz2⟩ := info_parts info8
  have HA := Pk.mk ha
  have HB := Pk.mk hb
  have HG := Pk.mk hg
  clear hg
  have HS := Pk.mk (size8)
  clear ha hb
  by_cases hlt : la.length < lb.length
  all_goals
    go_enter Try.func33, Try.ntmps33
    go_wp2_with (first
      | (at_make; go_loud (refine wpList_make_full _ rfl (.tmp 14) (.tmp 14) 33 rfl w.heap.size 5 i8 (.int .u8 0) 1 Try.underlying33 hi hz0 hz1 .i64 .i64 _ _ _ rfl rfl rfl rfl (by rw [hz2]; omega) (by unfold maxLen; omega) (Nat.le_refl _) ?_; intro w1 hown hgr; have HBB := Pk.mk (BB.of_zeros hown).1; have Hb := Pk.mk (below_made hgr); clear hown hgr))
      | ((with_reducible refine gate_b (b := .copy) (xs := #[.tmp 16, .tmp 17]) rfl ?_); go_loud (refine wpList_copy_splice rfl (.tmp 16) (.tmp 17) 33 33 rfl 5 Try.underlying33 HS.out _ A _ _ la.length ca rfl rfl w.heap.size 0 _ 5 HBB.out (bvs la) (by rw [bvs_length]; show _ = min _ _; omega) (fun hp => ⟨rfl, (HA.out.mono Hb.out).some hp⟩) (by simp [bvs]; try omega) (bvs_one _) w.heap.size w Hb.out (Nat.le_refl _) ?_; intro w2 hg2 hb2; have HB2 := Pk.mk (show BB w2 w.heap.size (pad la lb.length) from (by have e := hg2.out; rw [splice_pad la lb _ (by omega)] at e; exact e)); have Hb2 := Pk.mk hb2; clear hg2 hb2 HBB Hb)))
    go_loopw [21] (fun n wr => ∃ t : Nat, t ≤ lb.length ∧ n = .int .i64 (t : Int) ∧ Pk (BB wr w.heap.size (eachN (fun x y => x ^^^ mul c y) la lb t)) ∧ Pk (Below w.heap.size w wr)) (fun n _ => lb.length - (intOf n).toNat)
    case atStart => exact ⟨0, Nat.zero_le _, rfl, by rw [eachN_zero]; exact HB2, Hb2⟩
    case round =>
      clear HB2 Hb2
      obtain ⟨t, ht, rfl, HO, Hb⟩ := hrel
      by_cases hl : t < lb.length
      · obtain ⟨b, rfl, hcB⟩ := RB.at (HB.out.mono Hb.out) hl
        have hpl : t < (pad lb lb.length).length := by rw [pad_length]; omega
        have hpa : t < (pad la lb.length).length := by rw [pad_length]; omega
        have hlo : t < (eachN (fun x y => x ^^^ mul c y) la lb t).length := by rw [eachN_length _ _ _ _ ht]; omega
        have hcO := HO.out.cell hlo
        have hfO := HO.out.free t
        have Hx := Pk.mk (eachN_get (fun x y => x ^^^ mul c y) la lb t hl hlo hpa)
        have Hs := Pk.mk (eachN_set (fun x y => x ^^^ mul c y) la lb t hl hpa)
        rw [Hx.out] at hcO
        generalize hx : (pad la lb.length)[t] = x at hcO Hs
        generalize hy : lb[t] = y at hcB Hs
        clear hx hy Hx
        go_wp2_with (go_at_call 35; refine (scaledK_calls c _ _ g0 _ ((Hb.out.cell (p := ⟨g0, 0, none⟩) (World.block_lt_of_cell? w _ HG.out)).trans HG.out)).mono ?_; rintro e w' ⟨rfl, rfl⟩)
        go_roundw
        case rel =>
          refine ⟨t + 1, by omega, by go_num, ⟨?_⟩, ⟨Hb.out.setCell (Nat.le_refl _) _⟩⟩
          rw [← Hs.out]
          exact HO.out.set t _
        case measure => simp [intOf]; omega
      · have Hr := Pk.mk (show eachN (fun x y => x ^^^ mul c y) la lb t = eachF (fun x y => x ^^^ mul c y) la lb by rw [← eachN_all, show t = lb.length by omega])
        have Hll := Pk.mk (eachF_length (fun x y => x ^^^ mul c y) la lb)
        go_wp2
        go_ret
        refine ⟨_, rfl, ?_, Hb.out⟩
        have h1 := HO.out
        rw [Hr.out] at h1
        have h2 := h1.own (Nat.le_refl _) (by rw [Hll.out]; unfold maxLen; omega)
        have h3 := Hll.out
        first | (rw [show max la.length lb.length = lb.length by omega] at h3) | (rw [show max la.length lb.length = la.length by omega] at h3)
        rw [h3] at h2 ⊢
        exact h2

set_option maxRecDepth 100000 in
set_option maxHeartbeats 1000000 in
theorem eachAdd_calls  (A : Option Addr) (ca : Nat) (la : List F) (B : Option Addr) (cb : Nat) (lb : List F) (w : World) 
    (ha : RB w A la) (hb : RB w B lb) (hca : la.length ≤ 140737488355328) (hcb : lb.length ≤ 140737488355328) :
    Calls Try.prog 33 #[.slice A la.length ca, .slice B lb.length cb, .func (.func 11) #[] #[]] w
      fun e w' => Made w w' e (eachF (fun x y => x ^^^ y) la lb) := by
  obtain ⟨i8, hi, hz0, hz1, hz2⟩ := info_parts info8
  have HA := Pk.mk ha
  have HB := Pk.mk hb
  have h__ := trivial
  have HS := Pk.mk (size8)
  clear ha hb
  by_cases hlt : la.length < lb.length
  all_goals
    go_enter Try.func33, Try.ntmps33
    go_wp2_with (first
      | (at_make; go_loud (refine wpList_make_full _ rfl (.tmp 14) (.tmp 14) 33 rfl w.heap.size 5 i8 (.int .u8 0) 1 Try.underlying33 hi hz0 hz1 .i64 .i64 _ _ _ rfl rfl rfl rfl (by rw [hz2]; omega) (by unfold maxLen; omega) (Nat.le_refl _) ?_; intro w1 hown hgr; have HBB := Pk.mk (BB.of_zeros hown).1; have Hb := Pk.mk (below_made hgr); clear hown hgr))
      | ((with_reducible refine gate_b (b := .copy) (xs := #[.tmp 16, .tmp 17]) rfl ?_); go_loud (refine wpList_copy_splice rfl (.tmp 16) (.tmp 17) 33 33 rfl 5 Try.underlying33 HS.out _ A _ _ la.length ca rfl rfl w.heap.size 0 _ 5 HBB.out (bvs la) (by rw [bvs_length]; show _ = min _ _; omega) (fun hp => ⟨rfl, (HA.out.mono Hb.out).some hp⟩) (by simp [bvs]; try omega) (bvs_one _) w.heap.size w Hb.out (Nat.le_refl _) ?_; intro w2 hg2 hb2; have HB2 := Pk.mk (show BB w2 w.heap.size (pad la lb.length) from (by have e := hg2.out; rw [splice_pad la lb _ (by omega)] at e; exact e)); have Hb2 := Pk.mk hb2; clear hg2 hb2 HBB Hb)))
    go_loopw [21] (fun n wr => ∃ t : Nat, t ≤ lb.length ∧ n = .int .i64 (t : Int) ∧ Pk (BB wr w.heap.size (eachN (fun x y => x ^^^ y) la lb t)) ∧ Pk (Below w.heap.size w wr)) (fun n _ => lb.length - (intOf n).toNat)
    case atStart => exact ⟨0, Nat.zero_le _, rfl, by rw [eachN_zero]; exact HB2, Hb2⟩
    case round =>
      clear HB2 Hb2
      obtain ⟨t, ht, rfl, HO, Hb⟩ := hrel
      by_cases hl : t < lb.length
      · obtain ⟨b, rfl, hcB⟩ := RB.at (HB.out.mono Hb.out) hl
        have hpl : t < (pad lb lb.length).length := by rw [pad_length]; omega
        have hpa : t < (pad la lb.length).length := by rw [pad_length]; omega
        have hlo : t < (eachN (fun x y => x ^^^ y) la lb t).length := by rw [eachN_length _ _ _ _ ht]; omega
        have hcO := HO.out.cell hlo
        have hfO := HO.out.free t
        have Hx := Pk.mk (eachN_get (fun x y => x ^^^ y) la lb t hl hlo hpa)
        have Hs := Pk.mk (eachN_set (fun x y => x ^^^ y) la lb t hl hpa)
        rw [Hx.out] at hcO
        generalize hx : (pad la lb.length)[t] = x at hcO Hs
        generalize hy : lb[t] = y at hcB Hs
        clear hx hy Hx
        go_wp2_with (go_at_call 11; refine (add_calls _ _ _).mono ?_; rintro e w' ⟨rfl, rfl⟩)
        go_roundw
        case rel =>
          refine ⟨t + 1, by omega, by go_num, ⟨?_⟩, ⟨Hb.out.setCell (Nat.le_refl _) _⟩⟩
          rw [← Hs.out]
          exact HO.out.set t _
        case measure => simp [intOf]; omega
      · have Hr := Pk.mk (show eachN (fun x y => x ^^^ y) la lb t = eachF (fun x y => x ^^^ y) la lb by rw [← eachN_all, show t = lb.length by omega])
        have Hll := Pk.mk (eachF_length (fun x y => x ^^^ y) la lb)
        go_wp2
        go_ret
        refine ⟨_, rfl, ?_, Hb.out⟩
        have h1 := HO.out
        rw [Hr.out] at h1
        have h2 := h1.own (Nat.le_refl _) (by rw [Hll.out]; unfold maxLen; omega)
        have h3 := Hll.out
        first | (rw [show max la.length lb.length = lb.length by omega] at h3) | (rw [show max la.length lb.length = la.length by omega] at h3)
        rw [h3] at h2 ⊢
        exact h2

/-! ### what the calls answer, in the plain lists' words -/
def sumF (a b : List F) : List F := eachF (fun x y => x ^^^ y) a b
def axpy (a : List F) (c : F) (b : List F) : List F := eachF (fun x y => x ^^^ mul c y) a b

theorem cell_new (w : World) (v : Value) (t : TypeId) : (w.alloc (.cells #[v] t)).cell? ⟨w.heap.size, 0, none⟩ = some v := by
  simp only [World.cell?, heap_alloc_new]; rfl
theorem made_below {w w1 w' : World} {e : Ending} {r : List F} (hb : Below w.heap.size w w1) (h : Made w1 w' e r) : Made w w' e r := by
  obtain ⟨v, rfl, ho, hb'⟩ := h
  exact ⟨v, rfl, own_low ho hb.size, hb.trans (hb'.mono hb.size)⟩
theorem made_eq {w w' : World} {e : Ending} {r r' : List F} (h : Made w w' e r) (hr : r = r') : Made w w' e r' := hr ▸ h

set_option maxRecDepth 100000 in
theorem sum_calls (A : Option Addr) (ca : Nat) (la : List F) (B : Option Addr) (cb : Nat) (lb : List F) (w : World)
    (ha : RB w A la) (hb : RB w B lb) (hca : la.length ≤ 140737488355328) (hcb : lb.length ≤ 140737488355328) :
    Calls Try.prog 19 #[.slice A la.length ca, .slice B lb.length cb] w fun e w' => Made w w' e (sumF la lb) := by
  have HA := Pk.mk ha
  have HB := Pk.mk hb
  clear ha hb
  go_enter Try.func19, Try.ntmps19
  go_wp2_with fail
  refine (eachAdd_calls A ca la B cb lb _ HA.out HB.out hca hcb).mono ?_
  rintro e w' hm
  obtain ⟨v, rfl, ho, hb⟩ := hm
  go_wp2
  go_ret
  exact ⟨v, rfl, ho, hb⟩
set_option maxRecDepth 100000 in
theorem addScaled_calls (A : Option Addr) (ca : Nat) (la : List F) (c : F) (B : Option Addr) (cb : Nat) (lb : List F) (w : World)
    (ha : RB w A la) (hb : RB w B lb) (hca : la.length ≤ 140737488355328) (hcb : lb.length ≤ 140737488355328) :
    Calls Try.prog 18 #[.slice A la.length ca, .int .u8 (i c), .slice B lb.length cb] w fun e w' => Made w w' e (axpy la c lb) := by
  have HA := Pk.mk ha
  have HB := Pk.mk hb
  have Hb := Pk.mk ((Below.refl w.heap.size w).alloc (Nat.le_refl _) (.cells #[.int .u8 (i c)] 5))
  clear ha hb
  go_enter Try.func18, Try.ntmps18
  go_wp2_with (go_at_call 34; refine (scaled_calls _ _).mono ?_; rintro e w' ⟨rfl, rfl⟩)
  refine (eachScaled_calls c w.heap.size A ca la B cb lb _ ?_ (HA.out.mono Hb.out) (HB.out.mono Hb.out) hca hcb).mono ?_
  · exact cell_new _ _ _
  rintro e w' hm
  obtain ⟨v, rfl, ho, hb⟩ := made_below Hb.out hm
  go_wp2
  go_ret
  exact ⟨v, rfl, ho, hb⟩
set_option maxRecDepth 100000 in
theorem scale_calls (c : F) (B : Option Addr) (cb : Nat) (lb : List F) (w : World) (hb : RB w B lb) (hcb : lb.length ≤ 140737488355328) :
    Calls Try.prog 20 #[.int .u8 (i c), .slice B lb.length cb] w fun e w' => Made w w' e (axpy [] c lb) := by
  have HB := Pk.mk hb
  have Hb := Pk.mk ((Below.refl w.heap.size w).alloc (Nat.le_refl _) (.cells #[.int .u8 (i c)] 5))
  clear hb
  go_enter Try.func20, Try.ntmps20
  go_wp2_with (go_at_call 34; refine (scaled_calls _ _).mono ?_; rintro e w' ⟨rfl, rfl⟩)
  refine (eachScaled_calls c w.heap.size none 0 [] B cb lb _ ?_ (Cs.nil _ _) (HB.out.mono Hb.out) (by simp) hcb).mono ?_
  · exact cell_new _ _ _
  rintro e w' hm
  obtain ⟨v, rfl, ho, hb⟩ := made_below Hb.out hm
  go_wp2
  go_ret
  exact ⟨v, rfl, ho, hb⟩

/-- The sum of products of two lists, as far as both go. -/
def dot : List F → List F → F
  | a :: la, b :: lb => mul a b ^^^ dot la lb
  | _, _ => 0
theorem dot_nil_left (b : List F) : dot [] b = 0 := rfl
theorem dot_nil_right (a : List F) : dot a [] = 0 := by cases a <;> rfl
theorem dot_end {a b : List F} {t : Nat} (h : min a.length b.length ≤ t) : dot (a.drop t) (b.drop t) = 0 := by
  rcases Nat.le_total a.length b.length with h' | h'
  · rw [List.drop_eq_nil_of_le (by omega : a.length ≤ t)]; rfl
  · rw [List.drop_eq_nil_of_le (by omega : b.length ≤ t)]; exact dot_nil_right _
theorem dot_step {a b : List F} {t : Nat} (ha : t < a.length) (hb : t < b.length) : dot (a.drop t) (b.drop t) = mul a[t] b[t] ^^^ dot (a.drop (t + 1)) (b.drop (t + 1)) := by
  rw [List.drop_eq_getElem_cons ha, List.drop_eq_getElem_cons hb]; rfl
set_option maxRecDepth 100000 in
set_option maxHeartbeats 1000000 in
theorem dot_calls (A : Option Addr) (ca : Nat) (la : List F) (B : Option Addr) (cb : Nat) (lb : List F) (w : World)
    (ha : RB w A la) (hb : RB w B lb) (hca : la.length ≤ 140737488355328) (hcb : lb.length ≤ 140737488355328) :
    Calls Try.prog 17 #[.slice A la.length ca, .slice B lb.length cb] w fun e w' => e = .returned (.int .u8 (i (dot la lb))) ∧ Below w.heap.size w w' := by
  have HA := Pk.mk ha
  have HB := Pk.mk hb
  clear ha hb
  by_cases hlt : lb.length < la.length
  all_goals
    go_enter Try.func17, Try.ntmps17
    go_wp2
    go_loopw [5, 12] (fun o n wr => ∃ (t : Nat) (acc : F), t ≤ min la.length lb.length ∧ n = .int .i64 (t : Int) ∧ o = .int .u8 (i acc) ∧ Pk (acc ^^^ dot (la.drop t) (lb.drop t) = dot la lb) ∧ Pk (Below w.heap.size w wr)) (fun _ n _ => min la.length lb.length - (intOf n).toNat)
    case atStart => exact ⟨0, 0, Nat.zero_le _, rfl, rfl, ⟨UInt8.zero_xor⟩, ⟨Below.refl _ _⟩⟩
    case round =>
      obtain ⟨t, acc, ht, rfl, rfl, H, Hb⟩ := hrel
      by_cases hl : t < min la.length lb.length
      · have hla : t < la.length := by omega
        have hlb : t < lb.length := by omega
        obtain ⟨a, rfl, hcA⟩ := RB.at (HA.out.mono Hb.out) hla
        obtain ⟨b, rfl, hcB⟩ := RB.at (HB.out.mono Hb.out) hlb
        have Hs := Pk.mk (dot_step hla hlb)
        generalize hx : la[t] = x at hcA Hs
        generalize hy : lb[t] = y at hcB Hs
        have Hx := Pk.mk (xor_u8 acc (mul x y))
        clear hx hy ht
        go_wp2
        go_quiet ((go_at_call 12; exact Calls.quiet_of_same (mul_calls _ _ _)))
        go_wp2
        go_roundw
        case rel => exact ⟨t + 1, acc ^^^ mul x y, by omega, by go_num, by rw [Hx.out], ⟨by rw [← H.out, Hs.out, UInt8.xor_assoc]⟩, ⟨below_drewN Hb.out _⟩⟩
        case measure => simp [intOf]; omega
      · have Hr := Pk.mk (show acc = dot la lb by have := H.out; rwa [dot_end (by omega), UInt8.xor_zero] at this)
        go_wp2
        go_ret
        exact ⟨ret_int (by rw [Hr.out]), Hb.out⟩
end Go.Proofs.Ytfanaaiakalccaa
