/- The laws of the field's lists: GfElements, GfScales, GfBilinear, GfLists: each Go law answers true. -/
import Derived.Test.YtfanaaiakalccaaGfLaw
import Derived.Test.YtfanaaiakalccaaRef01
import Derived.Deep.RegionHeld3
namespace Go.Proofs.Ytfanaaiakalccaa
open Go Go.RowKit Go.Proofs.Ytfanaaiakalccaa.Gf
set_option linter.unusedSimpArgs false
set_option linter.unusedVariables false

set_option maxRecDepth 100000 in
set_option maxHeartbeats 2000000 in
theorem gfElements_walk (a b : F) (n : Int) (w : World) (_hn : (Lit.int .i64 n).wf = true) : Calls Try.prog 8 #[.int .u8 (i a), .int .u8 (i b), .int .i64 n] w fun e w' => e = .returned (.bool true) ∧ Below w.heap.size w w' := by
  have Hx := Pk.mk (xor_u8 a b)
  have hx := xor_u8 a b
  go_enter Try.func8, Try.ntmps8
  go_wp2_with fail
  refine (alive01_calls _).mono ?_
  rintro e w1 ⟨rfl, hb⟩
  have Hb := Pk.mk hb
  clear hb
  go_wp2_with (first
    | (go_at_call 13; refine (inv_calls _ _).mono ?_; rintro e w' ⟨rfl, rfl⟩)
    | (go_at_call 14; refine (div_calls _ _ _).mono ?_; rintro e w' ⟨rfl, rfl⟩)
    | (go_at_call 15; refine (log_calls _ _).mono ?_; rintro e w' ⟨rfl, rfl⟩)
    | (go_at_call 16; refine (pow_calls _ _ _).mono ?_; rintro e w' ⟨rfl, rfl⟩)
    | (go_at_call 12; refine (mul_calls _ _ _).mono ?_; rintro e w' ⟨rfl, rfl⟩)
    | (go_at_call 11; refine (add_calls _ _ _).mono ?_; rintro e w' ⟨rfl, rfl⟩)
    | (go_at_call 22; refine (refInv_calls _ _).mono ?_; rintro e w' ⟨rfl, rfl⟩)
    | (go_at_call 23; refine (refDiv_calls _ _ _).mono ?_; rintro e w' ⟨rfl, rfl⟩)
    | (go_at_call 24; refine (refLog_calls _ _).mono ?_; rintro e w' ⟨rfl, rfl⟩)
    | (go_at_call 26; refine (refPow_calls _ _ _).mono ?_; rintro e w' ⟨rfl, rfl⟩)
    | (go_at_call 25; refine (refMul_calls _ _ _).mono ?_; rintro e w' ⟨rfl, rfl⟩))
  go_ret
  exact ⟨rfl, Hb.out⟩

theorem eachF_getD (k : F → F → F) (a b : List F) (t : Nat) : (eachF k a b).getD t 0 = if t < b.length then k (a.getD t 0) (b.getD t 0) else a.getD t 0 := by
  by_cases h : t < (eachF k a b).length
  · have hp : t < (pad a b.length).length := by rw [eachF_length] at h; rw [pad_length]; exact h
    have hpv : (pad a b.length)[t] = a.getD t 0 := by
      simp only [pad]
      by_cases hta : t < a.length
      · rw [List.getElem_append_left hta]; simp [hta]
      · rw [List.getElem_append_right (by omega)]; simp [List.getElem?_eq_none (by omega : a.length ≤ t)]
    rw [List.getD_eq_getElem?_getD, List.getElem?_eq_getElem h, Option.getD_some]
    simp only [eachF]
    by_cases htb : t < b.length
    · rw [List.getElem_append_left (by simp [pad_length]; omega), if_pos htb, List.getElem_zipWith, hpv]
      simp [htb]
    · rw [List.getElem_append_right (by simp [pad_length]; omega), if_neg htb, List.getElem_drop, ← hpv]
      congr 1
      simp [pad_length]
      omega
  · rw [eachF_length] at h
    have h1 : (eachF k a b).getD t 0 = 0 := by simp [List.getElem?_eq_none (show (eachF k a b).length ≤ t by rw [eachF_length]; omega)]
    have h2 : a.getD t 0 = 0 := by simp [List.getElem?_eq_none (show a.length ≤ t by omega)]
    rw [h1, h2, if_neg (by omega)]
theorem getD_out (b : List F) (t : Nat) (h : ¬ t < b.length) : b.getD t 0 = 0 := by simp [List.getElem?_eq_none (show b.length ≤ t by omega)]
theorem axpy_getD (a : List F) (c : F) (b : List F) (t : Nat) : (axpy a c b).getD t 0 = a.getD t 0 ^^^ mul c (b.getD t 0) := by
  unfold axpy
  rw [eachF_getD]
  split
  · rfl
  · rw [getD_out b t ‹_›, mul_zero, UInt8.xor_zero]
theorem sumF_getD (a b : List F) (t : Nat) : (sumF a b).getD t 0 = a.getD t 0 ^^^ b.getD t 0 := by
  unfold sumF
  rw [eachF_getD]
  split
  · rfl
  · rw [getD_out b t ‹_›, UInt8.xor_zero]
theorem list_ext {a b : List F} (hl : a.length = b.length) (h : ∀ t, a.getD t 0 = b.getD t 0) : a = b := by
  refine List.ext_getElem hl fun t h1 h2 => ?_
  have := h t
  simpa [List.getD_eq_getElem?_getD, List.getElem?_eq_getElem h1, List.getElem?_eq_getElem h2] using this
theorem sumF_length (a b : List F) : (sumF a b).length = max a.length b.length := eachF_length _ _ _
theorem nil_getD (t : Nat) : ([] : List F).getD t 0 = 0 := rfl
theorem same_of {a b : List F} (h : a = b) : sameB a b = true := by rw [h, sameB_self]
theorem scale_sum (c : F) (a b : List F) : sameB (axpy [] c (sumF a b)) (sumF (axpy [] c a) (axpy [] c b)) = true :=
  same_of (list_ext (by simp [axpy_length, sumF_length]) fun t => by simp only [axpy_getD, sumF_getD, nil_getD, UInt8.zero_xor, mul_add])
theorem scale_scale (d c : F) (a : List F) : sameB (axpy [] d (axpy [] c a)) (axpy [] (mul d c) a) = true :=
  same_of (list_ext (by simp [axpy_length]) fun t => by simp only [axpy_getD, nil_getD, UInt8.zero_xor, mul_assoc])
theorem sum_assoc (a b d : List F) : sameB (sumF (sumF a b) d) (sumF a (sumF b d)) = true :=
  same_of (list_ext (by simp only [sumF_length]; omega) fun t => by simp only [sumF_getD, UInt8.xor_assoc])
theorem cell_keep {w w' : World} {p : Addr} {v : Value} (h : w.cell? p = some v) (hb : Below w.heap.size w w') : w'.cell? p = some v := (hb.cell (World.block_lt_of_cell? w _ h)).trans h

/-- A world with a struct's four cells, behind a world. -/
def Four (g : Nat) (v0 v1 v2 v3 : Value) (w1 w' : World) : Prop :=
  w'.cell? ⟨g, 0, none⟩ = some v0 ∧ w'.cell? ⟨g, 1, none⟩ = some v1 ∧ w'.cell? ⟨g, 2, none⟩ = some v2 ∧ w'.cell? ⟨g, 3, none⟩ = some v3 ∧ Pk (Below w1.heap.size w1 w')
theorem four_keep {g : Nat} {v0 v1 v2 v3 : Value} {w1 w w' : World} (h : w.cell? ⟨g, 0, none⟩ = some v0 ∧ w.cell? ⟨g, 1, none⟩ = some v1 ∧ w.cell? ⟨g, 2, none⟩ = some v2 ∧ w.cell? ⟨g, 3, none⟩ = some v3 ∧ Pk (Below w1.heap.size w1 w)) (hb : Below w.heap.size w w') :
    w'.cell? ⟨g, 0, none⟩ = some v0 ∧ w'.cell? ⟨g, 1, none⟩ = some v1 ∧ w'.cell? ⟨g, 2, none⟩ = some v2 ∧ w'.cell? ⟨g, 3, none⟩ = some v3 ∧ Pk (Below w1.heap.size w1 w') :=
  ⟨cell_keep h.1 hb, cell_keep h.2.1 hb, cell_keep h.2.2.1 hb, cell_keep h.2.2.2.1 hb, ⟨h.2.2.2.2.out.trans (hb.mono h.2.2.2.2.out.size)⟩⟩

theorem below_trans2 {a b c : World} (h : Below a.heap.size a b) (k : Below b.heap.size b c) : Below a.heap.size a c := h.trans (k.mono h.size)
theorem rb_of {g : Nat} {v0 v1 v2 v3 : Value} {w1 W : World} {A : Option Addr} {l : List F} (h : RB w1 A l) (hS : W.cell? ⟨g, 0, none⟩ = some v0 ∧ W.cell? ⟨g, 1, none⟩ = some v1 ∧ W.cell? ⟨g, 2, none⟩ = some v2 ∧ W.cell? ⟨g, 3, none⟩ = some v3 ∧ Pk (Below w1.heap.size w1 W)) : RB W A l := h.mono hS.2.2.2.2.out
set_option maxRecDepth 100000 in
set_option maxHeartbeats 2000000 in
theorem gfScales_walk (A : Option Addr) (ca : Nat) (la : List F) (B : Option Addr) (cb : Nat) (lb : List F) (D : Option Addr) (cd : Nat) (ld : List F) (c d : F) (w : World)
    (ha : RB w A la) (_ca : la.length ≤ ca) (hla : la.length ≤ 140737488351232) (hb : RB w B lb) (_cb : lb.length ≤ cb) (hlb : lb.length ≤ 140737488351232) (hd : RB w D ld) (_cd : ld.length ≤ cd) (hld : ld.length ≤ 140737488351232) :
    Calls Try.prog 7 #[.agg #[.slice A la.length ca, .slice B lb.length cb, .slice D ld.length cd, .int .u8 (i c)], .int .u8 (i d)] w fun e w' => e = .returned (.bool true) ∧ Below w.heap.size w w' := by
  have HA := Pk.mk ha
  have HB := Pk.mk hb
  have HD := Pk.mk hd
  clear ha hb hd
  go_enter Try.func7, Try.ntmps7
  go_wp2_with fail
  refine (alive01_calls _).mono ?_
  rintro e w1 ⟨rfl, hb⟩
  have Hb := Pk.mk ((below_alloc w _).trans (hb.mono (by simp)))
  have HS : Pk (w1.cell? ⟨w.heap.size, 0, none⟩ = some (.slice A la.length ca) ∧ w1.cell? ⟨w.heap.size, 1, none⟩ = some (.slice B lb.length cb) ∧ w1.cell? ⟨w.heap.size, 2, none⟩ = some (.slice D ld.length cd) ∧ w1.cell? ⟨w.heap.size, 3, none⟩ = some (.int .u8 (i c))) := by
    refine ⟨?_⟩
    have hn := heap_alloc_new w (.cells #[.slice A la.length ca, .slice B lb.length cb, .slice D ld.length cd, .int .u8 (i c)] 35)
    refine ⟨?_, ?_, ?_, ?_⟩ <;> exact cell_keep (by simp only [World.cell?, hn]; rfl) hb
  clear hb
  go_wp2
  have hS0 := HS.out
  replace HA := Pk.mk (HA.out.mono Hb.out)
  replace HB := Pk.mk (HB.out.mono Hb.out)
  replace HD := Pk.mk (HD.out.mono Hb.out)
  clear HS
  go_region_held3 (fun w' => w'.cell? ⟨w.heap.size, 0, none⟩ = some (.slice A la.length ca) ∧ w'.cell? ⟨w.heap.size, 1, none⟩ = some (.slice B lb.length cb) ∧ w'.cell? ⟨w.heap.size, 2, none⟩ = some (.slice D ld.length cd) ∧ w'.cell? ⟨w.heap.size, 3, none⟩ = some (.int .u8 (i c)) ∧ Pk (Below w1.heap.size w1 w'))
    (first | exact four_keep (by assumption) (by assumption) | exact ⟨hS0.1, hS0.2.1, hS0.2.2.1, hS0.2.2.2, ⟨(Below.refl _ _).drew⟩⟩)
    (first
      | (go_at_call 19; refine (sum_calls _ _ _ _ _ _ _ ?_ ?_ ?_ ?_).mono ?_; (first | assumption | exact HA.out | exact HB.out | exact HD.out | exact Cs.mono (by assumption) (by assumption) | exact rb_of HA.out (by assumption) | exact rb_of HB.out (by assumption) | exact rb_of HD.out (by assumption)); (first | assumption | exact HA.out | exact HB.out | exact HD.out | exact Cs.mono (by assumption) (by assumption) | exact rb_of HA.out (by assumption) | exact rb_of HB.out (by assumption) | exact rb_of HD.out (by assumption)); ((try simp only [sumF_length, axpy_length, List.length_nil]); omega); ((try simp only [sumF_length, axpy_length, List.length_nil]); omega); rintro e w' hm; obtain ⟨A', c', rfl, hc', hr', ho', hb'⟩ := hm.form)
      | (go_at_call 20; refine (scale_calls _ _ _ _ _ ?_ ?_).mono ?_; (first | assumption | exact HA.out | exact HB.out | exact HD.out | exact Cs.mono (by assumption) (by assumption) | exact rb_of HA.out (by assumption) | exact rb_of HB.out (by assumption) | exact rb_of HD.out (by assumption)); ((try simp only [sumF_length, axpy_length, List.length_nil]); omega); rintro e w' hm; obtain ⟨A', c', rfl, hc', hr', ho', hb'⟩ := hm.form)
      | (go_at_call 12; refine (mul_calls _ _ _).mono ?_; rintro e w' ⟨rfl, hw'⟩; obtain rfl := Eq.symm hw'))
  rename World => w2; rename Option Addr => A1; rename Nat => c1
  rename _ ∧ _ ∧ _ ∧ _ ∧ Pk (Below _ _ _) => hH
  have hBW : Below w1.heap.size w1 w2 := hH.2.2.2.2.out
  replace HA := Pk.mk (HA.out.mono hBW)
  replace HB := Pk.mk (HB.out.mono hBW)
  replace HD := Pk.mk (HD.out.mono hBW)
  have HR1 := Pk.mk hr'
  obtain ⟨d0, d1, d2, d3⟩ : (w2.cell? ⟨w.heap.size, 0, none⟩ = some (.slice A la.length ca) ∧ w2.cell? ⟨w.heap.size, 1, none⟩ = some (.slice B lb.length cb) ∧ w2.cell? ⟨w.heap.size, 2, none⟩ = some (.slice D ld.length cd) ∧ w2.cell? ⟨w.heap.size, 3, none⟩ = some (.int .u8 (i c))) := ⟨cell_keep hS0.1 hBW, cell_keep hS0.2.1 hBW, cell_keep hS0.2.2.1 hBW, cell_keep hS0.2.2.2 hBW⟩
  replace hS0 := And.intro d0 (And.intro d1 (And.intro d2 d3))
  replace Hb := Pk.mk (Hb.out.trans (hBW.mono Hb.out.size))
  clear d0 d1 d2 d3 hBW hm hc' hr' ho' hb' hH
  go_wp2_with fail
  go_region_held3 (fun w' => w'.cell? ⟨w.heap.size, 0, none⟩ = some (.slice A la.length ca) ∧ w'.cell? ⟨w.heap.size, 1, none⟩ = some (.slice B lb.length cb) ∧ w'.cell? ⟨w.heap.size, 2, none⟩ = some (.slice D ld.length cd) ∧ w'.cell? ⟨w.heap.size, 3, none⟩ = some (.int .u8 (i c)) ∧ Pk (Below w2.heap.size w2 w'))
    (first | exact four_keep (by assumption) (by assumption) | exact ⟨hS0.1, hS0.2.1, hS0.2.2.1, hS0.2.2.2, ⟨(Below.refl _ _).drew⟩⟩)
    (first
      | (go_at_call 19; refine (sum_calls _ _ _ _ _ _ _ ?_ ?_ ?_ ?_).mono ?_; (first | assumption | exact HA.out | exact HB.out | exact HD.out | exact Cs.mono (by assumption) (by assumption) | exact rb_of HA.out (by assumption) | exact rb_of HB.out (by assumption) | exact rb_of HD.out (by assumption)); (first | assumption | exact HA.out | exact HB.out | exact HD.out | exact Cs.mono (by assumption) (by assumption) | exact rb_of HA.out (by assumption) | exact rb_of HB.out (by assumption) | exact rb_of HD.out (by assumption)); ((try simp only [sumF_length, axpy_length, List.length_nil]); omega); ((try simp only [sumF_length, axpy_length, List.length_nil]); omega); rintro e w' hm; obtain ⟨A', c', rfl, hc', hr', ho', hb'⟩ := hm.form)
      | (go_at_call 20; refine (scale_calls _ _ _ _ _ ?_ ?_).mono ?_; (first | assumption | exact HA.out | exact HB.out | exact HD.out | exact Cs.mono (by assumption) (by assumption) | exact rb_of HA.out (by assumption) | exact rb_of HB.out (by assumption) | exact rb_of HD.out (by assumption)); ((try simp only [sumF_length, axpy_length, List.length_nil]); omega); rintro e w' hm; obtain ⟨A', c', rfl, hc', hr', ho', hb'⟩ := hm.form)
      | (go_at_call 12; refine (mul_calls _ _ _).mono ?_; rintro e w' ⟨rfl, hw'⟩; obtain rfl := Eq.symm hw'))
  rename World => w3; rename Option Addr => A2; rename Nat => c2
  rename _ ∧ _ ∧ _ ∧ _ ∧ Pk (Below _ _ _) => hH
  have hBW : Below w2.heap.size w2 w3 := hH.2.2.2.2.out
  replace HA := Pk.mk (HA.out.mono hBW)
  replace HB := Pk.mk (HB.out.mono hBW)
  replace HD := Pk.mk (HD.out.mono hBW)
  replace HR1 := Pk.mk (HR1.out.mono hBW)
  have HR2 := Pk.mk hr'
  obtain ⟨d0, d1, d2, d3⟩ : (w3.cell? ⟨w.heap.size, 0, none⟩ = some (.slice A la.length ca) ∧ w3.cell? ⟨w.heap.size, 1, none⟩ = some (.slice B lb.length cb) ∧ w3.cell? ⟨w.heap.size, 2, none⟩ = some (.slice D ld.length cd) ∧ w3.cell? ⟨w.heap.size, 3, none⟩ = some (.int .u8 (i c))) := ⟨cell_keep hS0.1 hBW, cell_keep hS0.2.1 hBW, cell_keep hS0.2.2.1 hBW, cell_keep hS0.2.2.2 hBW⟩
  replace hS0 := And.intro d0 (And.intro d1 (And.intro d2 d3))
  replace Hb := Pk.mk (Hb.out.trans (hBW.mono Hb.out.size))
  clear d0 d1 d2 d3 hBW hm hc' hr' ho' hb' hH
  go_wp2_with fail
  go_wp2_with (first
      | (go_at_call 19; refine (sum_calls _ _ _ _ _ _ _ ?_ ?_ ?_ ?_).mono ?_; (first | assumption | exact HA.out | exact HB.out | exact HD.out | exact Cs.mono (by assumption) (by assumption) | exact rb_of HA.out (by assumption) | exact rb_of HB.out (by assumption) | exact rb_of HD.out (by assumption)); (first | assumption | exact HA.out | exact HB.out | exact HD.out | exact Cs.mono (by assumption) (by assumption) | exact rb_of HA.out (by assumption) | exact rb_of HB.out (by assumption) | exact rb_of HD.out (by assumption)); ((try simp only [sumF_length, axpy_length, List.length_nil]); omega); ((try simp only [sumF_length, axpy_length, List.length_nil]); omega); rintro e w' hm; obtain ⟨A', c', rfl, hc', hr', ho', hb'⟩ := hm.form)
      | (go_at_call 20; refine (scale_calls _ _ _ _ _ ?_ ?_).mono ?_; (first | assumption | exact HA.out | exact HB.out | exact HD.out | exact Cs.mono (by assumption) (by assumption) | exact rb_of HA.out (by assumption) | exact rb_of HB.out (by assumption) | exact rb_of HD.out (by assumption)); ((try simp only [sumF_length, axpy_length, List.length_nil]); omega); rintro e w' hm; obtain ⟨A', c', rfl, hc', hr', ho', hb'⟩ := hm.form)
      | (go_at_call 12; refine (mul_calls _ _ _).mono ?_; rintro e w' ⟨rfl, hw'⟩; obtain rfl := Eq.symm hw'))
  rename World => w4; rename Option Addr => A3; rename Nat => c3
  have hBW : Below w3.heap.size w3 w4 := (by first | exact hb' | exact below_trans2 (by assumption) hb')
  replace HA := Pk.mk (HA.out.mono hBW)
  replace HB := Pk.mk (HB.out.mono hBW)
  replace HD := Pk.mk (HD.out.mono hBW)
  replace HR1 := Pk.mk (HR1.out.mono hBW)
  replace HR2 := Pk.mk (HR2.out.mono hBW)
  have HR3 := Pk.mk hr'
  obtain ⟨d0, d1, d2, d3⟩ : (w4.cell? ⟨w.heap.size, 0, none⟩ = some (.slice A la.length ca) ∧ w4.cell? ⟨w.heap.size, 1, none⟩ = some (.slice B lb.length cb) ∧ w4.cell? ⟨w.heap.size, 2, none⟩ = some (.slice D ld.length cd) ∧ w4.cell? ⟨w.heap.size, 3, none⟩ = some (.int .u8 (i c))) := ⟨cell_keep hS0.1 hBW, cell_keep hS0.2.1 hBW, cell_keep hS0.2.2.1 hBW, cell_keep hS0.2.2.2 hBW⟩
  replace hS0 := And.intro d0 (And.intro d1 (And.intro d2 d3))
  replace Hb := Pk.mk (Hb.out.trans (hBW.mono Hb.out.size))
  clear d0 d1 d2 d3 hBW hm hc' hr' ho' hb'
  go_region_held3 (fun w' => w'.cell? ⟨w.heap.size, 0, none⟩ = some (.slice A la.length ca) ∧ w'.cell? ⟨w.heap.size, 1, none⟩ = some (.slice B lb.length cb) ∧ w'.cell? ⟨w.heap.size, 2, none⟩ = some (.slice D ld.length cd) ∧ w'.cell? ⟨w.heap.size, 3, none⟩ = some (.int .u8 (i c)) ∧ Pk (Below w4.heap.size w4 w'))
    (first | exact four_keep (by assumption) (by assumption) | exact ⟨hS0.1, hS0.2.1, hS0.2.2.1, hS0.2.2.2, ⟨(Below.refl _ _).drew⟩⟩)
    (first
      | (go_at_call 19; refine (sum_calls _ _ _ _ _ _ _ ?_ ?_ ?_ ?_).mono ?_; (first | assumption | exact HA.out | exact HB.out | exact HD.out | exact Cs.mono (by assumption) (by assumption) | exact rb_of HA.out (by assumption) | exact rb_of HB.out (by assumption) | exact rb_of HD.out (by assumption)); (first | assumption | exact HA.out | exact HB.out | exact HD.out | exact Cs.mono (by assumption) (by assumption) | exact rb_of HA.out (by assumption) | exact rb_of HB.out (by assumption) | exact rb_of HD.out (by assumption)); ((try simp only [sumF_length, axpy_length, List.length_nil]); omega); ((try simp only [sumF_length, axpy_length, List.length_nil]); omega); rintro e w' hm; obtain ⟨A', c', rfl, hc', hr', ho', hb'⟩ := hm.form)
      | (go_at_call 20; refine (scale_calls _ _ _ _ _ ?_ ?_).mono ?_; (first | assumption | exact HA.out | exact HB.out | exact HD.out | exact Cs.mono (by assumption) (by assumption) | exact rb_of HA.out (by assumption) | exact rb_of HB.out (by assumption) | exact rb_of HD.out (by assumption)); ((try simp only [sumF_length, axpy_length, List.length_nil]); omega); rintro e w' hm; obtain ⟨A', c', rfl, hc', hr', ho', hb'⟩ := hm.form)
      | (go_at_call 12; refine (mul_calls _ _ _).mono ?_; rintro e w' ⟨rfl, hw'⟩; obtain rfl := Eq.symm hw'))
  rename World => w5; rename Option Addr => A4; rename Nat => c4
  rename _ ∧ _ ∧ _ ∧ _ ∧ Pk (Below _ _ _) => hH
  have hBW : Below w4.heap.size w4 w5 := hH.2.2.2.2.out
  replace HA := Pk.mk (HA.out.mono hBW)
  replace HB := Pk.mk (HB.out.mono hBW)
  replace HD := Pk.mk (HD.out.mono hBW)
  replace HR1 := Pk.mk (HR1.out.mono hBW)
  replace HR2 := Pk.mk (HR2.out.mono hBW)
  replace HR3 := Pk.mk (HR3.out.mono hBW)
  have HR4 := Pk.mk hr'
  obtain ⟨d0, d1, d2, d3⟩ : (w5.cell? ⟨w.heap.size, 0, none⟩ = some (.slice A la.length ca) ∧ w5.cell? ⟨w.heap.size, 1, none⟩ = some (.slice B lb.length cb) ∧ w5.cell? ⟨w.heap.size, 2, none⟩ = some (.slice D ld.length cd) ∧ w5.cell? ⟨w.heap.size, 3, none⟩ = some (.int .u8 (i c))) := ⟨cell_keep hS0.1 hBW, cell_keep hS0.2.1 hBW, cell_keep hS0.2.2.1 hBW, cell_keep hS0.2.2.2 hBW⟩
  replace hS0 := And.intro d0 (And.intro d1 (And.intro d2 d3))
  replace Hb := Pk.mk (Hb.out.trans (hBW.mono Hb.out.size))
  clear d0 d1 d2 d3 hBW hm hc' hr' ho' hb' hH
  go_wp2_with fail
  go_region_held3 (fun w' => w'.cell? ⟨w.heap.size, 0, none⟩ = some (.slice A la.length ca) ∧ w'.cell? ⟨w.heap.size, 1, none⟩ = some (.slice B lb.length cb) ∧ w'.cell? ⟨w.heap.size, 2, none⟩ = some (.slice D ld.length cd) ∧ w'.cell? ⟨w.heap.size, 3, none⟩ = some (.int .u8 (i c)) ∧ Pk (Below w5.heap.size w5 w'))
    (first | exact four_keep (by assumption) (by assumption) | exact ⟨hS0.1, hS0.2.1, hS0.2.2.1, hS0.2.2.2, ⟨(Below.refl _ _).drew⟩⟩)
    (first
      | (go_at_call 19; refine (sum_calls _ _ _ _ _ _ _ ?_ ?_ ?_ ?_).mono ?_; (first | assumption | exact HA.out | exact HB.out | exact HD.out | exact Cs.mono (by assumption) (by assumption) | exact rb_of HA.out (by assumption) | exact rb_of HB.out (by assumption) | exact rb_of HD.out (by assumption)); (first | assumption | exact HA.out | exact HB.out | exact HD.out | exact Cs.mono (by assumption) (by assumption) | exact rb_of HA.out (by assumption) | exact rb_of HB.out (by assumption) | exact rb_of HD.out (by assumption)); ((try simp only [sumF_length, axpy_length, List.length_nil]); omega); ((try simp only [sumF_length, axpy_length, List.length_nil]); omega); rintro e w' hm; obtain ⟨A', c', rfl, hc', hr', ho', hb'⟩ := hm.form)
      | (go_at_call 20; refine (scale_calls _ _ _ _ _ ?_ ?_).mono ?_; (first | assumption | exact HA.out | exact HB.out | exact HD.out | exact Cs.mono (by assumption) (by assumption) | exact rb_of HA.out (by assumption) | exact rb_of HB.out (by assumption) | exact rb_of HD.out (by assumption)); ((try simp only [sumF_length, axpy_length, List.length_nil]); omega); rintro e w' hm; obtain ⟨A', c', rfl, hc', hr', ho', hb'⟩ := hm.form)
      | (go_at_call 12; refine (mul_calls _ _ _).mono ?_; rintro e w' ⟨rfl, hw'⟩; obtain rfl := Eq.symm hw'))
  rename World => w6; rename Option Addr => A5; rename Nat => c5
  rename _ ∧ _ ∧ _ ∧ _ ∧ Pk (Below _ _ _) => hH
  have hBW : Below w5.heap.size w5 w6 := hH.2.2.2.2.out
  replace HA := Pk.mk (HA.out.mono hBW)
  replace HB := Pk.mk (HB.out.mono hBW)
  replace HD := Pk.mk (HD.out.mono hBW)
  replace HR1 := Pk.mk (HR1.out.mono hBW)
  replace HR2 := Pk.mk (HR2.out.mono hBW)
  replace HR3 := Pk.mk (HR3.out.mono hBW)
  replace HR4 := Pk.mk (HR4.out.mono hBW)
  have HR5 := Pk.mk hr'
  obtain ⟨d0, d1, d2, d3⟩ : (w6.cell? ⟨w.heap.size, 0, none⟩ = some (.slice A la.length ca) ∧ w6.cell? ⟨w.heap.size, 1, none⟩ = some (.slice B lb.length cb) ∧ w6.cell? ⟨w.heap.size, 2, none⟩ = some (.slice D ld.length cd) ∧ w6.cell? ⟨w.heap.size, 3, none⟩ = some (.int .u8 (i c))) := ⟨cell_keep hS0.1 hBW, cell_keep hS0.2.1 hBW, cell_keep hS0.2.2.1 hBW, cell_keep hS0.2.2.2 hBW⟩
  replace hS0 := And.intro d0 (And.intro d1 (And.intro d2 d3))
  replace Hb := Pk.mk (Hb.out.trans (hBW.mono Hb.out.size))
  clear d0 d1 d2 d3 hBW hm hc' hr' ho' hb' hH
  go_wp2_with fail
  go_region_held3 (fun w' => w'.cell? ⟨w.heap.size, 0, none⟩ = some (.slice A la.length ca) ∧ w'.cell? ⟨w.heap.size, 1, none⟩ = some (.slice B lb.length cb) ∧ w'.cell? ⟨w.heap.size, 2, none⟩ = some (.slice D ld.length cd) ∧ w'.cell? ⟨w.heap.size, 3, none⟩ = some (.int .u8 (i c)) ∧ Pk (Below w6.heap.size w6 w'))
    (first | exact four_keep (by assumption) (by assumption) | exact ⟨hS0.1, hS0.2.1, hS0.2.2.1, hS0.2.2.2, ⟨(Below.refl _ _).drew⟩⟩)
    (first
      | (go_at_call 19; refine (sum_calls _ _ _ _ _ _ _ ?_ ?_ ?_ ?_).mono ?_; (first | assumption | exact HA.out | exact HB.out | exact HD.out | exact Cs.mono (by assumption) (by assumption) | exact rb_of HA.out (by assumption) | exact rb_of HB.out (by assumption) | exact rb_of HD.out (by assumption)); (first | assumption | exact HA.out | exact HB.out | exact HD.out | exact Cs.mono (by assumption) (by assumption) | exact rb_of HA.out (by assumption) | exact rb_of HB.out (by assumption) | exact rb_of HD.out (by assumption)); ((try simp only [sumF_length, axpy_length, List.length_nil]); omega); ((try simp only [sumF_length, axpy_length, List.length_nil]); omega); rintro e w' hm; obtain ⟨A', c', rfl, hc', hr', ho', hb'⟩ := hm.form)
      | (go_at_call 20; refine (scale_calls _ _ _ _ _ ?_ ?_).mono ?_; (first | assumption | exact HA.out | exact HB.out | exact HD.out | exact Cs.mono (by assumption) (by assumption) | exact rb_of HA.out (by assumption) | exact rb_of HB.out (by assumption) | exact rb_of HD.out (by assumption)); ((try simp only [sumF_length, axpy_length, List.length_nil]); omega); rintro e w' hm; obtain ⟨A', c', rfl, hc', hr', ho', hb'⟩ := hm.form)
      | (go_at_call 12; refine (mul_calls _ _ _).mono ?_; rintro e w' ⟨rfl, hw'⟩; obtain rfl := Eq.symm hw'))
  rename World => w7; rename Option Addr => A6; rename Nat => c6
  rename _ ∧ _ ∧ _ ∧ _ ∧ Pk (Below _ _ _) => hH
  have hBW : Below w6.heap.size w6 w7 := hH.2.2.2.2.out
  replace HA := Pk.mk (HA.out.mono hBW)
  replace HB := Pk.mk (HB.out.mono hBW)
  replace HD := Pk.mk (HD.out.mono hBW)
  replace HR1 := Pk.mk (HR1.out.mono hBW)
  replace HR2 := Pk.mk (HR2.out.mono hBW)
  replace HR3 := Pk.mk (HR3.out.mono hBW)
  replace HR4 := Pk.mk (HR4.out.mono hBW)
  replace HR5 := Pk.mk (HR5.out.mono hBW)
  have HR6 := Pk.mk hr'
  obtain ⟨d0, d1, d2, d3⟩ : (w7.cell? ⟨w.heap.size, 0, none⟩ = some (.slice A la.length ca) ∧ w7.cell? ⟨w.heap.size, 1, none⟩ = some (.slice B lb.length cb) ∧ w7.cell? ⟨w.heap.size, 2, none⟩ = some (.slice D ld.length cd) ∧ w7.cell? ⟨w.heap.size, 3, none⟩ = some (.int .u8 (i c))) := ⟨cell_keep hS0.1 hBW, cell_keep hS0.2.1 hBW, cell_keep hS0.2.2.1 hBW, cell_keep hS0.2.2.2 hBW⟩
  replace hS0 := And.intro d0 (And.intro d1 (And.intro d2 d3))
  replace Hb := Pk.mk (Hb.out.trans (hBW.mono Hb.out.size))
  clear d0 d1 d2 d3 hBW hm hc' hr' ho' hb' hH
  go_wp2_with fail
  have s1 := scale_sum c la lb
  have s2 := scale_scale d c la
  have s3 := sum_assoc la lb ld
  have HL := Pk.mk (show (axpy [] c (sumF la lb)).length = max la.length lb.length by rw [axpy_length, sumF_length]; simp)
  go_wp2_with fail
  refine (same_calls _ _ _ _ _ _ _ HR1.out HR2.out).mono ?_
  rintro e w' ⟨rfl, hw'⟩
  obtain rfl := Eq.symm hw'
  go_wp2_with fail
  refine (same_calls _ _ _ _ _ _ _ HR3.out HR4.out).mono ?_
  rintro e w' ⟨rfl, hw'⟩
  obtain rfl := Eq.symm hw'
  go_wp2_with fail
  refine (same_calls _ _ _ _ _ _ _ HR5.out HR6.out).mono ?_
  rintro e w' ⟨rfl, hw'⟩
  obtain rfl := Eq.symm hw'
  obtain ⟨f0, f1, f2, f3⟩ := hS0
  by_cases hlt : la.length < lb.length
  · have hL : (axpy [] c (sumF la lb)).length = lb.length := by rw [HL.out]; omega
    go_wp2
    go_ret
    exact ⟨rfl, Hb.out⟩
  · have hL : (axpy [] c (sumF la lb)).length = la.length := by rw [HL.out]; omega
    go_wp2
    go_ret
    exact ⟨rfl, Hb.out⟩
end Go.Proofs.Ytfanaaiakalccaa
