/- Join where it does not join; the document's Join. -/
import Derived.Test.YtejmbfoecacgmaaDoorShO
namespace Go.Proofs.YtejmbfoecacgmaaDoor
open Go Go.RowKit Go.Proofs.YtejmbfoecacgmaaDoor.Gf
set_option linter.unusedVariables false
set_option linter.unusedSimpArgs false

def joErrs : List Nat := [1, 12, 0, 5]
theorem joErrs_sub : ∀ g ∈ joErrs, g ∈ errG := by decide
theorem shErrs_jo : ∀ g ∈ shErrs, g ∈ joErrs := by decide
theorem errN_5 (E : Nat → Addr) : errN E 5 = .iface 55 (.pointer (some (E 5))) := rfl

/-- Are there as many as there should be, of the size? -/
def fitH (H : List Sh) (n h : Nat) : Prop := H.length = n ∧ ∀ x ∈ H, x.2.2.length = h

set_option maxRecDepth 100000 in
theorem join_err (E : Nat → Addr) (k size : Int) (A : Option Addr) (n ca : Nat) (w : World) (hE : ErrW w E shErrs) (h0 : halfC k size ≠ 0) (hs : size ≤ 9223372036854775807) :
    Calls Tryd.prog 17 #[.int .i64 k, .int .i64 size, .slice A n ca] w fun e w' => e = .returned (.tuple #[.slice none 0 0, errN E (halfC k size)]) ∧ Below w.heap.size w w' := by
  have hn := fun (w : World) (g : Nat) => err_neq_nil (w := w) E g
  have hv : halfV k size = 0 := by simp [halfV, h0]
  rcases halfC_cases k size with h | h | h | h
  · exact absurd h h0
  all_goals
    go_enter Tryd.func17, Tryd.ntmps17
    go_wp2_with fail
    refine (half_calls E k size w hE hs).mono ?_
    rw [h, hv]
    first | rw [errN_1] | rw [errN_12] | rw [errN_20]
    rintro e w' ⟨rfl, n, rfl⟩
    go_wp2
    go_ret2
    exact ⟨by rw [h]; rfl, below_drew _ _⟩

set_option maxRecDepth 100000 in
set_option maxHeartbeats 4000000 in
theorem join_bad (E : Nat → Addr) (kk hh size : Nat) (A : Option Addr) (n ca : Nat) (H : List Sh) (w : World) (hE : ErrW w E joErrs) (hL : LL w A H) (hn : H.length = n) (hnl : n ≤ 5864062014634) (hb : ¬ fitH H (2 * kk) hh)
    (h0 : halfC kk size = 0) (hv : halfV kk size = hh) :
    Calls Tryd.prog 17 #[.int .i64 kk, .int .i64 size, .slice A n ca] w fun e w' => e = .returned (.tuple #[.slice none 0 0, errN E 5]) ∧ Below w.heap.size w w' := by
  rw [errN_5]
  have c5 := hE.cell 5 (by decide)
  simp only [errV] at c5
  obtain ⟨k1, k2, s1, s2, v1, v2, m1, m2⟩ := half_ok h0
  rw [hv] at v1 v2 m1 m2
  have HE := Pk.mk hE
  have HL := Pk.mk hL
  have HN := Pk.mk hn
  have HF := Pk.mk hb
  clear hE hL hn hb m1 m2
  go_enter Tryd.func17, Tryd.ntmps17
  go_wp2_with fail
  have q := half_calls E kk size w (HE.out.sub shErrs_jo) (by omega)
  rw [h0, hv, errN_0] at q
  with_reducible refine (qb q).mono ?_
  clear q
  rintro e w1 ⟨rfl, hb⟩
  have B0 := Pk.mk hb
  have C5 := Pk.mk c5
  have c6 := cell_below c5 hb
  clear hb h0 hv HE c5
  by_cases hn2 : n = 2 * kk
  · have i1 : ((n : Int) != 2 * (kk : Int)) = false := by rw [hn2]; simp
    have HX : Pk (∃ x ∈ H, x.2.2.length ≠ hh) := ⟨Classical.byContradiction fun h => HF.out (And.intro (HN.out.trans hn2) (fun x hx => Classical.byContradiction fun h2 => h ⟨x, hx, h2⟩))⟩
    have Hn2 := Pk.mk hn2
    clear hn2 HF
    clear c6
    go_wp2
    go_loopw [30, 10] (fun x o wr => ∃ t : Nat, t ≤ n ∧ x = .int .i64 (t : Int) ∧ Pk (∀ (j : Nat) (y : Sh), j < t → H[j]? = some y → y.2.2.length = hh) ∧ Pk (wr.ownsRow w.heap.size 5 1 o (t * hh) (bvs (joined H t))) ∧ Pk (Below w.heap.size w wr)) (fun x _ _ => n - (intOf x).toNat)
    case atStart => exact ⟨0, Nat.zero_le _, rfl, ⟨fun j y hj => by omega⟩, ⟨by rw [joined_zero, Nat.zero_mul]; exact World.ownsRow_nil _ _ _ _⟩, B0⟩
    case round =>
      clear B0
      obtain ⟨t, ht, rfl, HJ, HO, B0⟩ := hrel
      by_cases hlt : t < n
      · have hlt' : t < H.length := by rw [HN.out]; exact hlt
        obtain ⟨a, rfl, hcell, hrb⟩ := (HL.out.mono B0.out).at hlt'
        obtain ⟨x, Hx⟩ : ∃ x, Pk (H[t]? = some x) := ⟨_, ⟨List.getElem?_eq_getElem hlt'⟩⟩
        have hxe : H[t] = x := Option.some.inj ((List.getElem?_eq_getElem hlt').symm.trans Hx.out)
        rw [hxe] at hcell hrb
        have HJs := Pk.mk (show joined H (t + 1) = joined H t ++ x.2.2 by rw [joined_succ H t hlt', hxe])
        clear hxe
        obtain ⟨X, cx, lx⟩ := x
        simp only [hdr] at hcell
        simp only at hrb HJs
        by_cases hl : lx.length = hh
        · have HRB := Pk.mk hrb
          have HLX := Pk.mk hl
          rw [hl] at hcell
          have Hall := Pk.mk (show ∀ (j : Nat) (y : Sh), j < t + 1 → H[j]? = some y → y.2.2.length = hh from fun j y hj hy => by
            by_cases hjt : j < t
            · exact HJ.out j y hjt hy
            · obtain rfl : j = t := by omega
              rw [Hx.out] at hy
              cases hy
              exact hl)
          have hth : (t + 1) * hh ≤ 28 * 64 := by
            have : t + 1 ≤ n := hlt
            exact Nat.mul_le_mul (by have := Hn2.out; omega) (by omega)
          have Hth := Pk.mk (show t * hh + hh ≤ 1792 by rw [← Nat.succ_mul]; exact hth)
          clear hth hl hrb HJ Hx
          go_wp2_with ((with_reducible refine gate_b (b := .append) rfl ?_); refine Pk.out ?_)
          refine ⟨?_⟩
          refine app_bytes w.heap.size _ (t * hh) (joined H t) HO.out B0.out.size X hh cx lx HLX.out HRB.out (by have := Hth.out; omega) rfl rfl rfl rfl ?_
          intro v2 w2 hown hb _
          have HO2 := Pk.mk (show w2.ownsRow w.heap.size 5 1 v2 ((t + 1) * hh) (bvs (joined H (t + 1))) by rw [HJs.out, Nat.add_mul, Nat.one_mul]; exact hown)
          have B2 := Pk.mk (B0.out.trans hb)
          clear hown hb HO B0 HJs
          go_wp2
          go_roundw
          · exact ⟨t + 1, by omega, by go_num, Hall, HO2, B2⟩
          · simp [intOf]; omega
        · have i2 : ((lx.length : Int) != (hh : Int)) = true := by rw [bne_iff_ne]; omega
          have c6 := cell_below C5.out B0.out
          clear hrb HJs HJ Hx
          go_wp2
          go_quiet (fail)
          go_wp2
          go_ret2
          exact ⟨rfl, below_drewN B0.out _⟩
      · exfalso
        obtain ⟨x, hx, hne⟩ := HX.out
        obtain ⟨j, hj, hjx⟩ := List.getElem_of_mem hx
        exact hne (HJ.out j x (by have := HN.out; omega) (by rw [List.getElem?_eq_getElem hj, hjx]))
  · have i1 : ((n : Int) != 2 * (kk : Int)) = true := by rw [bne_iff_ne]; omega
    clear C5
    go_wp2
    go_quiet (fail)
    go_wp2
    go_ret2
    exact ⟨rfl, below_drewN B0.out _⟩
end Go.Proofs.YtejmbfoecacgmaaDoor
