/- shards.Join where it joins. -/
import Derived.Test.YtejmbfoecacgmaaDoorShD
namespace Go.Proofs.YtejmbfoecacgmaaDoor
open Go Go.RowKit Go.Proofs.YtejmbfoecacgmaaDoor.Gf
set_option linter.unusedVariables false
set_option linter.unusedSimpArgs false

/-- A header and its bytes. -/
abbrev Sh := Option Addr × Nat × List F
def hdr (x : Sh) : Value := .slice x.1 x.2.2.length x.2.1
def rbs (w : World) (H : List Sh) : Prop := ∀ x ∈ H, RB w x.1 x.2.2
theorem rbs.mono {w w' : World} {H : List Sh} (h : rbs w H) (hb : Below w.heap.size w w') : rbs w' H := fun x hx => (h x hx).mono hb
def joined (H : List Sh) (t : Nat) : List F := (H.take t).flatMap (·.2.2)
theorem joined_zero (H : List Sh) : joined H 0 = [] := by simp [joined]
theorem joined_succ (H : List Sh) (t : Nat) (h : t < H.length) : joined H (t + 1) = joined H t ++ H[t].2.2 := by
  rw [joined, joined, List.take_succ_eq_append_getElem h, List.flatMap_append, List.flatMap_singleton]
theorem joined_length (H : List Sh) (n : Nat) (hl : ∀ x ∈ H, x.2.2.length = n) : ∀ t, t ≤ H.length → (joined H t).length = t * n
  | 0, _ => by simp [joined_zero]
  | t + 1, h => by
    rw [joined_succ H t (by omega), List.length_append, joined_length H n hl t (by omega), hl _ (List.getElem_mem _), Nat.add_mul, Nat.one_mul]

set_option maxRecDepth 100000 in
set_option maxHeartbeats 4000000 in
theorem join_ok (E : Nat → Addr) (kk hh size N : Nat) (A : Option Addr) (ca : Nat) (H : List Sh) (w : World) (hE : ErrW w E shErrs) (hc : Cs w A (H.map hdr)) (hr : rbs w H) (hl : ∀ x ∈ H, x.2.2.length = hh) (hn : H.length = N) (hN : N = 2 * kk)
    (h0 : halfC kk size = 0) (hv : halfV kk size = hh) :
    Calls Tryd.prog 17 #[.int .i64 kk, .int .i64 size, .slice A N ca] w fun e w' => ∃ v, e = .returned (.tuple #[v, .nilIface]) ∧ w'.ownsRow w.heap.size 5 1 v size (bvs ((joined H N).take size)) ∧ Below w.heap.size w w' := by
  obtain ⟨i8, hi, hz0, hz1, hz2⟩ := info_parts info8
  obtain ⟨k1, k2, s1, s2, v1, v2, m1, m2⟩ := half_ok h0
  rw [hv] at v1 v2 m1 m2
  have HC := Pk.mk hc
  have HR := Pk.mk hr
  have HL := Pk.mk hl
  have Hn := Pk.mk hn
  have hNi : 2 * (kk : Int) = (N : Int) := by omega
  have hb1 : N * hh ≤ 28 * 64 := Nat.mul_le_mul (by omega) (by omega)
  have hb2 : size ≤ N * hh := by
    rw [hNi] at m1
    have : (size : Int) ≤ ((N * hh : Nat) : Int) := by push_cast; exact m1
    omega
  have HB := Pk.mk (And.intro hb1 hb2)
  clear hc hr hl hn hN m1 m2 hb1 hb2
  go_enter Tryd.func17, Tryd.ntmps17
  go_wp2_with fail
  refine (half_calls E kk size w hE (by omega)).mono ?_
  rw [h0, hv, errN_0]
  rintro e w1 ⟨rfl, n1, rfl⟩
  clear hE h0 hv
  go_wp2
  go_loopw [30, 10] (fun n o wr => ∃ t : Nat, t ≤ N ∧ n = .int .i64 (t : Int) ∧ Pk (wr.ownsRow w.heap.size 5 1 o (t * hh) (bvs (joined H t))) ∧ Pk (Below w.heap.size w wr)) (fun n _ _ => N - (intOf n).toNat)
  case atStart => exact ⟨0, Nat.zero_le _, rfl, ⟨by rw [joined_zero, Nat.zero_mul]; exact World.ownsRow_nil _ _ _ _⟩, ⟨below_drewN (Below.refl _ _) _⟩⟩
  case round =>
    obtain ⟨t, ht, rfl, HO, Hb⟩ := hrel
    by_cases hlt : t < N
    · obtain ⟨x, Hx, Hm, hcell⟩ : ∃ x : Sh, Pk (joined H (t + 1) = joined H t ++ x.2.2) ∧ Pk (x ∈ H) ∧ ∃ a, A = some a ∧ wr.cell? (a.add t) = some (.slice x.1 hh x.2.1) := by
        have hlt' : t < H.length := by rw [Hn.out]; exact hlt
        refine ⟨H[t], ⟨joined_succ H t hlt'⟩, ⟨List.getElem_mem _⟩, ?_⟩
        obtain ⟨a, ha, hc⟩ := (HC.out.mono Hb.out).at (j := t) (u := hdr H[t]) (by rw [List.getElem?_map, List.getElem?_eq_getElem hlt']; rfl)
        refine ⟨a, ha, ?_⟩
        rw [hc, hdr, HL.out _ (List.getElem_mem _)]
      obtain ⟨X, cx, lx⟩ := x
      obtain ⟨a, rfl, hcell⟩ := hcell
      simp only at hcell
      have Hlx := Pk.mk (show lx.length = hh from HL.out _ Hm.out)
      have hth : (t + 1) * hh ≤ N * hh := Nat.mul_le_mul_right _ hlt
      have Hth := Pk.mk (show t * hh + hh ≤ 1792 by rw [← Nat.succ_mul]; exact Nat.le_trans hth HB.out.1)
      clear hth
      go_wp2_with (first | ((with_reducible refine gate_b (b := .append) (xs := #[.tmp 39, .tmp 40]) rfl ?_); refine Pk.out ?_))
      refine ⟨?_⟩
      refine wpList_append_src rfl (.tmp 39) (.tmp 40) 22 rfl w.heap.size 5 i8 (.int .u8 0) 1 Tryd.underlying22 hi hz0 hz1 hz2 rfl _ (t * hh) (bvs (joined H t)) rfl HO.out X hh cx (bvs lx) rfl (by rw [bvs_length]; exact Hlx.out) ((HR.out.mono Hb.out) _ Hm.out) (bvs_one _) (by have := Hth.out; unfold maxLen; omega) (by have := Hth.out; omega) Hb.out.size ?_
      intro v2 w2 hown hgr
      have HO2 := Pk.mk (show w2.ownsRow w.heap.size 5 1 v2 ((t + 1) * hh) (bvs (joined H (t + 1))) by rw [Hx.out, bvs_append, Nat.add_mul, Nat.one_mul]; exact hown)
      have Hb2 := Pk.mk (Hb.out.grown hgr Hb.out.size (fun k hk => (HO.out.lt k hk).1))
      clear hown hgr HO Hb Hx
      go_wp2
      go_roundw
      · exact ⟨t + 1, by omega, by go_num, HO2, Hb2⟩
      · simp [intOf]; omega
    · have ht2 : t = N := by omega
      subst ht2
      obtain ⟨X, cx, rfl, hcx, hcs, hxl⟩ := own_form HO.out
      have hsz : size ≤ cx := Nat.le_trans HB.out.2 hcx
      have HX := Pk.mk (Cs.take hcs size)
      have Hlen := Pk.mk (show (bvs ((joined H t).take size)).length = size by
        rw [bvs_length, List.length_take, joined_length H hh HL.out t (by rw [Hn.out]; exact Nat.le_refl _)]
        exact Nat.min_eq_left HB.out.2)
      have Htk := Pk.mk (show (bvs (joined H t)).take size = bvs ((joined H t).take size) by simp [bvs, List.map_take])
      have hszn : size ≤ t * hh := HB.out.2
      have hs0 : 1 ≤ size := by omega
      clear hcs hxl
      go_wp2_with (first | ((with_reducible refine gate_b (b := .append) (xs := #[.const (.slice none 0 0), .tmp 45]) rfl ?_); refine Pk.out ?_))
      refine ⟨?_⟩
      refine wpList_append_src rfl (.const (.slice none 0 0)) (.tmp 45) 22 rfl wr.heap.size 5 i8 (.int .u8 0) 1 Tryd.underlying22 hi hz0 hz1 hz2 rfl _ 0 [] rfl (World.ownsRow_nil _ _ _ _) X size cx (bvs ((joined H t).take size)) rfl Hlen.out (by rw [← Htk.out]; exact HX.out) (bvs_one _) (by unfold maxLen; omega) (by omega) (Nat.le_refl _) ?_
      intro v2 w2 hown hgr
      have HO2 := Pk.mk (show w2.ownsRow wr.heap.size 5 1 v2 size (bvs ((joined H t).take size)) by rw [Nat.zero_add, List.nil_append] at hown; exact hown)
      have Hb2 := Pk.mk (Hb.out.grown hgr Hb.out.size (fun k hk => by cases hk))
      clear hown hgr
      go_wp2
      go_ret2
      exact ⟨_, rfl, own_low HO2.out Hb.out.size, Hb2.out⟩
end Go.Proofs.YtejmbfoecacgmaaDoor
