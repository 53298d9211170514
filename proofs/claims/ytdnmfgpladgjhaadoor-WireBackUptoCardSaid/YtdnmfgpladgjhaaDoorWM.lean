/- The reader's methods. -/
import Derived.Test.YtdnmfgpladgjhaaDoorWL
import Derived.Test.YtdnmfgpladgjhaaDoorWH
namespace Go.Proofs.YtdnmfgpladgjhaaDoor
open Go Go.RowKit Go.Proofs.YtdnmfgpladgjhaaDoor.Gf
set_option linter.unusedVariables false
set_option linter.unusedSimpArgs false

def rdErrs : List Nat := [1]
theorem newReader_calls (A : Option Addr) (n ca : Nat) (la : List F) (w : World) (hn : la.length = n) (ha : RB w A la) (hl : n ≤ 140737488355328) :
    Calls Tryd.prog 21 #[.slice A n ca] w fun e w' => ∃ g X cx, e = .returned (.pointer (some ⟨g, 0, none⟩)) ∧ Rd w.heap.size w' g X cx la 0 ∧ Below w.heap.size w w' := by
  have HN := Pk.mk hn
  have HA := Pk.mk ha
  clear hn ha
  go_enter Tryd.func21, Tryd.ntmps21
  go_wp2_with fail
  have q := clone_calls A n ca la w HN.out HA.out hl
  with_reducible refine q.mono ?_
  clear q
  rintro e w1 ⟨v, rfl, ho, hb⟩
  obtain ⟨X, cx, rfl, hcx, hcs, _⟩ := own_form ho
  have HX := Pk.mk hcs
  have HO := Pk.mk (show ∀ a, X = some a → w.heap.size ≤ a.block ∧ a.block < w1.heap.size from fun a ha => ho.lt a.block (by rw [ha]; rfl))
  have HB := Pk.mk hb
  clear ho hb hcs
  go_wp2
  go_ret
  exact ⟨_, X, cx, rfl, ⟨HB.out.size, by rw [HN.out]; exact heap_alloc_new _ _, RB.alloc HX.out _, by rw [HN.out]; exact hcx, fun a ha => ⟨(HO.out a ha).1, Nat.ne_of_lt (HO.out a ha).2⟩, by rw [HN.out]; exact hl, Nat.zero_le _⟩, HB.out.trans ((below_alloc _ _).mono HB.out.size)⟩

theorem left_calls (B g : Nat) (X : Option Addr) (cx : Nat) (l : List F) (p : Nat) (w : World) (hR : Rd B w g X cx l p) :
    Calls Tryd.prog 29 #[.pointer (some ⟨g, 0, none⟩)] w fun e w' => e = .returned (.int .i64 (l.length - p : Nat)) ∧ ∃ d, w' = w.drewN d := by
  have c0 : ∀ d, (w.drewN d).cell? ⟨g, 0, none⟩ = some (.slice X l.length cx) := fun d => cell0 hR.cell
  have c1 : ∀ d, (w.drewN d).cell? ⟨g, 1, none⟩ = some (.int .i64 (p : Int)) := fun d => cell1 hR.cell
  have hlen := hR.len
  have hpos := hR.pos
  obtain ⟨m, HM⟩ : ∃ m, Pk (l.length - p = m ∧ (l.length : Int) - (p : Int) = (m : Int)) := ⟨_, ⟨rfl, by omega⟩⟩
  have hm := HM.out.2
  rw [HM.out.1]
  clear hR
  go_enter Tryd.func29, Tryd.ntmps29
  go_wp2
  go_quiet (fail)
  go_wp2
  go_ret
  exact ⟨by first | rfl | simp [hm], _, rfl⟩

theorem end_calls (E : Nat → Addr) (B g : Nat) (X : Option Addr) (cx : Nat) (l : List F) (p : Nat) (w : World) (hE : ErrW w E rdErrs) (hR : Rd B w g X cx l p) :
    Calls Tryd.prog 28 #[.pointer (some ⟨g, 0, none⟩)] w fun e w' => e = .returned (errN E (if p = l.length then 0 else 10)) ∧ Below w.heap.size w w' := by
  have hpos := hR.pos
  have HR := Pk.mk hR
  have HE := Pk.mk hE
  clear hR hE
  by_cases hp : p = l.length
  · rw [if_pos hp, errN_0]
    have HZ := Pk.mk (show l.length - p = 0 by omega)
    go_enter Tryd.func28, Tryd.ntmps28
    go_wp2_with fail
    have q := qb (left_calls B g X cx l p w HR.out)
    rw [HZ.out] at q
    with_reducible refine q.mono ?_
    clear q
    rintro e w1 ⟨rfl, hb⟩
    have HB := Pk.mk hb
    clear hb
    go_wp2
    go_ret
    exact ⟨rfl, HB.out⟩
  · rw [if_neg hp, errN_10]
    obtain ⟨m, HM⟩ : ∃ m, Pk (l.length - p = m + 1) := ⟨l.length - p - 1, ⟨by omega⟩⟩
    go_enter Tryd.func28, Tryd.ntmps28
    go_wp2_with fail
    have q := qb (left_calls B g X cx l p w HR.out)
    rw [HM.out] at q
    with_reducible refine q.mono ?_
    clear q
    rintro e w1 ⟨rfl, hb⟩
    have HB := Pk.mk hb
    have ce := (HE.out.below hb).cell 1 (by decide)
    simp only [errV] at ce
    clear hb hp
    go_wp2
    go_ret
    exact ⟨rfl, HB.out⟩

theorem Rd.off' {B : Nat} {w w' : World} {g k : Nat} {X : Option Addr} {cx : Nat} {l : List F} {p : Nat} (h : Rd B w g X cx l p) (hg : w.grownBy w' (some k)) (hk : k < B) : Rd B w' g X cx l p :=
  ⟨h.base, heap_off h.cell hg (by have := h.base; omega), h.rb.off hg (fun _ a ha => by have := (h.off a ha).1; omega), h.cap, h.off, h.len, h.pos⟩
theorem rNum_some {l : List F} {p n k : Nat} {most : Int} (h : rd (l.drop p) 0 0 = some (n, k)) (hm : (n : Int) ≤ most) : rNum l p most = (n, 0, p + k) := by unfold rNum; rw [h]; simp [hm]
theorem rNum_more {l : List F} {p n k : Nat} {most : Int} (h : rd (l.drop p) 0 0 = some (n, k)) (hm : ¬ (n : Int) ≤ most) : rNum l p most = (0, 10, p) := by unfold rNum; rw [h]; simp [hm]
theorem rNum_none {l : List F} {p : Nat} {most : Int} (h : rd (l.drop p) 0 0 = none) : rNum l p most = (0, 10, p) := by unfold rNum; rw [h]
theorem grown_drew (w : World) (g d : Nat) : w.grownBy (w.drewN d) (some g) := ⟨rfl, rfl, rfl, Nat.le_refl _, fun _ _ _ => rfl⟩

set_option maxRecDepth 100000 in
theorem rnum_calls (E : Nat → Addr) (B g : Nat) (X : Option Addr) (cx : Nat) (l : List F) (p : Nat) (most : Int) (w : World) (hE : ErrW w E rdErrs) (hR : Rd B w g X cx l p) :
    Calls Tryd.prog 22 #[.pointer (some ⟨g, 0, none⟩), .int .i64 most] w fun e w' => e = .returned (.tuple #[.int .i64 ((rNum l p most).1 : Nat), errN E (rNum l p most).2.1]) ∧ Rd B w' g X cx l (rNum l p most).2.2 ∧ w.grownBy w' (some g) := by
  have HR := Pk.mk hR
  have c1 : w.cell? ⟨g, 1, none⟩ = some (.int .i64 (p : Int)) := cell1 hR.cell
  have c2 := frozen_of_row w g 1 _ _ hR.cell
  have ce : ∀ d, (w.drewN d).cell? _ = some _ := fun d => (hE.below (below_drew w d)).cell 1 (by decide)
  simp only [errV] at ce
  clear hR hE
  cases hr : rd (l.drop p) 0 0 with
  | none =>
    rw [rNum_none hr, errN_10]
    have Hr := Pk.mk hr
    clear hr
    go_enter Tryd.func22, Tryd.ntmps22
    go_wp2_with fail
    have q := number_calls g X cx l p w HR.out
    with_reducible refine q.mono ?_
    clear q
    rintro e w1 ⟨hw, h⟩
    obtain rfl := hw
    rcases h with ⟨n, k, h, _⟩ | ⟨_, a, b, rfl⟩
    · rw [Hr.out] at h; cases h
    go_wp2
    go_quiet (fail)
    go_wp2
    go_ret2
    exact ⟨rfl, HR.out.mono (below_drew _ _), grown_drew _ _ _⟩
  | some nk =>
    obtain ⟨n, k⟩ := nk
    have Hr := Pk.mk hr
    by_cases hm : (n : Int) ≤ most
    · rw [rNum_some hr hm, errN_0]
      have hpk := Pk.mk (show p + k ≤ l.length by have := rd_le _ _ _ _ _ hr; rw [List.length_drop] at this; have := HR.out.pos; omega)
      clear hr
      have HS := Pk.mk (HR.out.set (p + k) hpk.out)
      have hpc : ((p + k : Nat) : Int) = (p : Int) + (k : Int) := by omega
      go_enter Tryd.func22, Tryd.ntmps22
      go_wp2_with fail
      have q := number_calls g X cx l p w HR.out
      with_reducible refine q.mono ?_
      clear q
      rintro e w1 ⟨hw, h⟩
      obtain rfl := hw
      rcases h with ⟨n', k', h, rfl⟩ | ⟨h, _⟩
      rotate_left
      · rw [Hr.out] at h; cases h
      rw [Hr.out] at h
      cases h
      go_wp2
      go_ret2
      rw [hpc] at HS
      exact ⟨rfl, HS.out.1, HS.out.2⟩
    · rw [rNum_more hr hm, errN_10]
      clear hr
      have hm2 : most < (n : Int) := by omega
      go_enter Tryd.func22, Tryd.ntmps22
      go_wp2_with fail
      have q := number_calls g X cx l p w HR.out
      with_reducible refine q.mono ?_
      clear q
      rintro e w1 ⟨hw, h⟩
      obtain rfl := hw
      rcases h with ⟨n', k', h, rfl⟩ | ⟨h, _⟩
      rotate_left
      · rw [Hr.out] at h; cases h
      rw [Hr.out] at h
      cases h
      go_wp2
      go_quiet (fail)
      go_wp2
      go_ret2
      exact ⟨rfl, HR.out.mono (below_drew _ _), grown_drew _ _ _⟩

theorem rBytes_some {l : List F} {p n k : Nat} {most : Int} (h : rd (l.drop p) 0 0 = some (n, k)) (hm : (n : Int) ≤ most) (hn : n ≤ l.length - (p + k)) : rBytes l p most = ((l.drop (p + k)).take n, 0, p + k + n) := by unfold rBytes; rw [h]; simp [hm, hn]
theorem rBytes_more {l : List F} {p n k : Nat} {most : Int} (h : rd (l.drop p) 0 0 = some (n, k)) (hm : ¬ ((n : Int) ≤ most ∧ n ≤ l.length - (p + k))) : rBytes l p most = ([], 10, p) := by unfold rBytes; rw [h]; simp only [if_neg hm]
theorem rBytes_none {l : List F} {p : Nat} {most : Int} (h : rd (l.drop p) 0 0 = none) : rBytes l p most = ([], 10, p) := by unfold rBytes; rw [h]
theorem rBytes_le {l : List F} {p : Nat} {most : Int} (hp : p ≤ l.length) : (rBytes l p most).2.2 ≤ l.length ∧ (rBytes l p most).1.length ≤ l.length := by
  unfold rBytes
  split
  · rename_i n k h
    have := rd_le _ _ _ _ _ h
    rw [List.length_drop] at this
    split
    · simp only [List.length_take, List.length_drop]; omega
    · simp; exact hp
  · simp; exact hp
theorem grown_below {w w' : World} (g : Nat) (hb : Below w.heap.size w w') : w.grownBy w' (some g) := ⟨hb.os, hb.tape, hb.output, hb.size, fun k hk _ => hb.block k hk⟩

set_option maxRecDepth 100000 in
set_option maxHeartbeats 4000000 in
theorem rbytes_calls (E : Nat → Addr) (B g : Nat) (X : Option Addr) (cx : Nat) (l : List F) (p : Nat) (most : Int) (w : World) (hE : ErrW w E rdErrs) (hR : Rd B w g X cx l p) :
    Calls Tryd.prog 27 #[.pointer (some ⟨g, 0, none⟩), .int .i64 most] w fun e w' => ∃ v, e = .returned (.tuple #[v, errN E (rBytes l p most).2.1]) ∧ w'.ownsRow w.heap.size 5 1 v (rBytes l p most).1.length (bvs (rBytes l p most).1) ∧ Rd B w' g X cx l (rBytes l p most).2.2 ∧ w.grownBy w' (some g) := by
  have HR := Pk.mk hR
  have c0 : w.cell? ⟨g, 0, none⟩ = some (.slice X l.length cx) := cell0 hR.cell
  have c1 : w.cell? ⟨g, 1, none⟩ = some (.int .i64 (p : Int)) := cell1 hR.cell
  have c2 := frozen_of_row w g 1 _ _ hR.cell
  have ce : ∀ d, (w.drewN d).cell? _ = some _ := fun d => (hE.below (below_drew w d)).cell 1 (by decide)
  simp only [errV] at ce
  have hlen := hR.len
  clear hR hE
  cases hr : rd (l.drop p) 0 0 with
  | none =>
    rw [rBytes_none hr, errN_10]
    have Hr := Pk.mk hr
    clear hr
    go_enter Tryd.func27, Tryd.ntmps27
    go_wp2_with fail
    have q := number_calls g X cx l p w HR.out
    with_reducible refine q.mono ?_
    clear q
    rintro e w1 ⟨hw, h⟩
    obtain rfl := hw
    rcases h with ⟨n, k, h, _⟩ | ⟨_, a, b, rfl⟩
    · rw [Hr.out] at h; cases h
    go_wp2
    go_quiet (fail)
    go_wp2
    go_ret2
    exact ⟨_, rfl, World.ownsRow_nil _ _ _ _, HR.out.mono (below_drew _ _), grown_drew _ _ _⟩
  | some nk =>
    obtain ⟨n, k⟩ := nk
    have Hr := Pk.mk hr
    have hk := rd_le _ _ _ _ _ hr
    rw [List.length_drop] at hk
    have hpos := HR.out.pos
    have hpc : ((p + k : Nat) : Int) = (p : Int) + (k : Int) := by omega
    by_cases hm : (n : Int) ≤ most ∧ n ≤ l.length - (p + k)
    · obtain ⟨hm1, hm2⟩ := hm
      rw [rBytes_some hr hm1 hm2, errN_0]
      clear hr
      have hpk : p + k + n ≤ l.length := by omega
      have hj1 : (n : Int) ≤ (l.length : Int) - ((p : Int) + (k : Int)) := by omega
      have hs := HR.out.set (p + k + n) hpk
      have hpn : ((p + k + n : Nat) : Int) = (p : Int) + (k : Int) + (n : Int) := by omega
      rw [hpn] at hs
      obtain ⟨w2, Hw2⟩ : ∃ w2, Pk (w.setCell ⟨g, 1, none⟩ (.int .i64 ((p : Int) + (k : Int) + (n : Int))) = w2) := ⟨_, ⟨rfl⟩⟩
      rw [Hw2.out] at hs
      have HR2 := Pk.mk hs.1
      have HG2 := Pk.mk hs.2
      obtain ⟨a, hXa, _⟩ := RB.at HR.out.rb (j := 0) (by omega)
      subst hXa
      have HD := Pk.mk (show RB w2 (some (a.add (p + k))) ((l.drop (p + k)).take n) from rb_take (by
        have := Cs.drop HR2.out.rb (p + k)
        rwa [show (bvs l).drop (p + k) = bvs (l.drop (p + k)) by simp [bvs, List.map_drop]] at this) n)
      have Hln := Pk.mk (show ((l.drop (p + k)).take n).length = n by rw [List.length_take, List.length_drop]; omega)
      have hcap := HR.out.cap
      obtain ⟨len, HL⟩ : ∃ len, Pk (l.length = len) := ⟨_, ⟨rfl⟩⟩
      have d0 : w2.cell? ⟨g, 0, none⟩ = some (.slice (some a) l.length cx) := cell0 HR2.out.cell
      have d1 : w2.cell? ⟨g, 1, none⟩ = some (.int .i64 ((p : Int) + (k : Int) + (n : Int))) := by rw [← hpn]; exact cell1 HR2.out.cell
      rw [HL.out] at c0 d0 hj1 hlen hcap hpos hpk
      clear hs
      go_enter Tryd.func27, Tryd.ntmps27
      go_wp2_with fail
      have q := number_calls g (some a) cx l p w HR.out
      with_reducible refine q.mono ?_
      clear q
      rintro e w1 ⟨hw, h⟩
      obtain rfl := hw
      rcases h with ⟨n', k', h, rfl⟩ | ⟨h, _⟩
      rotate_left
      · rw [Hr.out] at h; cases h
      rw [Hr.out] at h
      cases h
      go_wp2_with fail
      rw [Hw2.out]
      have hst : StableR belowR (fun v w' => w'.ownsRow w.heap.size 5 1 v n (bvs ((l.drop (p + k)).take n))) := fun u w1 w2 hb h => own_below h hb
      have hws := HG2.out.size
      have hq0 : 0 ≤ (p : Int) + (k : Int) := by omega
      have hq1 : (p : Int) + (k : Int) ≤ max ((p : Int) + (k : Int) + (n : Int)) 0 := by omega
      have hq5 : (p : Int) + (k : Int) ≤ (p : Int) + (k : Int) + (n : Int) := by omega
      have hq2 : ((p : Int) + (k : Int)).toNat = p + k := by omega
      have hq3 : ((p : Int) + (k : Int) + (n : Int)).toNat = p + k + n := by omega
      have hq4 : p + k + n - (p + k) = n := by omega
      obtain ⟨A', hif⟩ : ∃ A', (if cx = p + k then some a else some (a.add (p + k))) = A' := ⟨_, rfl⟩
      have HD' := Pk.mk (show RB w2 A' ((l.drop (p + k)).take n) by
        rw [← hif]
        split
        · have : n = 0 := by omega
          subst this
          rw [List.take_zero]; exact Cs.nil _ _
        · exact HD.out)
      clear c0 c1 c2 ce HD
      apply wp_region_head belowR belowPre 11 [(44, []), (45, [0]), (46, [1]), (47, [2]), (48, []), (49, []), (50, [5]), (51, [6]), (52, [7]), (53, [3, 4, 8]), (54, [9])] [isV _, isV _, isV _, isV _, isV _, isV _, isV _, isV _, isV _, isV _, (fun v w' => w'.ownsRow w.heap.size 5 1 v n (bvs ((l.drop (p + k)).take n)))] (by kernel_rfl) (by kernel_rfl) (by kernel_rfl)
      case hstab => repeat' first | (intro _ _ _ _ h; exact h) | exact isR_stable | exact trivial | refine And.intro ?_ ?_ | assumption
      case hops =>
        refine eachOp_cons ?_ ?_
        · intro wz hwz
          simp only [eachDep]
          replace hwz : Pk (Below w2.heap.size w2 wz) := hwz
          have d0 := cell_below d0 hwz.out
          have d1 := cell_below d1 hwz.out
          simp only [Step, Act.put, dstIn, List.map_cons, List.getD_cons_zero, List.getD_cons_succ, List.setIfInBounds_toArray, List.set_cons_zero, List.set_cons_succ]
          intro R hR
          rw [if_pos (by rfl)]
          go_simp
          first | exact hR _ _ ⟨⟨Below.refl _ _⟩, isV_mk (w := wz)⟩ | (rw [if_pos (by omega)]; exact hR _ _ ⟨⟨Below.refl _ _⟩, isV_mk (w := wz)⟩)
        refine eachOp_cons ?_ ?_
        · intro wz hwz
          simp only [eachDep]
          replace hwz : Pk (Below w2.heap.size w2 wz) := hwz
          have d0 := cell_below d0 hwz.out
          have d1 := cell_below d1 hwz.out
          (intro v h; have h2 := (id h : v = _); clear h; subst h2)
          simp only [Step, Act.put, dstIn, List.map_cons, List.getD_cons_zero, List.getD_cons_succ, List.setIfInBounds_toArray, List.set_cons_zero, List.set_cons_succ]
          intro R hR
          rw [if_pos (by rfl)]
          go_simp
          first | exact hR _ _ ⟨⟨Below.refl _ _⟩, isV_mk (w := wz)⟩ | (rw [if_pos (by omega)]; exact hR _ _ ⟨⟨Below.refl _ _⟩, isV_mk (w := wz)⟩)
        refine eachOp_cons ?_ ?_
        · intro wz hwz
          simp only [eachDep]
          replace hwz : Pk (Below w2.heap.size w2 wz) := hwz
          have d0 := cell_below d0 hwz.out
          have d1 := cell_below d1 hwz.out
          (intro v h; have h2 := (id h : v = _); clear h; subst h2)
          simp only [Step, Act.put, dstIn, List.map_cons, List.getD_cons_zero, List.getD_cons_succ, List.setIfInBounds_toArray, List.set_cons_zero, List.set_cons_succ]
          intro R hR
          rw [if_pos (by rfl)]
          go_simp
          first | exact hR _ _ ⟨⟨Below.refl _ _⟩, isV_mk (w := wz)⟩ | (rw [if_pos (by omega)]; exact hR _ _ ⟨⟨Below.refl _ _⟩, isV_mk (w := wz)⟩)
        refine eachOp_cons ?_ ?_
        · intro wz hwz
          simp only [eachDep]
          replace hwz : Pk (Below w2.heap.size w2 wz) := hwz
          have d0 := cell_below d0 hwz.out
          have d1 := cell_below d1 hwz.out
          (intro v h; have h2 := (id h : v = _); clear h; subst h2)
          simp only [Step, Act.put, dstIn, List.map_cons, List.getD_cons_zero, List.getD_cons_succ, List.setIfInBounds_toArray, List.set_cons_zero, List.set_cons_succ]
          intro R hR
          rw [if_pos (by rfl)]
          go_simp
          first | exact hR _ _ ⟨⟨Below.refl _ _⟩, isV_mk (w := wz)⟩ | (rw [if_pos (by omega)]; exact hR _ _ ⟨⟨Below.refl _ _⟩, isV_mk (w := wz)⟩)
        refine eachOp_cons ?_ ?_
        · intro wz hwz
          simp only [eachDep]
          replace hwz : Pk (Below w2.heap.size w2 wz) := hwz
          have d0 := cell_below d0 hwz.out
          have d1 := cell_below d1 hwz.out
          simp only [Step, Act.put, dstIn, List.map_cons, List.getD_cons_zero, List.getD_cons_succ, List.setIfInBounds_toArray, List.set_cons_zero, List.set_cons_succ]
          intro R hR
          rw [if_pos (by rfl)]
          go_simp
          first | exact hR _ _ ⟨⟨Below.refl _ _⟩, isV_mk (w := wz)⟩ | (rw [if_pos (by omega)]; exact hR _ _ ⟨⟨Below.refl _ _⟩, isV_mk (w := wz)⟩)
        refine eachOp_cons ?_ ?_
        · intro wz hwz
          simp only [eachDep]
          replace hwz : Pk (Below w2.heap.size w2 wz) := hwz
          have d0 := cell_below d0 hwz.out
          have d1 := cell_below d1 hwz.out
          simp only [Step, Act.put, dstIn, List.map_cons, List.getD_cons_zero, List.getD_cons_succ, List.setIfInBounds_toArray, List.set_cons_zero, List.set_cons_succ]
          intro R hR
          rw [if_pos (by rfl)]
          go_simp
          first | exact hR _ _ ⟨⟨Below.refl _ _⟩, isV_mk (w := wz)⟩ | (rw [if_pos (by omega)]; exact hR _ _ ⟨⟨Below.refl _ _⟩, isV_mk (w := wz)⟩)
        refine eachOp_cons ?_ ?_
        · intro wz hwz
          simp only [eachDep]
          replace hwz : Pk (Below w2.heap.size w2 wz) := hwz
          have d0 := cell_below d0 hwz.out
          have d1 := cell_below d1 hwz.out
          (intro v h; have h2 := (id h : v = _); clear h; subst h2)
          simp only [Step, Act.put, dstIn, List.map_cons, List.getD_cons_zero, List.getD_cons_succ, List.setIfInBounds_toArray, List.set_cons_zero, List.set_cons_succ]
          intro R hR
          rw [if_pos (by rfl)]
          go_simp
          first | exact hR _ _ ⟨⟨Below.refl _ _⟩, isV_mk (w := wz)⟩ | (rw [if_pos (by omega)]; exact hR _ _ ⟨⟨Below.refl _ _⟩, isV_mk (w := wz)⟩)
        refine eachOp_cons ?_ ?_
        · intro wz hwz
          simp only [eachDep]
          replace hwz : Pk (Below w2.heap.size w2 wz) := hwz
          have d0 := cell_below d0 hwz.out
          have d1 := cell_below d1 hwz.out
          (intro v h; have h2 := (id h : v = _); clear h; subst h2)
          simp only [Step, Act.put, dstIn, List.map_cons, List.getD_cons_zero, List.getD_cons_succ, List.setIfInBounds_toArray, List.set_cons_zero, List.set_cons_succ]
          intro R hR
          rw [if_pos (by rfl)]
          go_simp
          first | exact hR _ _ ⟨⟨Below.refl _ _⟩, isV_mk (w := wz)⟩ | (rw [if_pos (by omega)]; exact hR _ _ ⟨⟨Below.refl _ _⟩, isV_mk (w := wz)⟩)
        refine eachOp_cons ?_ ?_
        · intro wz hwz
          simp only [eachDep]
          replace hwz : Pk (Below w2.heap.size w2 wz) := hwz
          have d0 := cell_below d0 hwz.out
          have d1 := cell_below d1 hwz.out
          (intro v h; have h2 := (id h : v = _); clear h; subst h2)
          simp only [Step, Act.put, dstIn, List.map_cons, List.getD_cons_zero, List.getD_cons_succ, List.setIfInBounds_toArray, List.set_cons_zero, List.set_cons_succ]
          intro R hR
          rw [if_pos (by rfl)]
          go_simp
          first | exact hR _ _ ⟨⟨Below.refl _ _⟩, isV_mk (w := wz)⟩ | (rw [if_pos (by omega)]; exact hR _ _ ⟨⟨Below.refl _ _⟩, isV_mk (w := wz)⟩)
        refine eachOp_cons ?_ ?_
        · intro wz hwz
          simp only [eachDep]
          replace hwz : Pk (Below w2.heap.size w2 wz) := hwz
          have d0 := cell_below d0 hwz.out
          have d1 := cell_below d1 hwz.out
          (intro v h; have h2 := (id h : v = _); clear h; subst h2)
          (intro v h; have h2 := (id h : v = _); clear h; subst h2)
          (intro v h; have h2 := (id h : v = _); clear h; subst h2)
          simp only [Step, Act.put, dstIn, List.map_cons, List.getD_cons_zero, List.getD_cons_succ, List.setIfInBounds_toArray, List.set_cons_zero, List.set_cons_succ]
          intro R hR
          rw [if_pos (by rfl)]
          go_simp
          first | exact hR _ _ ⟨⟨Below.refl _ _⟩, isV_mk (w := wz)⟩ | (rw [if_pos (by omega)]; exact hR _ _ ⟨⟨Below.refl _ _⟩, isV_mk (w := wz)⟩)
        refine eachOp_cons ?_ ?_
        · intro wz hwz
          simp only [eachDep]
          replace hwz : Pk (Below w2.heap.size w2 wz) := hwz
          have d0 := cell_below d0 hwz.out
          have d1 := cell_below d1 hwz.out
          (intro v h; have h2 := (id h : v = _); clear h; subst h2)
          simp only [Step, Act.put, dstIn, List.map_cons, List.getD_cons_zero, List.getD_cons_succ, List.setIfInBounds_toArray, List.set_cons_zero, List.set_cons_succ]
          intro R hR
          rw [if_pos (by rfl)]
          go_simp
          (go_at_call 38; (with_reducible refine (clone_calls A' n (cx - (p + k)) ((l.drop (p + k)).take n) _ Hln.out (HD'.out.mono hwz.out) (by omega)).mono ?_); rintro e w' ⟨v, rfl, ho, hb⟩; exact hR _ _ ⟨⟨hb⟩, own_low ho (Nat.le_trans hws hwz.out.size)⟩)
        exact eachOp_nil
      intro wq hwq
      simp only [List.drop_succ_cons, List.drop_zero]
      simp only [eachDep, List.size_toArray, List.length_cons, List.length_nil, Nat.zero_add, Nat.reduceAdd, List.range, List.range.loop]
      (intro v h; have h2 := (id h : v = _); clear h; subst h2)
      (intro v h; have h2 := (id h : v = _); clear h; subst h2)
      (intro v h; have h2 := (id h : v = _); clear h; subst h2)
      (intro v h; have h2 := (id h : v = _); clear h; subst h2)
      (intro v h; have h2 := (id h : v = _); clear h; subst h2)
      (intro v h; have h2 := (id h : v = _); clear h; subst h2)
      (intro v h; have h2 := (id h : v = _); clear h; subst h2)
      (intro v h; have h2 := (id h : v = _); clear h; subst h2)
      (intro v h; have h2 := (id h : v = _); clear h; subst h2)
      (intro v h; have h2 := (id h : v = _); clear h; subst h2)
      rintro v hv
      simp only [Act.put, dstIn, List.map_cons, List.getD_cons_zero, List.getD_cons_succ, List.setIfInBounds_toArray, List.set_cons_zero, List.set_cons_succ]
      have HV := Pk.mk hv
      have hwq' : Below w2.heap.size w2 wq := hwq.out
      have HRq := Pk.mk (HR2.out.mono hwq')
      have HGq := Pk.mk (grown_trans HG2.out (grown_below g hwq'))
      clear hv hwq hwq'
      go_wp2
      go_ret2
      exact ⟨_, rfl, by rw [Hln.out]; exact HV.out, HRq.out, HGq.out⟩
    · rw [rBytes_more hr hm, errN_10]
      clear hr
      obtain ⟨len, HL⟩ : ∃ len, Pk (l.length = len) := ⟨_, ⟨rfl⟩⟩
      rw [HL.out] at c0 hlen hpos hm hk
      by_cases hm1 : (n : Int) ≤ most
      · have hj1 : (len : Int) - ((p : Int) + (k : Int)) < (n : Int) := by omega
        clear hm
        go_enter Tryd.func27, Tryd.ntmps27
        go_wp2_with fail
        have q := number_calls g X cx l p w HR.out
        with_reducible refine q.mono ?_
        clear q
        rintro e w1 ⟨hw, h⟩
        obtain rfl := hw
        rcases h with ⟨n', k', h, rfl⟩ | ⟨h, _⟩
        rotate_left
        · rw [Hr.out] at h; cases h
        rw [Hr.out] at h
        cases h
        go_wp2
        go_quiet (fail)
        go_wp2
        go_ret2
        exact ⟨_, rfl, World.ownsRow_nil _ _ _ _, HR.out.mono (below_drew _ _), grown_drew _ _ _⟩
      · have hm2 : most < (n : Int) := by omega
        clear hm
        go_enter Tryd.func27, Tryd.ntmps27
        go_wp2_with fail
        have q := number_calls g X cx l p w HR.out
        with_reducible refine q.mono ?_
        clear q
        rintro e w1 ⟨hw, h⟩
        obtain rfl := hw
        rcases h with ⟨n', k', h, rfl⟩ | ⟨h, _⟩
        rotate_left
        · rw [Hr.out] at h; cases h
        rw [Hr.out] at h
        cases h
        go_wp2
        go_quiet (fail)
        go_wp2
        go_ret2
        exact ⟨_, rfl, World.ownsRow_nil _ _ _ _, HR.out.mono (below_drew _ _), grown_drew _ _ _⟩
end Go.Proofs.YtdnmfgpladgjhaaDoor
