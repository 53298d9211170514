/- The laws of the field's lists, continued: GfBilinear, GfLists. -/
import Derived.Test.YtfanaaiakalccaaGfLaw2
import Derived.Test.YtfanaaiakalccaaReg
import Derived.WalkLawsBesides
namespace Go.Proofs.Ytfanaaiakalccaa
open Go Go.RowKit Go.Proofs.Ytfanaaiakalccaa.Gf
set_option linter.unusedSimpArgs false
set_option linter.unusedVariables false

theorem RB.take {w : World} {A : Option Addr} {l : List F} (h : RB w A l) (n : Nat) : RB w A (l.take n) := by
  have := Cs.take h n
  rwa [show (bvs l).take n = bvs (l.take n) by simp [bvs, List.map_take]] at this
/-- The same contracts, of a length that is told. -/
theorem addScaled_calls' {n m : Nat} (A : Option Addr) (ca : Nat) (la : List F) (c : F) (B : Option Addr) (cb : Nat) (lb : List F) (w : World) (hn : la.length = n) (hm : lb.length = m)
    (ha : RB w A la) (hb : RB w B lb) (hca : la.length ≤ 140737488355328) (hcb : lb.length ≤ 140737488355328) :
    Calls Try.prog 18 #[.slice A n ca, .int .u8 (i c), .slice B m cb] w fun e w' => Made w w' e (axpy la c lb) := by
  subst hn hm; exact addScaled_calls A ca la c B cb lb w ha hb hca hcb
theorem sum_calls' {n m : Nat} (A : Option Addr) (ca : Nat) (la : List F) (B : Option Addr) (cb : Nat) (lb : List F) (w : World) (hn : la.length = n) (hm : lb.length = m)
    (ha : RB w A la) (hb : RB w B lb) (hca : la.length ≤ 140737488355328) (hcb : lb.length ≤ 140737488355328) :
    Calls Try.prog 19 #[.slice A n ca, .slice B m cb] w fun e w' => Made w w' e (sumF la lb) := by
  subst hn hm; exact sum_calls A ca la B cb lb w ha hb hca hcb
theorem dot_calls' {n m : Nat} (A : Option Addr) (ca : Nat) (la : List F) (B : Option Addr) (cb : Nat) (lb : List F) (w : World) (hn : la.length = n) (hm : lb.length = m)
    (ha : RB w A la) (hb : RB w B lb) (hca : la.length ≤ 140737488355328) (hcb : lb.length ≤ 140737488355328) :
    Calls Try.prog 17 #[.slice A n ca, .slice B m cb] w fun e w' => e = .returned (.int .u8 (i (dot la lb))) ∧ Below w.heap.size w w' := by
  subst hn hm; exact dot_calls A ca la B cb lb w ha hb hca hcb

theorem conv_bytes' {w : World} {A : Option Addr} {l : List F} {n : Nat} (c : Nat) (hn : l.length = n) (h : RB w A l) :
    (convert 33 9 (.slice A n c)).run Try.prog w = .ok (.string (bs l)) w := by subst hn; exact conv_bytes c h
theorem dot_comm : ∀ (a b : List F), dot a b = dot b a
  | [], b => by rw [dot_nil_left, dot_nil_right]
  | x :: a, [] => rfl
  | x :: a, y :: b => by show mul x y ^^^ dot a b = mul y x ^^^ dot b a; rw [mul_comm, dot_comm a b]
/-- The sum of products, by places. -/
def dotN (a b : List F) : Nat → F
  | 0 => 0
  | n + 1 => dotN a b n ^^^ mul (a.getD n 0) (b.getD n 0)
theorem dotN_cons (x y : F) (a b : List F) : ∀ n, dotN (x :: a) (y :: b) (n + 1) = mul x y ^^^ dotN a b n
  | 0 => by show 0 ^^^ mul x y = mul x y ^^^ 0; rw [UInt8.zero_xor, UInt8.xor_zero]
  | n + 1 => by
    show dotN (x :: a) (y :: b) (n + 1) ^^^ mul (a.getD n 0) (b.getD n 0) = mul x y ^^^ (dotN a b n ^^^ mul (a.getD n 0) (b.getD n 0))
    rw [dotN_cons x y a b n, UInt8.xor_assoc]
theorem dotN_nil (b : List F) : ∀ n, dotN [] b n = 0
  | 0 => rfl
  | n + 1 => by show dotN [] b n ^^^ mul 0 _ = 0; rw [dotN_nil b n, zero_mul, UInt8.xor_zero]
theorem dotN_nil' (a : List F) : ∀ n, dotN a [] n = 0
  | 0 => rfl
  | n + 1 => by show dotN a [] n ^^^ mul _ 0 = 0; rw [dotN_nil' a n, mul_zero, UInt8.xor_zero]
theorem dot_eq_dotN : ∀ (a b : List F) (n : Nat), min a.length b.length ≤ n → dot a b = dotN a b n
  | [], b, n, _ => by rw [dot_nil_left, dotN_nil]
  | x :: a, [], n, _ => by rw [dot_nil_right, dotN_nil']
  | x :: a, y :: b, 0, h => by simp at h
  | x :: a, y :: b, n + 1, h => by
    rw [dotN_cons]
    show mul x y ^^^ dot a b = _
    rw [dot_eq_dotN a b n (by simp at h; omega)]
theorem dotN_axpy (a : List F) (c : F) (d b : List F) : ∀ n, dotN (axpy a c d) b n = dotN a b n ^^^ mul c (dotN d b n)
  | 0 => by show (0 : F) = 0 ^^^ mul c 0; rw [mul_zero]; rfl
  | n + 1 => by
    show dotN (axpy a c d) b n ^^^ mul _ _ = (dotN a b n ^^^ _) ^^^ mul c (dotN d b n ^^^ _)
    rw [dotN_axpy a c d b n, axpy_getD, add_mul, mul_add, mul_assoc]
    rw [UInt8.xor_assoc, UInt8.xor_assoc]
    congr 1
    rw [← UInt8.xor_assoc, UInt8.xor_comm (mul c (dotN d b n)), UInt8.xor_assoc]
theorem dot_axpy {a d b : List F} (c : F) (h1 : a.length = b.length) (h2 : d.length = b.length) : dot (axpy a c d) b = dot a b ^^^ mul c (dot d b) := by
  rw [dot_eq_dotN _ _ b.length (by omega), dot_eq_dotN a b b.length (by omega), dot_eq_dotN d b b.length (by omega), dotN_axpy]
theorem axpy_twice {a b : List F} (c : F) (h : a.length = b.length) : axpy (axpy a c b) c b = a :=
  list_ext (by simp only [axpy_length]; omega) fun t => by rw [axpy_getD, axpy_getD, UInt8.xor_assoc, UInt8.xor_self, UInt8.xor_zero]
theorem sumF_twice {a b : List F} (h : a.length = b.length) : sumF (sumF a b) b = a :=
  list_ext (by simp only [sumF_length]; omega) fun t => by rw [sumF_getD, sumF_getD, UInt8.xor_assoc, UInt8.xor_self, UInt8.xor_zero]

set_option maxRecDepth 100000 in
set_option maxHeartbeats 2000000 in
theorem gfBilinear_walk (A : Option Addr) (ca : Nat) (la : List F) (B : Option Addr) (cb : Nat) (lb : List F) (D : Option Addr) (cd : Nat) (ld : List F) (c : F) (w : World)
    (ha : RB w A la) (_ca : la.length ≤ ca) (hla : la.length ≤ 140737488351232) (hb : RB w B lb) (_cb : lb.length ≤ cb) (hlb : lb.length ≤ 140737488351232) (hd : RB w D ld) (_cd : ld.length ≤ cd) (hld : ld.length ≤ 140737488351232) :
    Calls Try.prog 6 #[.agg #[.slice A la.length ca, .slice B lb.length cb, .slice D ld.length cd, .int .u8 (i c)]] w fun e w' => e = .returned (.bool true) ∧ Below w.heap.size w w' := by
  have HA := Pk.mk ha
  have HB := Pk.mk hb
  have HD := Pk.mk hd
  clear ha hb hd
  go_enter Try.func6, Try.ntmps6
  go_wp2_with fail
  refine (alive01_calls _).mono ?_
  rintro e w1 ⟨rfl, hb⟩
  have Hb := Pk.mk ((below_alloc w _).trans (hb.mono (by simp)))
  obtain ⟨c0, c1, c2, c3⟩ : w1.cell? ⟨w.heap.size, 0, none⟩ = some (.slice A la.length ca) ∧ w1.cell? ⟨w.heap.size, 1, none⟩ = some (.slice B lb.length cb) ∧ w1.cell? ⟨w.heap.size, 2, none⟩ = some (.slice D ld.length cd) ∧ w1.cell? ⟨w.heap.size, 3, none⟩ = some (.int .u8 (i c)) := by
    have hn := heap_alloc_new w (.cells #[.slice A la.length ca, .slice B lb.length cb, .slice D ld.length cd, .int .u8 (i c)] 35)
    refine ⟨?_, ?_, ?_, ?_⟩ <;> exact cell_keep (by simp only [World.cell?, hn]; rfl) hb
  clear hb
  obtain ⟨N, HN, n1, n2, n3⟩ : ∃ N : Nat, Pk (N = la.length ∧ la.length ≤ lb.length ∧ la.length ≤ ld.length ∨ N = lb.length ∧ lb.length < la.length ∧ lb.length ≤ ld.length ∨ N = ld.length ∧ ld.length < la.length ∧ ld.length < lb.length) ∧ N ≤ la.length ∧ N ≤ lb.length ∧ N ≤ ld.length := by
    rcases Nat.lt_or_ge lb.length la.length with h1 | h1
    · rcases Nat.lt_or_ge ld.length lb.length with h2 | h2
      · exact ⟨ld.length, ⟨by omega⟩, by omega, by omega, by omega⟩
      · exact ⟨lb.length, ⟨by omega⟩, by omega, by omega, by omega⟩
    · rcases Nat.lt_or_ge ld.length la.length with h2 | h2
      · exact ⟨ld.length, ⟨by omega⟩, by omega, by omega, by omega⟩
      · exact ⟨la.length, ⟨by omega⟩, by omega, by omega, by omega⟩
  replace HA := Pk.mk (RB.take (HA.out.mono Hb.out) N)
  replace HB := Pk.mk (RB.take (HB.out.mono Hb.out) N)
  replace HD := Pk.mk (RB.take (HD.out.mono Hb.out) N)
  rcases HN.out with ⟨hN, h1, h2⟩ | ⟨hN, h1, h2⟩ | ⟨hN, h1, h2⟩
  all_goals
    have HNN := Pk.mk hN
    clear hN HN n1 n2 n3
    go_wp2
    go_quiet (fail)
    obtain ⟨xa, Hxa⟩ : ∃ l, Pk (l = la.take N ∧ l.length = N) := ⟨_, ⟨rfl, by have := HNN.out; simp; omega⟩⟩
    obtain ⟨xb, Hxb⟩ : ∃ l, Pk (l = lb.take N ∧ l.length = N) := ⟨_, ⟨rfl, by have := HNN.out; simp; omega⟩⟩
    obtain ⟨xd, Hxd⟩ : ∃ l, Pk (l = ld.take N ∧ l.length = N) := ⟨_, ⟨rfl, by have := HNN.out; simp; omega⟩⟩
    have La := Pk.mk (Hxa.out.2.trans HNN.out)
    have Lb := Pk.mk (Hxb.out.2.trans HNN.out)
    have Ld := Pk.mk (Hxd.out.2.trans HNN.out)
    have Ha := Pk.mk (show RB w1 A xa by rw [Hxa.out.1]; exact HA.out)
    have Hb1 := Pk.mk (show RB w1 B xb by rw [Hxb.out.1]; exact HB.out)
    have Hd := Pk.mk (show RB w1 D xd by rw [Hxd.out.1]; exact HD.out)
    have Hab := Pk.mk (Hxa.out.2.trans Hxb.out.2.symm)
    have Hdb := Pk.mk (Hxd.out.2.trans Hxb.out.2.symm)
    have e1 : i (dot (axpy xa c xd) xb) = i (dot xa xb ^^^ mul c (dot xd xb)) := by rw [dot_axpy c Hab.out Hdb.out]
    have e2 : i (dot xb xa) = i (dot xa xb) := by rw [dot_comm]
    have ha8 : xa.length ≤ 140737488351232 := by have := La.out; omega
    have hb8 : xb.length ≤ 140737488351232 := by have := Lb.out; omega
    have hd8 : xd.length ≤ 140737488351232 := by have := Ld.out; omega
    have Hw := Pk.mk (below_drewN (Below.refl w1.heap.size w1) nq)
    clear HA HB HD Hxa Hxb Hxd HNN h1 h2
    go_wp2_with fail
    refine (addScaled_calls' _ _ xa c _ _ xd _ La.out Ld.out (Ha.out.mono Hw.out) (Hd.out.mono Hw.out) (by omega) (by omega)).mono ?_
    rintro e w2 hm
    obtain ⟨A1, c1, rfl, hc1, hr1, ho1, hb1⟩ := hm.form
    have Hw2 := Pk.mk (Hw.out.trans (hb1.mono Hw.out.size))
    have Hr1 := Pk.mk hr1
    clear hm ho1 hb1 hr1 Hw hc1
    go_wp2_with fail
    refine (dot_calls' _ _ _ _ _ xb _ rfl Lb.out Hr1.out (Hb1.out.mono Hw2.out) (by rw [axpy_length]; omega) (by omega)).mono ?_
    rintro e w3 ⟨rfl, hb3⟩
    have Hw3 := Pk.mk (Hw2.out.trans (hb3.mono Hw2.out.size))
    clear hb3 Hw2 Hr1
    go_wp2_with fail
    refine (dot_calls' _ _ xa _ _ xb _ La.out Lb.out (Ha.out.mono Hw3.out) (Hb1.out.mono Hw3.out) (by omega) (by omega)).mono ?_
    rintro e w4 ⟨rfl, hb4⟩
    have Hw4 := Pk.mk (Hw3.out.trans (hb4.mono Hw3.out.size))
    clear hb4 Hw3
    go_wp2_with fail
    refine (dot_calls' _ _ xd _ _ xb _ Ld.out Lb.out (Hd.out.mono Hw4.out) (Hb1.out.mono Hw4.out) (by omega) (by omega)).mono ?_
    rintro e w5 ⟨rfl, hb5⟩
    have Hw5 := Pk.mk (Hw4.out.trans (hb5.mono Hw4.out.size))
    clear hb5 Hw4
    go_wp2_with (first
      | (go_at_call 12; refine (mul_calls _ _ _).mono ?_; rintro e w' ⟨rfl, hw'⟩; obtain rfl := Eq.symm hw')
      | (go_at_call 11; refine (add_calls _ _ _).mono ?_; rintro e w' ⟨rfl, hw'⟩; obtain rfl := Eq.symm hw'))
    have T1 := Pk.mk (axpy_twice c Hab.out)
    have T2 := Pk.mk (sumF_twice Hab.out)
    apply wp_region_each' [(54, []), (55, []), (56, [0, 1]), (57, [2]), (58, [3]), (59, [3]), (60, [4, 5, 3, 3]), (61, [3]), (62, [3]), (63, [7, 8, 6, 3]), (64, [6, 9, 3]), (65, [3, 10]), (66, [11, 9]), (67, [12]), (68, [12]), (69, [12]), (70, [13, 14, 15, 12, 12]), (71, [12]), (72, [12]), (73, [16, 17, 18, 16, 12]), (74, [19, 12]), (75, [12]), (76, [21, 12]), (77, [20, 22, 12]), (78, [12, 23]), (79, [24, 19]), (80, [25]), (81, [25]), (82, [26, 27, 25, 25]), (83, [25]), (84, [28, 29, 28, 25]), (85, [30, 25]), (86, [25]), (87, [32, 25]), (88, [31, 33, 25]), (89, [25, 34]), (2, [35, 30, 0, 1, 2, 3, 4, 5, 6, 7, 8, 9, 10, 11, 12, 13, 14, 15, 16, 17, 18, 19, 20, 21, 22, 23, 24, 25, 26, 27, 28, 29, 30, 31, 32, 33, 34, 35])] [isV _, isV _, isV _, isV _, isV _, isV _, isV (.int .u8 (i (dot xa xb))), isV _, isV _, isV (.int .u8 (i (dot xa xb))), isV _, isV _, isV _, isV _, isV _, isV _, isR (axpy xa c xb) (axpy xa c xb).length, isV _, isV _, isR xa xa.length, isV _, isV _, isV _, isV _, isV _, isV _, isV _, isV _, isR (sumF xa xb) (sumF xa xb).length, isV _, isR xa xa.length, isV _, isV _, isV _, isV _, isV _, isV _] (by kernel_rfl) (by kernel_rfl)
    case hstab => repeat' first | (intro _ _ _ _ h; exact h) | exact isR_stable | exact trivial | refine And.intro ?_ ?_ | assumption
    case hops =>
      refine eachOp_cons ?_ ?_
      · intro wz hwz
        simp only [eachDep]
        have hz := Hw5.out.trans (hwz.out.mono Hw5.out.size)
        have hcv := fun k => conv_bytes' (w := wz) (A := A) (l := xa) k La.out (Ha.out.mono hz)
        simp only [Step, Act.put, dstIn, List.map_cons, List.getD_cons_zero, List.getD_cons_succ, List.setIfInBounds_toArray, List.set_cons_zero, List.set_cons_succ]
        intro R hR
        rw [if_pos (by rfl)]
        go_simp
        exact hR _ _ ⟨⟨Below.refl _ _⟩, isV_mk (w := wz)⟩
      refine eachOp_cons ?_ ?_
      · intro wz hwz
        simp only [eachDep]
        have hz := Hw5.out.trans (hwz.out.mono Hw5.out.size)
        have hcv := fun k => conv_bytes' (w := wz) (A := A) (l := xa) k La.out (Ha.out.mono hz)
        simp only [Step, Act.put, dstIn, List.map_cons, List.getD_cons_zero, List.getD_cons_succ, List.setIfInBounds_toArray, List.set_cons_zero, List.set_cons_succ]
        intro R hR
        rw [if_pos (by rfl)]
        go_simp
        exact hR _ _ ⟨⟨Below.refl _ _⟩, isV_mk (w := wz)⟩
      refine eachOp_cons ?_ ?_
      · intro wz hwz
        simp only [eachDep]
        have hz := Hw5.out.trans (hwz.out.mono Hw5.out.size)
        have hcv := fun k => conv_bytes' (w := wz) (A := A) (l := xa) k La.out (Ha.out.mono hz)
        (intro v h; have h2 := (id h : v = _); clear h; subst h2)
        (intro v h; have h2 := (id h : v = _); clear h; subst h2)
        simp only [Step, Act.put, dstIn, List.map_cons, List.getD_cons_zero, List.getD_cons_succ, List.setIfInBounds_toArray, List.set_cons_zero, List.set_cons_succ]
        intro R hR
        rw [if_pos (by rfl)]
        go_simp
        exact hR _ _ ⟨⟨Below.refl _ _⟩, isV_mk (w := wz)⟩
      refine eachOp_cons ?_ ?_
      · intro wz hwz
        simp only [eachDep]
        have hz := Hw5.out.trans (hwz.out.mono Hw5.out.size)
        have hcv := fun k => conv_bytes' (w := wz) (A := A) (l := xa) k La.out (Ha.out.mono hz)
        (intro v h; have h2 := (id h : v = _); clear h; subst h2)
        simp only [Step, Act.put, dstIn, List.map_cons, List.getD_cons_zero, List.getD_cons_succ, List.setIfInBounds_toArray, List.set_cons_zero, List.set_cons_succ]
        intro R hR
        rw [if_pos (by rfl)]
        go_simp
        exact hR _ _ ⟨⟨Below.refl _ _⟩, isV_mk (w := wz)⟩
      refine eachOp_cons ?_ ?_
      · intro wz hwz
        simp only [eachDep]
        have hz := Hw5.out.trans (hwz.out.mono Hw5.out.size)
        have hcv := fun k => conv_bytes' (w := wz) (A := A) (l := xa) k La.out (Ha.out.mono hz)
        (intro v h; have h2 := (id h : v = _); clear h; subst h2)
        simp only [Step, Act.put, dstIn, List.map_cons, List.getD_cons_zero, List.getD_cons_succ, List.setIfInBounds_toArray, List.set_cons_zero, List.set_cons_succ]
        intro R hR
        rw [if_pos (by rfl)]
        go_simp
        exact hR _ _ ⟨⟨Below.refl _ _⟩, isV_mk (w := wz)⟩
      refine eachOp_cons ?_ ?_
      · intro wz hwz
        simp only [eachDep]
        have hz := Hw5.out.trans (hwz.out.mono Hw5.out.size)
        have hcv := fun k => conv_bytes' (w := wz) (A := A) (l := xa) k La.out (Ha.out.mono hz)
        (intro v h; have h2 := (id h : v = _); clear h; subst h2)
        simp only [Step, Act.put, dstIn, List.map_cons, List.getD_cons_zero, List.getD_cons_succ, List.setIfInBounds_toArray, List.set_cons_zero, List.set_cons_succ]
        intro R hR
        rw [if_pos (by rfl)]
        go_simp
        exact hR _ _ ⟨⟨Below.refl _ _⟩, isV_mk (w := wz)⟩
      refine eachOp_cons ?_ ?_
      · intro wz hwz
        simp only [eachDep]
        have hz := Hw5.out.trans (hwz.out.mono Hw5.out.size)
        have hcv := fun k => conv_bytes' (w := wz) (A := A) (l := xa) k La.out (Ha.out.mono hz)
        (intro v h; have h2 := (id h : v = _); clear h; subst h2)
        (intro v h; have h2 := (id h : v = _); clear h; subst h2)
        (intro v h; have h2 := (id h : v = _); clear h; subst h2)
        (intro v h; have h2 := (id h : v = _); clear h; subst h2)
        simp only [Step, Act.put, dstIn, List.map_cons, List.getD_cons_zero, List.getD_cons_succ, List.setIfInBounds_toArray, List.set_cons_zero, List.set_cons_succ]
        intro R hR
        rw [if_pos (by rfl)]
        go_simp
        first
          | (go_at_call 17; first
              | (with_reducible refine (dot_calls' A _ xa B _ xb _ La.out Lb.out (Ha.out.mono hz) (Hb1.out.mono hz) (by omega) (by omega)).mono ?_); rintro e w' ⟨rfl, hb⟩; exact hR _ _ ⟨⟨hb⟩, isV_mk (w := w')⟩
              | (with_reducible refine (dot_calls' B _ xb A _ xa _ Lb.out La.out (Hb1.out.mono hz) (Ha.out.mono hz) (by omega) (by omega)).mono ?_); rintro e w' ⟨rfl, hb⟩; exact hR _ _ ⟨⟨hb⟩, isV_of (w := w') (by rw [dot_comm])⟩)
          | (go_at_call 18; first
              | (with_reducible refine (addScaled_calls' A _ xa c B _ xb _ La.out Lb.out (Ha.out.mono hz) (Hb1.out.mono hz) (by omega) (by omega)).mono ?_); rintro e w' hm; obtain ⟨A1, c1, rfl, hc1, hr1, ho1, hb1⟩ := hm.form; exact hR _ _ ⟨⟨hb1⟩, ⟨_, _, rfl, rfl, hc1, hr1⟩⟩
              | (with_reducible refine (addScaled_calls' _ _ (axpy xa c xb) c B _ xb _ rfl Lb.out (by assumption) (Hb1.out.mono hz) (by rw [axpy_length]; omega) (by omega)).mono ?_); rintro e w' hm; rw [T1.out] at hm; obtain ⟨A1, c1, rfl, hc1, hr1, ho1, hb1⟩ := hm.form; exact hR _ _ ⟨⟨hb1⟩, ⟨_, _, rfl, rfl, hc1, hr1⟩⟩)
          | (go_at_call 19; first
              | (with_reducible refine (sum_calls' A _ xa B _ xb _ La.out Lb.out (Ha.out.mono hz) (Hb1.out.mono hz) (by omega) (by omega)).mono ?_); rintro e w' hm; obtain ⟨A1, c1, rfl, hc1, hr1, ho1, hb1⟩ := hm.form; exact hR _ _ ⟨⟨hb1⟩, ⟨_, _, rfl, rfl, hc1, hr1⟩⟩
              | (with_reducible refine (sum_calls' _ _ (sumF xa xb) B _ xb _ rfl Lb.out (by assumption) (Hb1.out.mono hz) (by rw [sumF_length]; omega) (by omega)).mono ?_); rintro e w' hm; rw [T2.out] at hm; obtain ⟨A1, c1, rfl, hc1, hr1, ho1, hb1⟩ := hm.form; exact hR _ _ ⟨⟨hb1⟩, ⟨_, _, rfl, rfl, hc1, hr1⟩⟩)
      refine eachOp_cons ?_ ?_
      · intro wz hwz
        simp only [eachDep]
        have hz := Hw5.out.trans (hwz.out.mono Hw5.out.size)
        have hcv := fun k => conv_bytes' (w := wz) (A := A) (l := xa) k La.out (Ha.out.mono hz)
        (intro v h; have h2 := (id h : v = _); clear h; subst h2)
        simp only [Step, Act.put, dstIn, List.map_cons, List.getD_cons_zero, List.getD_cons_succ, List.setIfInBounds_toArray, List.set_cons_zero, List.set_cons_succ]
        intro R hR
        rw [if_pos (by rfl)]
        go_simp
        exact hR _ _ ⟨⟨Below.refl _ _⟩, isV_mk (w := wz)⟩
      refine eachOp_cons ?_ ?_
      · intro wz hwz
        simp only [eachDep]
        have hz := Hw5.out.trans (hwz.out.mono Hw5.out.size)
        have hcv := fun k => conv_bytes' (w := wz) (A := A) (l := xa) k La.out (Ha.out.mono hz)
        (intro v h; have h2 := (id h : v = _); clear h; subst h2)
        simp only [Step, Act.put, dstIn, List.map_cons, List.getD_cons_zero, List.getD_cons_succ, List.setIfInBounds_toArray, List.set_cons_zero, List.set_cons_succ]
        intro R hR
        rw [if_pos (by rfl)]
        go_simp
        exact hR _ _ ⟨⟨Below.refl _ _⟩, isV_mk (w := wz)⟩
      refine eachOp_cons ?_ ?_
      · intro wz hwz
        simp only [eachDep]
        have hz := Hw5.out.trans (hwz.out.mono Hw5.out.size)
        have hcv := fun k => conv_bytes' (w := wz) (A := A) (l := xa) k La.out (Ha.out.mono hz)
        (intro v h; have h2 := (id h : v = _); clear h; subst h2)
        (intro v h; have h2 := (id h : v = _); clear h; subst h2)
        (intro v h; have h2 := (id h : v = _); clear h; subst h2)
        (intro v h; have h2 := (id h : v = _); clear h; subst h2)
        simp only [Step, Act.put, dstIn, List.map_cons, List.getD_cons_zero, List.getD_cons_succ, List.setIfInBounds_toArray, List.set_cons_zero, List.set_cons_succ]
        intro R hR
        rw [if_pos (by rfl)]
        go_simp
        first
          | (go_at_call 17; first
              | (with_reducible refine (dot_calls' A _ xa B _ xb _ La.out Lb.out (Ha.out.mono hz) (Hb1.out.mono hz) (by omega) (by omega)).mono ?_); rintro e w' ⟨rfl, hb⟩; exact hR _ _ ⟨⟨hb⟩, isV_mk (w := w')⟩
              | (with_reducible refine (dot_calls' B _ xb A _ xa _ Lb.out La.out (Hb1.out.mono hz) (Ha.out.mono hz) (by omega) (by omega)).mono ?_); rintro e w' ⟨rfl, hb⟩; exact hR _ _ ⟨⟨hb⟩, isV_of (w := w') (by rw [dot_comm])⟩)
          | (go_at_call 18; first
              | (with_reducible refine (addScaled_calls' A _ xa c B _ xb _ La.out Lb.out (Ha.out.mono hz) (Hb1.out.mono hz) (by omega) (by omega)).mono ?_); rintro e w' hm; obtain ⟨A1, c1, rfl, hc1, hr1, ho1, hb1⟩ := hm.form; exact hR _ _ ⟨⟨hb1⟩, ⟨_, _, rfl, rfl, hc1, hr1⟩⟩
              | (with_reducible refine (addScaled_calls' _ _ (axpy xa c xb) c B _ xb _ rfl Lb.out (by assumption) (Hb1.out.mono hz) (by rw [axpy_length]; omega) (by omega)).mono ?_); rintro e w' hm; rw [T1.out] at hm; obtain ⟨A1, c1, rfl, hc1, hr1, ho1, hb1⟩ := hm.form; exact hR _ _ ⟨⟨hb1⟩, ⟨_, _, rfl, rfl, hc1, hr1⟩⟩)
          | (go_at_call 19; first
              | (with_reducible refine (sum_calls' A _ xa B _ xb _ La.out Lb.out (Ha.out.mono hz) (Hb1.out.mono hz) (by omega) (by omega)).mono ?_); rintro e w' hm; obtain ⟨A1, c1, rfl, hc1, hr1, ho1, hb1⟩ := hm.form; exact hR _ _ ⟨⟨hb1⟩, ⟨_, _, rfl, rfl, hc1, hr1⟩⟩
              | (with_reducible refine (sum_calls' _ _ (sumF xa xb) B _ xb _ rfl Lb.out (by assumption) (Hb1.out.mono hz) (by rw [sumF_length]; omega) (by omega)).mono ?_); rintro e w' hm; rw [T2.out] at hm; obtain ⟨A1, c1, rfl, hc1, hr1, ho1, hb1⟩ := hm.form; exact hR _ _ ⟨⟨hb1⟩, ⟨_, _, rfl, rfl, hc1, hr1⟩⟩)
      refine eachOp_cons ?_ ?_
      · intro wz hwz
        simp only [eachDep]
        have hz := Hw5.out.trans (hwz.out.mono Hw5.out.size)
        have hcv := fun k => conv_bytes' (w := wz) (A := A) (l := xa) k La.out (Ha.out.mono hz)
        (intro v h; have h2 := (id h : v = _); clear h; subst h2)
        (intro v h; have h2 := (id h : v = _); clear h; subst h2)
        (intro v h; have h2 := (id h : v = _); clear h; subst h2)
        simp only [Step, Act.put, dstIn, List.map_cons, List.getD_cons_zero, List.getD_cons_succ, List.setIfInBounds_toArray, List.set_cons_zero, List.set_cons_succ]
        intro R hR
        rw [if_pos (by rfl)]
        go_simp
        exact hR _ _ ⟨⟨Below.refl _ _⟩, isV_mk (w := wz)⟩
      refine eachOp_cons ?_ ?_
      · intro wz hwz
        simp only [eachDep]
        have hz := Hw5.out.trans (hwz.out.mono Hw5.out.size)
        have hcv := fun k => conv_bytes' (w := wz) (A := A) (l := xa) k La.out (Ha.out.mono hz)
        (intro v h; have h2 := (id h : v = _); clear h; subst h2)
        (intro v h; have h2 := (id h : v = _); clear h; subst h2)
        simp only [Step, Act.put, dstIn, List.map_cons, List.getD_cons_zero, List.getD_cons_succ, List.setIfInBounds_toArray, List.set_cons_zero, List.set_cons_succ]
        intro R hR
        rw [if_pos (by rfl)]
        go_simp
        exact hR _ _ ⟨⟨Below.refl _ _⟩, isV_mk (w := wz)⟩
      refine eachOp_cons ?_ ?_
      · intro wz hwz
        simp only [eachDep]
        have hz := Hw5.out.trans (hwz.out.mono Hw5.out.size)
        have hcv := fun k => conv_bytes' (w := wz) (A := A) (l := xa) k La.out (Ha.out.mono hz)
        (intro v h; have h2 := (id h : v = _); clear h; subst h2)
        (intro v h; have h2 := (id h : v = _); clear h; subst h2)
        simp only [Step, Act.put, dstIn, List.map_cons, List.getD_cons_zero, List.getD_cons_succ, List.setIfInBounds_toArray, List.set_cons_zero, List.set_cons_succ]
        intro R hR
        rw [if_pos (by rfl)]
        go_simp
        exact hR _ _ ⟨⟨Below.refl _ _⟩, isV_mk (w := wz)⟩
      refine eachOp_cons ?_ ?_
      · intro wz hwz
        simp only [eachDep]
        have hz := Hw5.out.trans (hwz.out.mono Hw5.out.size)
        have hcv := fun k => conv_bytes' (w := wz) (A := A) (l := xa) k La.out (Ha.out.mono hz)
        (intro v h; have h2 := (id h : v = _); clear h; subst h2)
        simp only [Step, Act.put, dstIn, List.map_cons, List.getD_cons_zero, List.getD_cons_succ, List.setIfInBounds_toArray, List.set_cons_zero, List.set_cons_succ]
        intro R hR
        rw [if_pos (by rfl)]
        go_simp
        exact hR _ _ ⟨⟨Below.refl _ _⟩, isV_mk (w := wz)⟩
      refine eachOp_cons ?_ ?_
      · intro wz hwz
        simp only [eachDep]
        have hz := Hw5.out.trans (hwz.out.mono Hw5.out.size)
        have hcv := fun k => conv_bytes' (w := wz) (A := A) (l := xa) k La.out (Ha.out.mono hz)
        (intro v h; have h2 := (id h : v = _); clear h; subst h2)
        simp only [Step, Act.put, dstIn, List.map_cons, List.getD_cons_zero, List.getD_cons_succ, List.setIfInBounds_toArray, List.set_cons_zero, List.set_cons_succ]
        intro R hR
        rw [if_pos (by rfl)]
        go_simp
        exact hR _ _ ⟨⟨Below.refl _ _⟩, isV_mk (w := wz)⟩
      refine eachOp_cons ?_ ?_
      · intro wz hwz
        simp only [eachDep]
        have hz := Hw5.out.trans (hwz.out.mono Hw5.out.size)
        have hcv := fun k => conv_bytes' (w := wz) (A := A) (l := xa) k La.out (Ha.out.mono hz)
        (intro v h; have h2 := (id h : v = _); clear h; subst h2)
        simp only [Step, Act.put, dstIn, List.map_cons, List.getD_cons_zero, List.getD_cons_succ, List.setIfInBounds_toArray, List.set_cons_zero, List.set_cons_succ]
        intro R hR
        rw [if_pos (by rfl)]
        go_simp
        exact hR _ _ ⟨⟨Below.refl _ _⟩, isV_mk (w := wz)⟩
      refine eachOp_cons ?_ ?_
      · intro wz hwz
        simp only [eachDep]
        have hz := Hw5.out.trans (hwz.out.mono Hw5.out.size)
        have hcv := fun k => conv_bytes' (w := wz) (A := A) (l := xa) k La.out (Ha.out.mono hz)
        (intro v h; have h2 := (id h : v = _); clear h; subst h2)
        (intro v h; have h2 := (id h : v = _); clear h; subst h2)
        (intro v h; have h2 := (id h : v = _); clear h; subst h2)
        (intro v h; have h2 := (id h : v = _); clear h; subst h2)
        (intro v h; have h2 := (id h : v = _); clear h; subst h2)
        simp only [Step, Act.put, dstIn, List.map_cons, List.getD_cons_zero, List.getD_cons_succ, List.setIfInBounds_toArray, List.set_cons_zero, List.set_cons_succ]
        intro R hR
        rw [if_pos (by rfl)]
        go_simp
        first
          | (go_at_call 17; first
              | (with_reducible refine (dot_calls' A _ xa B _ xb _ La.out Lb.out (Ha.out.mono hz) (Hb1.out.mono hz) (by omega) (by omega)).mono ?_); rintro e w' ⟨rfl, hb⟩; exact hR _ _ ⟨⟨hb⟩, isV_mk (w := w')⟩
              | (with_reducible refine (dot_calls' B _ xb A _ xa _ Lb.out La.out (Hb1.out.mono hz) (Ha.out.mono hz) (by omega) (by omega)).mono ?_); rintro e w' ⟨rfl, hb⟩; exact hR _ _ ⟨⟨hb⟩, isV_of (w := w') (by rw [dot_comm])⟩)
          | (go_at_call 18; first
              | (with_reducible refine (addScaled_calls' A _ xa c B _ xb _ La.out Lb.out (Ha.out.mono hz) (Hb1.out.mono hz) (by omega) (by omega)).mono ?_); rintro e w' hm; obtain ⟨A1, c1, rfl, hc1, hr1, ho1, hb1⟩ := hm.form; exact hR _ _ ⟨⟨hb1⟩, ⟨_, _, rfl, rfl, hc1, hr1⟩⟩
              | (with_reducible refine (addScaled_calls' _ _ (axpy xa c xb) c B _ xb _ rfl Lb.out (by assumption) (Hb1.out.mono hz) (by rw [axpy_length]; omega) (by omega)).mono ?_); rintro e w' hm; rw [T1.out] at hm; obtain ⟨A1, c1, rfl, hc1, hr1, ho1, hb1⟩ := hm.form; exact hR _ _ ⟨⟨hb1⟩, ⟨_, _, rfl, rfl, hc1, hr1⟩⟩)
          | (go_at_call 19; first
              | (with_reducible refine (sum_calls' A _ xa B _ xb _ La.out Lb.out (Ha.out.mono hz) (Hb1.out.mono hz) (by omega) (by omega)).mono ?_); rintro e w' hm; obtain ⟨A1, c1, rfl, hc1, hr1, ho1, hb1⟩ := hm.form; exact hR _ _ ⟨⟨hb1⟩, ⟨_, _, rfl, rfl, hc1, hr1⟩⟩
              | (with_reducible refine (sum_calls' _ _ (sumF xa xb) B _ xb _ rfl Lb.out (by assumption) (Hb1.out.mono hz) (by rw [sumF_length]; omega) (by omega)).mono ?_); rintro e w' hm; rw [T2.out] at hm; obtain ⟨A1, c1, rfl, hc1, hr1, ho1, hb1⟩ := hm.form; exact hR _ _ ⟨⟨hb1⟩, ⟨_, _, rfl, rfl, hc1, hr1⟩⟩)
      refine eachOp_cons ?_ ?_
      · intro wz hwz
        simp only [eachDep]
        have hz := Hw5.out.trans (hwz.out.mono Hw5.out.size)
        have hcv := fun k => conv_bytes' (w := wz) (A := A) (l := xa) k La.out (Ha.out.mono hz)
        (intro v h; have h2 := (id h : v = _); clear h; subst h2)
        simp only [Step, Act.put, dstIn, List.map_cons, List.getD_cons_zero, List.getD_cons_succ, List.setIfInBounds_toArray, List.set_cons_zero, List.set_cons_succ]
        intro R hR
        rw [if_pos (by rfl)]
        go_simp
        exact hR _ _ ⟨⟨Below.refl _ _⟩, isV_mk (w := wz)⟩
      refine eachOp_cons ?_ ?_
      · intro wz hwz
        simp only [eachDep]
        have hz := Hw5.out.trans (hwz.out.mono Hw5.out.size)
        have hcv := fun k => conv_bytes' (w := wz) (A := A) (l := xa) k La.out (Ha.out.mono hz)
        (intro v h; have h2 := (id h : v = _); clear h; subst h2)
        simp only [Step, Act.put, dstIn, List.map_cons, List.getD_cons_zero, List.getD_cons_succ, List.setIfInBounds_toArray, List.set_cons_zero, List.set_cons_succ]
        intro R hR
        rw [if_pos (by rfl)]
        go_simp
        exact hR _ _ ⟨⟨Below.refl _ _⟩, isV_mk (w := wz)⟩
      refine eachOp_cons ?_ ?_
      · intro wz hwz
        simp only [eachDep]
        have hz := Hw5.out.trans (hwz.out.mono Hw5.out.size)
        have hcv := fun k => conv_bytes' (w := wz) (A := A) (l := xa) k La.out (Ha.out.mono hz)
        rintro _ ⟨A_16, c_16, rfl, hl_16, hc_16, hr_16⟩
        have hv_16 := conv_bytes' c_16 hl_16 hr_16
        (intro v h; have h2 := (id h : v = _); clear h; subst h2)
        (intro v h; have h2 := (id h : v = _); clear h; subst h2)
        rintro _ ⟨A_16, c_16, rfl, hl_16, hc_16, hr_16⟩
        have hv_16 := conv_bytes' c_16 hl_16 hr_16
        (intro v h; have h2 := (id h : v = _); clear h; subst h2)
        simp only [Step, Act.put, dstIn, List.map_cons, List.getD_cons_zero, List.getD_cons_succ, List.setIfInBounds_toArray, List.set_cons_zero, List.set_cons_succ]
        intro R hR
        rw [if_pos (by rfl)]
        go_simp
        first
          | (go_at_call 17; first
              | (with_reducible refine (dot_calls' A _ xa B _ xb _ La.out Lb.out (Ha.out.mono hz) (Hb1.out.mono hz) (by omega) (by omega)).mono ?_); rintro e w' ⟨rfl, hb⟩; exact hR _ _ ⟨⟨hb⟩, isV_mk (w := w')⟩
              | (with_reducible refine (dot_calls' B _ xb A _ xa _ Lb.out La.out (Hb1.out.mono hz) (Ha.out.mono hz) (by omega) (by omega)).mono ?_); rintro e w' ⟨rfl, hb⟩; exact hR _ _ ⟨⟨hb⟩, isV_of (w := w') (by rw [dot_comm])⟩)
          | (go_at_call 18; first
              | (with_reducible refine (addScaled_calls' A _ xa c B _ xb _ La.out Lb.out (Ha.out.mono hz) (Hb1.out.mono hz) (by omega) (by omega)).mono ?_); rintro e w' hm; obtain ⟨A1, c1, rfl, hc1, hr1, ho1, hb1⟩ := hm.form; exact hR _ _ ⟨⟨hb1⟩, ⟨_, _, rfl, rfl, hc1, hr1⟩⟩
              | (with_reducible refine (addScaled_calls' _ _ (axpy xa c xb) c B _ xb _ rfl Lb.out (by assumption) (Hb1.out.mono hz) (by rw [axpy_length]; omega) (by omega)).mono ?_); rintro e w' hm; rw [T1.out] at hm; obtain ⟨A1, c1, rfl, hc1, hr1, ho1, hb1⟩ := hm.form; exact hR _ _ ⟨⟨hb1⟩, ⟨_, _, rfl, rfl, hc1, hr1⟩⟩)
          | (go_at_call 19; first
              | (with_reducible refine (sum_calls' A _ xa B _ xb _ La.out Lb.out (Ha.out.mono hz) (Hb1.out.mono hz) (by omega) (by omega)).mono ?_); rintro e w' hm; obtain ⟨A1, c1, rfl, hc1, hr1, ho1, hb1⟩ := hm.form; exact hR _ _ ⟨⟨hb1⟩, ⟨_, _, rfl, rfl, hc1, hr1⟩⟩
              | (with_reducible refine (sum_calls' _ _ (sumF xa xb) B _ xb _ rfl Lb.out (by assumption) (Hb1.out.mono hz) (by rw [sumF_length]; omega) (by omega)).mono ?_); rintro e w' hm; rw [T2.out] at hm; obtain ⟨A1, c1, rfl, hc1, hr1, ho1, hb1⟩ := hm.form; exact hR _ _ ⟨⟨hb1⟩, ⟨_, _, rfl, rfl, hc1, hr1⟩⟩)
      refine eachOp_cons ?_ ?_
      · intro wz hwz
        simp only [eachDep]
        have hz := Hw5.out.trans (hwz.out.mono Hw5.out.size)
        have hcv := fun k => conv_bytes' (w := wz) (A := A) (l := xa) k La.out (Ha.out.mono hz)
        rintro _ ⟨A_19, c_19, rfl, hl_19, hc_19, hr_19⟩
        have hv_19 := conv_bytes' c_19 hl_19 hr_19
        (intro v h; have h2 := (id h : v = _); clear h; subst h2)
        simp only [Step, Act.put, dstIn, List.map_cons, List.getD_cons_zero, List.getD_cons_succ, List.setIfInBounds_toArray, List.set_cons_zero, List.set_cons_succ]
        intro R hR
        rw [if_pos (by rfl)]
        go_simp
        exact hR _ _ ⟨⟨Below.refl _ _⟩, isV_mk (w := wz)⟩
      refine eachOp_cons ?_ ?_
      · intro wz hwz
        simp only [eachDep]
        have hz := Hw5.out.trans (hwz.out.mono Hw5.out.size)
        have hcv := fun k => conv_bytes' (w := wz) (A := A) (l := xa) k La.out (Ha.out.mono hz)
        (intro v h; have h2 := (id h : v = _); clear h; subst h2)
        simp only [Step, Act.put, dstIn, List.map_cons, List.getD_cons_zero, List.getD_cons_succ, List.setIfInBounds_toArray, List.set_cons_zero, List.set_cons_succ]
        intro R hR
        rw [if_pos (by rfl)]
        go_simp
        exact hR _ _ ⟨⟨Below.refl _ _⟩, isV_mk (w := wz)⟩
      refine eachOp_cons ?_ ?_
      · intro wz hwz
        simp only [eachDep]
        have hz := Hw5.out.trans (hwz.out.mono Hw5.out.size)
        have hcv := fun k => conv_bytes' (w := wz) (A := A) (l := xa) k La.out (Ha.out.mono hz)
        (intro v h; have h2 := (id h : v = _); clear h; subst h2)
        (intro v h; have h2 := (id h : v = _); clear h; subst h2)
        simp only [Step, Act.put, dstIn, List.map_cons, List.getD_cons_zero, List.getD_cons_succ, List.setIfInBounds_toArray, List.set_cons_zero, List.set_cons_succ]
        intro R hR
        rw [if_pos (by rfl)]
        go_simp
        exact hR _ _ ⟨⟨Below.refl _ _⟩, isV_mk (w := wz)⟩
      refine eachOp_cons ?_ ?_
      · intro wz hwz
        simp only [eachDep]
        have hz := Hw5.out.trans (hwz.out.mono Hw5.out.size)
        have hcv := fun k => conv_bytes' (w := wz) (A := A) (l := xa) k La.out (Ha.out.mono hz)
        (intro v h; have h2 := (id h : v = _); clear h; subst h2)
        (intro v h; have h2 := (id h : v = _); clear h; subst h2)
        (intro v h; have h2 := (id h : v = _); clear h; subst h2)
        simp only [Step, Act.put, dstIn, List.map_cons, List.getD_cons_zero, List.getD_cons_succ, List.setIfInBounds_toArray, List.set_cons_zero, List.set_cons_succ]
        intro R hR
        rw [if_pos (by rfl)]
        go_simp
        exact hR _ _ ⟨⟨Below.refl _ _⟩, isV_mk (w := wz)⟩
      refine eachOp_cons ?_ ?_
      · intro wz hwz
        simp only [eachDep]
        have hz := Hw5.out.trans (hwz.out.mono Hw5.out.size)
        have hcv := fun k => conv_bytes' (w := wz) (A := A) (l := xa) k La.out (Ha.out.mono hz)
        (intro v h; have h2 := (id h : v = _); clear h; subst h2)
        (intro v h; have h2 := (id h : v = _); clear h; subst h2)
        simp only [Step, Act.put, dstIn, List.map_cons, List.getD_cons_zero, List.getD_cons_succ, List.setIfInBounds_toArray, List.set_cons_zero, List.set_cons_succ]
        intro R hR
        rw [if_pos (by rfl)]
        go_simp
        exact hR _ _ ⟨⟨Below.refl _ _⟩, isV_mk (w := wz)⟩
      refine eachOp_cons ?_ ?_
      · intro wz hwz
        simp only [eachDep]
        have hz := Hw5.out.trans (hwz.out.mono Hw5.out.size)
        have hcv := fun k => conv_bytes' (w := wz) (A := A) (l := xa) k La.out (Ha.out.mono hz)
        (intro v h; have h2 := (id h : v = _); clear h; subst h2)
        rintro _ ⟨A_19, c_19, rfl, hl_19, hc_19, hr_19⟩
        have hv_19 := conv_bytes' c_19 hl_19 hr_19
        simp only [Step, Act.put, dstIn, List.map_cons, List.getD_cons_zero, List.getD_cons_succ, List.setIfInBounds_toArray, List.set_cons_zero, List.set_cons_succ]
        intro R hR
        rw [if_pos (by rfl)]
        go_simp
        exact hR _ _ ⟨⟨Below.refl _ _⟩, isV_mk (w := wz)⟩
      refine eachOp_cons ?_ ?_
      · intro wz hwz
        simp only [eachDep]
        have hz := Hw5.out.trans (hwz.out.mono Hw5.out.size)
        have hcv := fun k => conv_bytes' (w := wz) (A := A) (l := xa) k La.out (Ha.out.mono hz)
        (intro v h; have h2 := (id h : v = _); clear h; subst h2)
        simp only [Step, Act.put, dstIn, List.map_cons, List.getD_cons_zero, List.getD_cons_succ, List.setIfInBounds_toArray, List.set_cons_zero, List.set_cons_succ]
        intro R hR
        rw [if_pos (by rfl)]
        go_simp
        exact hR _ _ ⟨⟨Below.refl _ _⟩, isV_mk (w := wz)⟩
      refine eachOp_cons ?_ ?_
      · intro wz hwz
        simp only [eachDep]
        have hz := Hw5.out.trans (hwz.out.mono Hw5.out.size)
        have hcv := fun k => conv_bytes' (w := wz) (A := A) (l := xa) k La.out (Ha.out.mono hz)
        (intro v h; have h2 := (id h : v = _); clear h; subst h2)
        simp only [Step, Act.put, dstIn, List.map_cons, List.getD_cons_zero, List.getD_cons_succ, List.setIfInBounds_toArray, List.set_cons_zero, List.set_cons_succ]
        intro R hR
        rw [if_pos (by rfl)]
        go_simp
        exact hR _ _ ⟨⟨Below.refl _ _⟩, isV_mk (w := wz)⟩
      refine eachOp_cons ?_ ?_
      · intro wz hwz
        simp only [eachDep]
        have hz := Hw5.out.trans (hwz.out.mono Hw5.out.size)
        have hcv := fun k => conv_bytes' (w := wz) (A := A) (l := xa) k La.out (Ha.out.mono hz)
        (intro v h; have h2 := (id h : v = _); clear h; subst h2)
        (intro v h; have h2 := (id h : v = _); clear h; subst h2)
        (intro v h; have h2 := (id h : v = _); clear h; subst h2)
        (intro v h; have h2 := (id h : v = _); clear h; subst h2)
        simp only [Step, Act.put, dstIn, List.map_cons, List.getD_cons_zero, List.getD_cons_succ, List.setIfInBounds_toArray, List.set_cons_zero, List.set_cons_succ]
        intro R hR
        rw [if_pos (by rfl)]
        go_simp
        first
          | (go_at_call 17; first
              | (with_reducible refine (dot_calls' A _ xa B _ xb _ La.out Lb.out (Ha.out.mono hz) (Hb1.out.mono hz) (by omega) (by omega)).mono ?_); rintro e w' ⟨rfl, hb⟩; exact hR _ _ ⟨⟨hb⟩, isV_mk (w := w')⟩
              | (with_reducible refine (dot_calls' B _ xb A _ xa _ Lb.out La.out (Hb1.out.mono hz) (Ha.out.mono hz) (by omega) (by omega)).mono ?_); rintro e w' ⟨rfl, hb⟩; exact hR _ _ ⟨⟨hb⟩, isV_of (w := w') (by rw [dot_comm])⟩)
          | (go_at_call 18; first
              | (with_reducible refine (addScaled_calls' A _ xa c B _ xb _ La.out Lb.out (Ha.out.mono hz) (Hb1.out.mono hz) (by omega) (by omega)).mono ?_); rintro e w' hm; obtain ⟨A1, c1, rfl, hc1, hr1, ho1, hb1⟩ := hm.form; exact hR _ _ ⟨⟨hb1⟩, ⟨_, _, rfl, rfl, hc1, hr1⟩⟩
              | (with_reducible refine (addScaled_calls' _ _ (axpy xa c xb) c B _ xb _ rfl Lb.out (by assumption) (Hb1.out.mono hz) (by rw [axpy_length]; omega) (by omega)).mono ?_); rintro e w' hm; rw [T1.out] at hm; obtain ⟨A1, c1, rfl, hc1, hr1, ho1, hb1⟩ := hm.form; exact hR _ _ ⟨⟨hb1⟩, ⟨_, _, rfl, rfl, hc1, hr1⟩⟩)
          | (go_at_call 19; first
              | (with_reducible refine (sum_calls' A _ xa B _ xb _ La.out Lb.out (Ha.out.mono hz) (Hb1.out.mono hz) (by omega) (by omega)).mono ?_); rintro e w' hm; obtain ⟨A1, c1, rfl, hc1, hr1, ho1, hb1⟩ := hm.form; exact hR _ _ ⟨⟨hb1⟩, ⟨_, _, rfl, rfl, hc1, hr1⟩⟩
              | (with_reducible refine (sum_calls' _ _ (sumF xa xb) B _ xb _ rfl Lb.out (by assumption) (Hb1.out.mono hz) (by rw [sumF_length]; omega) (by omega)).mono ?_); rintro e w' hm; rw [T2.out] at hm; obtain ⟨A1, c1, rfl, hc1, hr1, ho1, hb1⟩ := hm.form; exact hR _ _ ⟨⟨hb1⟩, ⟨_, _, rfl, rfl, hc1, hr1⟩⟩)
      refine eachOp_cons ?_ ?_
      · intro wz hwz
        simp only [eachDep]
        have hz := Hw5.out.trans (hwz.out.mono Hw5.out.size)
        have hcv := fun k => conv_bytes' (w := wz) (A := A) (l := xa) k La.out (Ha.out.mono hz)
        (intro v h; have h2 := (id h : v = _); clear h; subst h2)
        simp only [Step, Act.put, dstIn, List.map_cons, List.getD_cons_zero, List.getD_cons_succ, List.setIfInBounds_toArray, List.set_cons_zero, List.set_cons_succ]
        intro R hR
        rw [if_pos (by rfl)]
        go_simp
        exact hR _ _ ⟨⟨Below.refl _ _⟩, isV_mk (w := wz)⟩
      refine eachOp_cons ?_ ?_
      · intro wz hwz
        simp only [eachDep]
        have hz := Hw5.out.trans (hwz.out.mono Hw5.out.size)
        have hcv := fun k => conv_bytes' (w := wz) (A := A) (l := xa) k La.out (Ha.out.mono hz)
        rintro _ ⟨A_28, c_28, rfl, hl_28, hc_28, hr_28⟩
        have hv_28 := conv_bytes' c_28 hl_28 hr_28
        (intro v h; have h2 := (id h : v = _); clear h; subst h2)
        rintro _ ⟨A_28, c_28, rfl, hl_28, hc_28, hr_28⟩
        have hv_28 := conv_bytes' c_28 hl_28 hr_28
        (intro v h; have h2 := (id h : v = _); clear h; subst h2)
        simp only [Step, Act.put, dstIn, List.map_cons, List.getD_cons_zero, List.getD_cons_succ, List.setIfInBounds_toArray, List.set_cons_zero, List.set_cons_succ]
        intro R hR
        rw [if_pos (by rfl)]
        go_simp
        first
          | (go_at_call 17; first
              | (with_reducible refine (dot_calls' A _ xa B _ xb _ La.out Lb.out (Ha.out.mono hz) (Hb1.out.mono hz) (by omega) (by omega)).mono ?_); rintro e w' ⟨rfl, hb⟩; exact hR _ _ ⟨⟨hb⟩, isV_mk (w := w')⟩
              | (with_reducible refine (dot_calls' B _ xb A _ xa _ Lb.out La.out (Hb1.out.mono hz) (Ha.out.mono hz) (by omega) (by omega)).mono ?_); rintro e w' ⟨rfl, hb⟩; exact hR _ _ ⟨⟨hb⟩, isV_of (w := w') (by rw [dot_comm])⟩)
          | (go_at_call 18; first
              | (with_reducible refine (addScaled_calls' A _ xa c B _ xb _ La.out Lb.out (Ha.out.mono hz) (Hb1.out.mono hz) (by omega) (by omega)).mono ?_); rintro e w' hm; obtain ⟨A1, c1, rfl, hc1, hr1, ho1, hb1⟩ := hm.form; exact hR _ _ ⟨⟨hb1⟩, ⟨_, _, rfl, rfl, hc1, hr1⟩⟩
              | (with_reducible refine (addScaled_calls' _ _ (axpy xa c xb) c B _ xb _ rfl Lb.out (by assumption) (Hb1.out.mono hz) (by rw [axpy_length]; omega) (by omega)).mono ?_); rintro e w' hm; rw [T1.out] at hm; obtain ⟨A1, c1, rfl, hc1, hr1, ho1, hb1⟩ := hm.form; exact hR _ _ ⟨⟨hb1⟩, ⟨_, _, rfl, rfl, hc1, hr1⟩⟩)
          | (go_at_call 19; first
              | (with_reducible refine (sum_calls' A _ xa B _ xb _ La.out Lb.out (Ha.out.mono hz) (Hb1.out.mono hz) (by omega) (by omega)).mono ?_); rintro e w' hm; obtain ⟨A1, c1, rfl, hc1, hr1, ho1, hb1⟩ := hm.form; exact hR _ _ ⟨⟨hb1⟩, ⟨_, _, rfl, rfl, hc1, hr1⟩⟩
              | (with_reducible refine (sum_calls' _ _ (sumF xa xb) B _ xb _ rfl Lb.out (by assumption) (Hb1.out.mono hz) (by rw [sumF_length]; omega) (by omega)).mono ?_); rintro e w' hm; rw [T2.out] at hm; obtain ⟨A1, c1, rfl, hc1, hr1, ho1, hb1⟩ := hm.form; exact hR _ _ ⟨⟨hb1⟩, ⟨_, _, rfl, rfl, hc1, hr1⟩⟩)
      refine eachOp_cons ?_ ?_
      · intro wz hwz
        simp only [eachDep]
        have hz := Hw5.out.trans (hwz.out.mono Hw5.out.size)
        have hcv := fun k => conv_bytes' (w := wz) (A := A) (l := xa) k La.out (Ha.out.mono hz)
        rintro _ ⟨A_30, c_30, rfl, hl_30, hc_30, hr_30⟩
        have hv_30 := conv_bytes' c_30 hl_30 hr_30
        (intro v h; have h2 := (id h : v = _); clear h; subst h2)
        simp only [Step, Act.put, dstIn, List.map_cons, List.getD_cons_zero, List.getD_cons_succ, List.setIfInBounds_toArray, List.set_cons_zero, List.set_cons_succ]
        intro R hR
        rw [if_pos (by rfl)]
        go_simp
        exact hR _ _ ⟨⟨Below.refl _ _⟩, isV_mk (w := wz)⟩
      refine eachOp_cons ?_ ?_
      · intro wz hwz
        simp only [eachDep]
        have hz := Hw5.out.trans (hwz.out.mono Hw5.out.size)
        have hcv := fun k => conv_bytes' (w := wz) (A := A) (l := xa) k La.out (Ha.out.mono hz)
        (intro v h; have h2 := (id h : v = _); clear h; subst h2)
        simp only [Step, Act.put, dstIn, List.map_cons, List.getD_cons_zero, List.getD_cons_succ, List.setIfInBounds_toArray, List.set_cons_zero, List.set_cons_succ]
        intro R hR
        rw [if_pos (by rfl)]
        go_simp
        exact hR _ _ ⟨⟨Below.refl _ _⟩, isV_mk (w := wz)⟩
      refine eachOp_cons ?_ ?_
      · intro wz hwz
        simp only [eachDep]
        have hz := Hw5.out.trans (hwz.out.mono Hw5.out.size)
        have hcv := fun k => conv_bytes' (w := wz) (A := A) (l := xa) k La.out (Ha.out.mono hz)
        (intro v h; have h2 := (id h : v = _); clear h; subst h2)
        (intro v h; have h2 := (id h : v = _); clear h; subst h2)
        simp only [Step, Act.put, dstIn, List.map_cons, List.getD_cons_zero, List.getD_cons_succ, List.setIfInBounds_toArray, List.set_cons_zero, List.set_cons_succ]
        intro R hR
        rw [if_pos (by rfl)]
        go_simp
        exact hR _ _ ⟨⟨Below.refl _ _⟩, isV_mk (w := wz)⟩
      refine eachOp_cons ?_ ?_
      · intro wz hwz
        simp only [eachDep]
        have hz := Hw5.out.trans (hwz.out.mono Hw5.out.size)
        have hcv := fun k => conv_bytes' (w := wz) (A := A) (l := xa) k La.out (Ha.out.mono hz)
        (intro v h; have h2 := (id h : v = _); clear h; subst h2)
        (intro v h; have h2 := (id h : v = _); clear h; subst h2)
        (intro v h; have h2 := (id h : v = _); clear h; subst h2)
        simp only [Step, Act.put, dstIn, List.map_cons, List.getD_cons_zero, List.getD_cons_succ, List.setIfInBounds_toArray, List.set_cons_zero, List.set_cons_succ]
        intro R hR
        rw [if_pos (by rfl)]
        go_simp
        exact hR _ _ ⟨⟨Below.refl _ _⟩, isV_mk (w := wz)⟩
      refine eachOp_cons ?_ ?_
      · intro wz hwz
        simp only [eachDep]
        have hz := Hw5.out.trans (hwz.out.mono Hw5.out.size)
        have hcv := fun k => conv_bytes' (w := wz) (A := A) (l := xa) k La.out (Ha.out.mono hz)
        (intro v h; have h2 := (id h : v = _); clear h; subst h2)
        (intro v h; have h2 := (id h : v = _); clear h; subst h2)
        simp only [Step, Act.put, dstIn, List.map_cons, List.getD_cons_zero, List.getD_cons_succ, List.setIfInBounds_toArray, List.set_cons_zero, List.set_cons_succ]
        intro R hR
        rw [if_pos (by rfl)]
        go_simp
        exact hR _ _ ⟨⟨Below.refl _ _⟩, isV_mk (w := wz)⟩
      refine eachOp_cons ?_ ?_
      · intro wz hwz
        simp only [eachDep]
        have hz := Hw5.out.trans (hwz.out.mono Hw5.out.size)
        have hcv := fun k => conv_bytes' (w := wz) (A := A) (l := xa) k La.out (Ha.out.mono hz)
        (intro v h; have h2 := (id h : v = _); clear h; subst h2)
        rintro _ ⟨A_30, c_30, rfl, hl_30, hc_30, hr_30⟩
        have hv_30 := conv_bytes' c_30 hl_30 hr_30
        (intro v h; have h2 := (id h : v = _); clear h; subst h2)
        (intro v h; have h2 := (id h : v = _); clear h; subst h2)
        (intro v h; have h2 := (id h : v = _); clear h; subst h2)
        (intro v h; have h2 := (id h : v = _); clear h; subst h2)
        (intro v h; have h2 := (id h : v = _); clear h; subst h2)
        (intro v h; have h2 := (id h : v = _); clear h; subst h2)
        (intro v h; have h2 := (id h : v = _); clear h; subst h2)
        (intro v h; have h2 := (id h : v = _); clear h; subst h2)
        (intro v h; have h2 := (id h : v = _); clear h; subst h2)
        (intro v h; have h2 := (id h : v = _); clear h; subst h2)
        (intro v h; have h2 := (id h : v = _); clear h; subst h2)
        (intro v h; have h2 := (id h : v = _); clear h; subst h2)
        (intro v h; have h2 := (id h : v = _); clear h; subst h2)
        (intro v h; have h2 := (id h : v = _); clear h; subst h2)
        (intro v h; have h2 := (id h : v = _); clear h; subst h2)
        (intro v h; have h2 := (id h : v = _); clear h; subst h2)
        rintro _ ⟨A_16, c_16, rfl, hl_16, hc_16, hr_16⟩
        have hv_16 := conv_bytes' c_16 hl_16 hr_16
        (intro v h; have h2 := (id h : v = _); clear h; subst h2)
        (intro v h; have h2 := (id h : v = _); clear h; subst h2)
        rintro _ ⟨A_19, c_19, rfl, hl_19, hc_19, hr_19⟩
        have hv_19 := conv_bytes' c_19 hl_19 hr_19
        (intro v h; have h2 := (id h : v = _); clear h; subst h2)
        (intro v h; have h2 := (id h : v = _); clear h; subst h2)
        (intro v h; have h2 := (id h : v = _); clear h; subst h2)
        (intro v h; have h2 := (id h : v = _); clear h; subst h2)
        (intro v h; have h2 := (id h : v = _); clear h; subst h2)
        (intro v h; have h2 := (id h : v = _); clear h; subst h2)
        (intro v h; have h2 := (id h : v = _); clear h; subst h2)
        (intro v h; have h2 := (id h : v = _); clear h; subst h2)
        rintro _ ⟨A_28, c_28, rfl, hl_28, hc_28, hr_28⟩
        have hv_28 := conv_bytes' c_28 hl_28 hr_28
        (intro v h; have h2 := (id h : v = _); clear h; subst h2)
        rintro _ ⟨A_30, c_30, rfl, hl_30, hc_30, hr_30⟩
        have hv_30 := conv_bytes' c_30 hl_30 hr_30
        (intro v h; have h2 := (id h : v = _); clear h; subst h2)
        (intro v h; have h2 := (id h : v = _); clear h; subst h2)
        (intro v h; have h2 := (id h : v = _); clear h; subst h2)
        (intro v h; have h2 := (id h : v = _); clear h; subst h2)
        (intro v h; have h2 := (id h : v = _); clear h; subst h2)
        simp only [Step, Act.put, dstIn, List.map_cons, List.getD_cons_zero, List.getD_cons_succ, List.setIfInBounds_toArray, List.set_cons_zero, List.set_cons_succ]
        intro R hR
        rw [if_pos (by rfl)]
        go_simp
        exact hR _ _ ⟨⟨Below.refl _ _⟩, isV_mk (w := wz)⟩
      exact eachOp_nil
    intro wq hwq
    simp only [eachDep, List.size_toArray, List.length_cons, List.length_nil, Nat.zero_add, Nat.reduceAdd, List.range, List.range.loop]
    (intro v h; have h2 := (id h : v = _); clear h; subst h2)
    (intro v h; have h2 := (id h : v = _); clear h; subst h2)
    (intro v h; have h2 := (id h : v = _); clear h; subst h2)
    (intro v h; have h2 := (id h : v = _); clear h; subst h2)
    (intro v h; have h2 := (id h : v = _); clear h; subst h2)
    (intro v h; have h2 := (id h : v = _); clear h; subst h2)
    (intro v h; have h2 := (id h : v = _); clear h; subst h2)
    (intro v h; have h2 := (id h : v = _); clear h; subst h2)
    (intro v h; have h2 := (id h : v = _); clear h; subst h2)
    (intro v h; have h2 := (id h : v = _); clear h; subst h2)
    (intro v h; have h2 := (id h : v = _); clear h; subst h2)
    (intro v h; have h2 := (id h : v = _); clear h; subst h2)
    (intro v h; have h2 := (id h : v = _); clear h; subst h2)
    (intro v h; have h2 := (id h : v = _); clear h; subst h2)
    (intro v h; have h2 := (id h : v = _); clear h; subst h2)
    (intro v h; have h2 := (id h : v = _); clear h; subst h2)
    rintro _ ⟨A_16, c_16, rfl, hl_16, hc_16, hr_16⟩
    have hv_16 := conv_bytes' c_16 hl_16 hr_16
    (intro v h; have h2 := (id h : v = _); clear h; subst h2)
    (intro v h; have h2 := (id h : v = _); clear h; subst h2)
    rintro _ ⟨A_19, c_19, rfl, hl_19, hc_19, hr_19⟩
    have hv_19 := conv_bytes' c_19 hl_19 hr_19
    (intro v h; have h2 := (id h : v = _); clear h; subst h2)
    (intro v h; have h2 := (id h : v = _); clear h; subst h2)
    (intro v h; have h2 := (id h : v = _); clear h; subst h2)
    (intro v h; have h2 := (id h : v = _); clear h; subst h2)
    (intro v h; have h2 := (id h : v = _); clear h; subst h2)
    (intro v h; have h2 := (id h : v = _); clear h; subst h2)
    (intro v h; have h2 := (id h : v = _); clear h; subst h2)
    (intro v h; have h2 := (id h : v = _); clear h; subst h2)
    rintro _ ⟨A_28, c_28, rfl, hl_28, hc_28, hr_28⟩
    have hv_28 := conv_bytes' c_28 hl_28 hr_28
    (intro v h; have h2 := (id h : v = _); clear h; subst h2)
    rintro _ ⟨A_30, c_30, rfl, hl_30, hc_30, hr_30⟩
    have hv_30 := conv_bytes' c_30 hl_30 hr_30
    (intro v h; have h2 := (id h : v = _); clear h; subst h2)
    (intro v h; have h2 := (id h : v = _); clear h; subst h2)
    (intro v h; have h2 := (id h : v = _); clear h; subst h2)
    (intro v h; have h2 := (id h : v = _); clear h; subst h2)
    (intro v h; have h2 := (id h : v = _); clear h; subst h2)
    (intro v h; have h2 := (id h : v = _); clear h; subst h2)
    simp only [Act.put, dstIn, List.map_cons, List.getD_cons_zero, List.getD_cons_succ, List.setIfInBounds_toArray, List.set_cons_zero, List.set_cons_succ]
    go_wp2_with fail
    exact ⟨rfl, _, results_tmp (t := 2) rfl _ _ _, rfl, Hb.out.trans ((Hw5.out.trans (hwq.out.mono Hw5.out.size)).mono Hb.out.size)⟩
end Go.Proofs.Ytfanaaiakalccaa
