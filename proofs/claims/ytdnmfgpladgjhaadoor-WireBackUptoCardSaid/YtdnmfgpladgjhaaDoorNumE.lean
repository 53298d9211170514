/- tesseranum.Num: the error's number. -/
import Derived.Test.YtdnmfgpladgjhaaDoorErr
import Derived.Test.YtdnmfgpladgjhaaDoorNum
namespace Go.Proofs.YtdnmfgpladgjhaaDoor
open Go Go.RowKit Go.Proofs.YtdnmfgpladgjhaaDoor.Gf
set_option linter.unusedVariables false
set_option linter.unusedSimpArgs false

/-- The variables in the numbers' order. -/
def errG : List Nat := [3, 4, 5, 6, 7, 8, 9, 10, 11, 1, 2, 0, 12, 13, 14, 15, 16, 17, 18, 19, 20, 21, 22, 23, 24]
def gN (n : Nat) : Nat := errG.getD (n - 1) 0
def errN (E : Nat → Addr) : Nat → Value
  | 0 => .nilIface
  | n + 1 => errV E (errG.getD n 0)
theorem errG_nodup : errG.Nodup := by decide
theorem errG_length : errG.length = 25 := by rfl
theorem errG_mem (n : Nat) (h : n < 25) : errG.getD n 0 ∈ errG := by
  rw [List.getD_eq_getElem?_getD, List.getElem?_eq_getElem (by rw [errG_length]; exact h)]; exact List.getElem_mem _
theorem errG_inj {m n : Nat} (hm : m < 25) (hn : n < 25) (h : errG.getD m 0 = errG.getD n 0) : m = n := by
  have key : ∀ a : Fin 25, ∀ b : Fin 25, errG.getD a.val 0 = errG.getD b.val 0 → a.val = b.val := by decide
  exact key ⟨m, hm⟩ ⟨n, hn⟩ h

theorem errInfo : ∃ i j, Tryd.prog.info? 86 = some i ∧ i.comparable = true ∧ Tryd.prog.info? 102 = some j ∧ j.size ≠ 0 := by
  have h1 : (Tryd.prog.info? 86).map (·.comparable) = some true := by kernel_rfl
  have h2 : (Tryd.prog.info? 102).map (fun j => decide (j.size ≠ 0)) = some true := by kernel_rfl
  cases e1 : Tryd.prog.info? 86 with
  | none => rw [e1] at h1; cases h1
  | some i =>
    cases e2 : Tryd.prog.info? 102 with
    | none => rw [e2] at h2; cases h2
    | some j =>
      rw [e1] at h1; rw [e2] at h2
      exact ⟨i, j, rfl, by simpa using h1, rfl, by simpa using h2⟩
/-- Two errors, compared. -/
theorem err_eql {w : World} {E : Nat → Addr} {gs : List Nat} (hE : ErrW w E gs) {g h : Nat} (hg : g ∈ gs) (hh : h ∈ gs) :
    (binOp .eql 28 (errV E g) (errV E h)).run Tryd.prog w = .ok (.bool (g == h)) w := by
  obtain ⟨i, j, h1, h2, h3, h4⟩ := errInfo
  by_cases e : g = h
  · subst e
    rw [beq_self_eq_true]
    exact run_eql_iface_ptr_same w (E g) Tryd.underlying28 Tryd.underlying86 h1 h2 h3
  · rw [beq_false_of_ne e]
    obtain ⟨c1, t1, r1⟩ := hE.row g hg
    obtain ⟨c2, t2, r2⟩ := hE.row h hh
    exact run_eql_iface_ptr_other w Tryd.underlying28 Tryd.underlying86 h1 h2 h3 h4 (fun ee => e (hE.inj g hg h hh ee)) r1 r2
theorem err_neq_nil {w : World} (E : Nat → Addr) (g : Nat) : (binOp .neq 28 (.iface 86 (.pointer (some (E g)))) .nilIface).run Tryd.prog w = .ok (.bool true) w := by
  have h : ∀ d : Nat, (Op.equalIn (d + 1) 28 (.iface 86 (.pointer (some (E g)))) .nilIface).run Tryd.prog w = .ok false w := fun d => by simp [Op.equalIn, run_underlying Tryd.underlying28]
  simp only [binOp]
  simp [Op.equal, Op.maxDepth, h 9999]
theorem err_nil {w : World} (E : Nat → Addr) (g : Nat) : (binOp .eql 28 (errV E g) .nilIface).run Tryd.prog w = .ok (.bool false) w :=
  run_eql_iface_nil_right _ _ Tryd.underlying28

set_option maxRecDepth 100000 in
set_option maxHeartbeats 2000000 in
theorem num_calls (E : Nat → Addr) (n : Nat) (w : World) (hE : ErrW w E errG) (hn : n ≤ 25) :
    Calls Tryd.prog 24 #[errN E n] w fun e w' => e = .returned (.int .i64 (n : Int)) ∧ Below w.heap.size w w' := by
  cases n with
  | zero =>
    show Calls _ _ #[.nilIface] _ _
    go_enter Tryd.func24, Tryd.ntmps24
    go_wp2
    go_ret
    exact ⟨rfl, Below.refl _ _⟩
  | succ n =>
    have hlt : n < 25 := by omega
    have c0 := hE.cell 3 (by decide)
    have c1 := hE.cell 4 (by decide)
    have c2 := hE.cell 5 (by decide)
    have c3 := hE.cell 6 (by decide)
    have c4 := hE.cell 7 (by decide)
    have c5 := hE.cell 8 (by decide)
    have c6 := hE.cell 9 (by decide)
    have c7 := hE.cell 10 (by decide)
    have c8 := hE.cell 11 (by decide)
    have c9 := hE.cell 1 (by decide)
    have c10 := hE.cell 2 (by decide)
    have c11 := hE.cell 0 (by decide)
    have c12 := hE.cell 12 (by decide)
    have c13 := hE.cell 13 (by decide)
    have c14 := hE.cell 14 (by decide)
    have c15 := hE.cell 15 (by decide)
    have c16 := hE.cell 16 (by decide)
    have c17 := hE.cell 17 (by decide)
    have c18 := hE.cell 18 (by decide)
    have c19 := hE.cell 19 (by decide)
    have c20 := hE.cell 20 (by decide)
    have c21 := hE.cell 21 (by decide)
    have c22 := hE.cell 22 (by decide)
    have c23 := hE.cell 23 (by decide)
    have c24 := hE.cell 24 (by decide)
    have hgm := errG_mem n hlt
    show Calls _ _ #[errV E (errG.getD n 0)] _ _
    obtain ⟨g, hg⟩ : ∃ g, Pk (g = errG.getD n 0) := ⟨_, ⟨rfl⟩⟩
    rw [← hg.out] at hgm ⊢
    have hnil := err_nil (w := w) E g
    have HE := Pk.mk hE
    have HM := Pk.mk hgm
    clear hE hgm
    simp only [errV] at *
    go_enter Tryd.func24, Tryd.ntmps24
    go_wp2
    have HB := Pk.mk (below_alloc w (.cells #[.iface 86 (.pointer (some (E 3))), .iface 86 (.pointer (some (E 4))), .iface 86 (.pointer (some (E 5))), .iface 86 (.pointer (some (E 6))), .iface 86 (.pointer (some (E 7))), .iface 86 (.pointer (some (E 8))), .iface 86 (.pointer (some (E 9))), .iface 86 (.pointer (some (E 10))), .iface 86 (.pointer (some (E 11))), .iface 86 (.pointer (some (E 1))), .iface 86 (.pointer (some (E 2))), .iface 86 (.pointer (some (E 0))), .iface 86 (.pointer (some (E 12))), .iface 86 (.pointer (some (E 13))), .iface 86 (.pointer (some (E 14))), .iface 86 (.pointer (some (E 15))), .iface 86 (.pointer (some (E 16))), .iface 86 (.pointer (some (E 17))), .iface 86 (.pointer (some (E 18))), .iface 86 (.pointer (some (E 19))), .iface 86 (.pointer (some (E 20))), .iface 86 (.pointer (some (E 21))), .iface 86 (.pointer (some (E 22))), .iface 86 (.pointer (some (E 23))), .iface 86 (.pointer (some (E 24)))] 28))
    have HE1 := Pk.mk (HE.out.below HB.out)
    have HC : Pk (∀ k, k < 25 → (w.alloc (.cells #[.iface 86 (.pointer (some (E 3))), .iface 86 (.pointer (some (E 4))), .iface 86 (.pointer (some (E 5))), .iface 86 (.pointer (some (E 6))), .iface 86 (.pointer (some (E 7))), .iface 86 (.pointer (some (E 8))), .iface 86 (.pointer (some (E 9))), .iface 86 (.pointer (some (E 10))), .iface 86 (.pointer (some (E 11))), .iface 86 (.pointer (some (E 1))), .iface 86 (.pointer (some (E 2))), .iface 86 (.pointer (some (E 0))), .iface 86 (.pointer (some (E 12))), .iface 86 (.pointer (some (E 13))), .iface 86 (.pointer (some (E 14))), .iface 86 (.pointer (some (E 15))), .iface 86 (.pointer (some (E 16))), .iface 86 (.pointer (some (E 17))), .iface 86 (.pointer (some (E 18))), .iface 86 (.pointer (some (E 19))), .iface 86 (.pointer (some (E 20))), .iface 86 (.pointer (some (E 21))), .iface 86 (.pointer (some (E 22))), .iface 86 (.pointer (some (E 23))), .iface 86 (.pointer (some (E 24)))] 28)).cell? ⟨w.heap.size, k, none⟩ = some (.iface 86 (.pointer (some (E (errG.getD k 0)))))) := ⟨fun k hk => by
      have key : ∀ a : Nat, a < 25 → (errG.map (errV E)).toArray[a]? = some (errV E (errG.getD a 0)) := fun a ha => by
        rw [List.getElem?_toArray, List.getElem?_map, List.getD_eq_getElem?_getD, List.getElem?_eq_getElem (by rw [errG_length]; exact ha)]; rfl
      rw [cell_of_row _ _ _ _ _ _ (heap_alloc_new _ _)]
      exact key k hk⟩
    generalize w.alloc (.cells #[.iface 86 (.pointer (some (E 3))), .iface 86 (.pointer (some (E 4))), .iface 86 (.pointer (some (E 5))), .iface 86 (.pointer (some (E 6))), .iface 86 (.pointer (some (E 7))), .iface 86 (.pointer (some (E 8))), .iface 86 (.pointer (some (E 9))), .iface 86 (.pointer (some (E 10))), .iface 86 (.pointer (some (E 11))), .iface 86 (.pointer (some (E 1))), .iface 86 (.pointer (some (E 2))), .iface 86 (.pointer (some (E 0))), .iface 86 (.pointer (some (E 12))), .iface 86 (.pointer (some (E 13))), .iface 86 (.pointer (some (E 14))), .iface 86 (.pointer (some (E 15))), .iface 86 (.pointer (some (E 16))), .iface 86 (.pointer (some (E 17))), .iface 86 (.pointer (some (E 18))), .iface 86 (.pointer (some (E 19))), .iface 86 (.pointer (some (E 20))), .iface 86 (.pointer (some (E 21))), .iface 86 (.pointer (some (E 22))), .iface 86 (.pointer (some (E 23))), .iface 86 (.pointer (some (E 24)))] 28) = w1 at HB HE1 HC ⊢
    clear hnil HE
    clear c0 c1 c2 c3 c4 c5 c6 c7 c8 c9 c10 c11 c12 c13 c14 c15 c16 c17 c18 c19 c20 c21 c22 c23 c24
    go_loop [36] (fun x => ∃ k : Nat, k ≤ n ∧ x = .int .i64 (k : Int)) (fun x => 25 - (intOf x).toNat)
    case atStart => exact ⟨0, by omega, rfl⟩
    case round =>
      obtain ⟨k, hk, rfl⟩ := hrel
      have hk25 : k < 25 := by omega
      obtain ⟨h, hh, hhm⟩ : ∃ h, Pk (h = errG.getD k 0) ∧ Pk (h ∈ errG) := ⟨_, ⟨rfl⟩, ⟨errG_mem k hk25⟩⟩
      have hcell : w1.cell? ⟨w.heap.size, k, none⟩ = some (.iface 86 (.pointer (some (E h)))) := by rw [hh.out]; exact HC.out k hk25
      have heq := err_eql HE1.out HM.out hhm.out
      simp only [errV] at heq
      by_cases hkn : k = n
      · have : (g == h) = true := by rw [hg.out, hh.out, hkn]; exact beq_self_eq_true _
        rw [this] at heq
        clear this
        subst hkn
        go_wp2
        go_ret
        exact ⟨by first | rfl | simp, HB.out⟩
      · have : (g == h) = false := beq_false_of_ne (by rw [hg.out, hh.out]; exact fun e => hkn (errG_inj hlt hk25 e).symm)
        rw [this] at heq
        go_wp2
        exact ⟨⟨k + 1, by omega, by go_num⟩, by simp [intOf]; omega⟩
end Go.Proofs.YtdnmfgpladgjhaaDoor
