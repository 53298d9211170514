/- What an argument of a law is, opened: lists of lists of bytes. -/
import Derived.Test.YtejmbfoecacgmaaDoorRowKit
import Derived.Test.YtejmbfoecacgmaaDoorShL
import Derived.Deep.Slices
namespace Go.Proofs.YtejmbfoecacgmaaDoor
open Go Go.RowKit Go.ChangeShapes Go.WideShapes Go.Proofs.YtejmbfoecacgmaaDoor.Gf Go.Deep

theorem wt_elem {H : Type} {t e : TypeId} {elems spare : List (DataW H)} (hu : Tryd.prog.underlying t = some (.slice e)) (h : Wt t (.slice elems spare)) {d : DataW H} (hd : d ∈ elems) : Wt e d := by
  intro n hn
  refine h n ?_
  simp only [DataW.weights, hu]
  have key : ∀ (l : List (DataW H)), d ∈ l → n ∈ DataW.weightsAll Tryd.prog e l := fun l => by
    induction l with
    | nil => intro h; cases h
    | cons x l ih =>
      intro h
      simp only [DataW.weightsAll, List.mem_append]
      rcases List.mem_cons.1 h with rfl | h
      · exact Or.inl hn
      · exact Or.inr (ih h)
  simp [key elems hd]
theorem lists_cell {H : Type} {enc : TypeId × Value → H} {W : World} {base : Nat} {held : Bool} {v : Value} {y : DataW H × List MemPlace} {fuel : Nat}
    (hf : DataW.trod enc Tryd.prog W base (fun _ => true) held fuel 25 [v] = some y) (hw : Wt 25 y.1) :
    ∃ A c, ∃ K : List Sh, v = .slice A K.length c ∧ LL W A K ∧ K.length ≤ 5864062014634 ∧ ∀ x ∈ K, x.2.2.length ≤ 140737488351232 := by
  rcases open_slice1 Tryd.underlying25 (by kernel_rfl) hf with ⟨hcs, _⟩ | ⟨a, len, cap, m, n, V, D, Pl, hcs, hb, hl, hm, hmm, hx, hc⟩
  · simp at hcs
    exact ⟨none, 0, [], hcs, And.intro (Cs.nil _ _) (fun x hx => by simp at hx), by simp, fun x hx => by simp at hx⟩
  · simp at hcs hmm
    subst hcs hx
    have each : ∀ r, r < len → ∃ x : Sh, V r = hdr x ∧ RB W x.1 x.2.2 ∧ x.2.2.length ≤ 140737488351232 := fun r hr => by
      have hD : Wt 22 (D r) := wt_elem Tryd.underlying25 hw (List.mem_map.2 ⟨r, List.mem_range.2 hr, rfl⟩)
      obtain ⟨A, c, l, h1, h2, h3, h4⟩ := bytes_cell (hc r (by omega)).2 hD
      exact ⟨(A, c, l), h1, h2, h4⟩
    have hK : ∀ k, k ≤ len → ∃ K : List Sh, K.length = k ∧ ∀ r x, K[r]? = some x → V r = hdr x ∧ RB W x.1 x.2.2 ∧ x.2.2.length ≤ 140737488351232 := fun k => by
      induction k with
      | zero => intro _; exact ⟨[], rfl, fun r x h => by simp at h⟩
      | succ k ih =>
        intro hk
        obtain ⟨K, h1, h2⟩ := ih (by omega)
        obtain ⟨x, hx⟩ := each k (by omega)
        refine ⟨K ++ [x], by simp [h1], fun r z hr => ?_⟩
        rcases Nat.lt_or_ge r K.length with h | h
        · rw [List.getElem?_append_left h] at hr; exact h2 r z hr
        · rw [List.getElem?_append_right h] at hr
          cases hd : r - K.length with
          | zero =>
            rw [hd] at hr
            simp only [List.getElem?_cons_zero, Option.some.injEq] at hr
            subst hr
            obtain rfl : r = k := by omega
            exact hx
          | succ d => rw [hd] at hr; simp at hr
    obtain ⟨K, hKl, hK⟩ := hK len (Nat.le_refl _)
    have hB : Tryd.prog.bytesOf 22 = 24 := by kernel_rfl
    have z := hw _ (show (((List.range len).map D).length + ((List.range (m - len)).map fun j => D (len + j)).length) * Tryd.prog.bytesOf 22 ∈ _ by simp [DataW.weights, Tryd.underlying25])
    rw [hB] at z
    simp only [List.length_map, List.length_range] at z
    have z : (len + (m - len)) * 24 ≤ 140737488351232 := z
    refine ⟨some a, cap, K, by rw [hKl], And.intro ?_ ?_, by omega, ?_⟩
    · intro j u hu
      rw [List.getElem?_map] at hu
      cases hx : K[j]? with
      | none => rw [hx] at hu; cases hu
      | some x =>
        rw [hx] at hu
        simp only [Option.map_some, Option.some.injEq] at hu
        subst hu
        have hj : j < len := by
          rcases Nat.lt_or_ge j K.length with h | h
          · omega
          · rw [List.getElem?_eq_none h] at hx; cases hx
        exact ⟨a, rfl, by rw [← (hK j x hx).1]; exact (hc j (by omega)).1⟩
    · intro x hx
      obtain ⟨j, hj, rfl⟩ := List.getElem_of_mem hx
      exact (hK j _ (List.getElem?_eq_getElem hj)).2.1
    · intro x hx
      obtain ⟨j, hj, rfl⟩ := List.getElem_of_mem hx
      exact (hK j _ (List.getElem?_eq_getElem hj)).2.2
theorem open_lists {H : Type} {enc : TypeId × Value → H} {W : World} {base base' : Nat} {held : Bool} {v : Value} {d : DataW H} {ps : List MemPlace} {ts : List TypeId} {ds : List (DataW H)} {j : Nat}
    (hsz : (DataW.weightsEach Tryd.prog ts ds).all (· ≤ reachBytes) = true) (ht : ts[j]? = some 25) (hd : ds[j]? = some d)
    (hval : Value.okWide Tryd.prog W .any base' 25 v) (h : DataW.Trod enc Tryd.prog W base (fun _ => true) held 25 v d ps) :
    ∃ A c, ∃ K : List Sh, v = .slice A K.length c ∧ LL W A K ∧ K.length ≤ 5864062014634 ∧ ∀ x ∈ K, x.2.2.length ≤ 140737488351232 := by
  obtain ⟨a, len, cap, rfl⟩ := okWide_slice Tryd.underlying25 hval
  obtain ⟨fuel, hf⟩ := h
  exact lists_cell (y := (d, ps)) (by simpa [Value.cells] using hf) (wt_arg hsz j ht hd)
end Go.Proofs.YtejmbfoecacgmaaDoor
