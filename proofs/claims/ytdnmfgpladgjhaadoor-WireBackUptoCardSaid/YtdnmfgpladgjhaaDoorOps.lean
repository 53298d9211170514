/- Lists of Op: as they are read; as an argument of a law, opened. -/
import Derived.Test.YtdnmfgpladgjhaaDoorRowKit
import Derived.Test.YtdnmfgpladgjhaaDoorRowU
import Derived.Test.YtdnmfgpladgjhaaDoorGen
import Derived.Deep.Slices
import Derived.Lib.SmallJoins
namespace Go.Proofs.YtdnmfgpladgjhaaDoor
open Go Go.RowKit Go.ChangeShapes Go.WideShapes Go.Proofs.YtdnmfgpladgjhaaDoor.Gf Go.Deep
set_option linter.unusedVariables false
set_option linter.unusedSimpArgs false

structure OpV where
  k : Int
  wh : Int
  n : Int
  A : Option Addr
  c : Nat
  l : List F
def ocells (x : OpV) : List Value := [.int .i64 x.k, .int .i64 x.wh, .int .i64 x.n, .slice x.A x.l.length x.c]
/-- An Op's fields within their bounds. -/
def OpV.fit (x : OpV) : Prop := (Lit.int .i64 x.k).wf = true ∧ (Lit.int .i64 x.wh).wf = true ∧ (Lit.int .i64 x.n).wf = true ∧ x.l.length ≤ x.c ∧ x.l.length ≤ 140737488351232
def OPS (w : World) (A : Option Addr) (H : List OpV) : Prop := ∀ t x, H[t]? = some x → (∃ a, A = some a ∧ ∀ j u, (ocells x)[j]? = some u → w.cell? ((a.add (t * 4)).add j) = some u) ∧ RB w x.A x.l
theorem OPS.mono {w w' : World} {A : Option Addr} {H : List OpV} (h : OPS w A H) (hb : Below w.heap.size w w') : OPS w' A H := fun t x hx => by
  obtain ⟨⟨a, ha, hc⟩, hr⟩ := h t x hx
  exact ⟨⟨a, ha, fun j u hu => (hb.cell (World.block_lt_of_cell? w _ (hc j u hu))).trans (hc j u hu)⟩, hr.mono hb⟩
theorem add_pos (b : Addr) {n : Nat} (h : n ≠ 0) : b.add n = ⟨b.block, b.off + n, none⟩ := by unfold Addr.add; rw [if_neg h]
theorem OPS.at {w : World} {A : Option Addr} {H : List OpV} (h : OPS w A H) {t : Nat} (ht : t < H.length) : ∃ a, A = some a ∧ w.cell? (a.add (t * 4)) = some (.int .i64 H[t].k) ∧ w.cell? ⟨(a.add (t * 4)).block, (a.add (t * 4)).off + 1, none⟩ = some (.int .i64 H[t].wh) ∧
    w.cell? ⟨(a.add (t * 4)).block, (a.add (t * 4)).off + 2, none⟩ = some (.int .i64 H[t].n) ∧ w.cell? ⟨(a.add (t * 4)).block, (a.add (t * 4)).off + 3, none⟩ = some (.slice H[t].A H[t].l.length H[t].c) ∧ RB w H[t].A H[t].l := by
  obtain ⟨⟨a, ha, hc⟩, hr⟩ := h t _ (List.getElem?_eq_getElem ht)
  have h0 := hc 0 _ rfl
  have ha0 : ∀ b : Addr, b.add 0 = b := fun b => by unfold Addr.add; split <;> simp_all
  rw [ha0] at h0
  exact ⟨a, ha, h0, by rw [← add_pos _ (by decide)]; exact hc 1 _ rfl, by rw [← add_pos _ (by decide)]; exact hc 2 _ rfl, by rw [← add_pos _ (by decide)]; exact hc 3 _ rfl, hr⟩
theorem OPS.nil (w : World) (A : Option Addr) : OPS w A [] := fun t x h => by simp at h
def opsSum (H : List OpV) : Nat := (H.map fun x => x.l.length + 1).sum

theorem bulkAll_append {H : Type} (l m : List (DataW H)) : Rows.uptoBulkAll (l ++ m) = Rows.uptoBulkAll l + Rows.uptoBulkAll m := by
  induction l with
  | nil => simp [Rows.uptoBulkAll]
  | cons x l ih => simp only [List.cons_append, Rows.uptoBulkAll, ih]; omega
theorem wt_elem {H : Type} {t e : TypeId} {elems spare : List (DataW H)} (hu : Tryd.prog.underlying t = some (.slice e)) (h : Wt t (.slice elems spare)) {d : DataW H} (hd : d ∈ elems) : Wt e d := by
  intro n hn
  refine h n ?_
  simp only [DataW.weights, hu]
  have key : ∀ (l : List (DataW H)), d ∈ l → n ∈ DataW.weightsAll Tryd.prog e l := fun l => by
    induction l with
    | nil => intro h; cases h
    | cons x l ih =>
      intro h
      simp only [DataW.weightsAll, List.mem_append]
      rcases List.mem_cons.1 h with rfl | h
      · exact Or.inl hn
      · exact Or.inr (ih h)
  simp [key elems hd]
/-- One Op. -/
theorem op_cell {H : Type} {enc : TypeId × Value → H} {W : World} {base : Nat} {held : Bool} {a : Addr} {cs : List Value} {y : DataW H × List MemPlace} {n : Nat}
    (hc : W.cells? base a (Tryd.prog.cellsOf 38) = some cs) (hf : DataW.trod enc Tryd.prog W base (fun _ => true) held n 38 cs = some y) (hw : Wt 38 y.1) :
    ∃ x : OpV, x.fit ∧ (∀ j u, (ocells x)[j]? = some u → W.cell? (a.add j) = some u) ∧ RB W x.A x.l ∧ x.l.length + 1 ≤ Rows.uptoBulk y.1 := by
  obtain ⟨y0, y1, y2, y3, m, rfl, hlen, h0, h1, h2, h3⟩ := Joins.trod_struct4 Tryd.underlying38 hf
  have h4 : Tryd.prog.cellsOf 38 = 4 := by kernel_rfl
  rw [h4] at hc hlen
  have k1 : Tryd.prog.cellsOf 3 = 1 := by kernel_rfl
  have k2 : Tryd.prog.cellsOf 26 = 1 := by kernel_rfl
  match cs, hlen with
  | [c0, c1, c2, c3], _ =>
    simp only [k1, k2] at h0 h1 h2 h3
    obtain ⟨x0, rfl, w0⟩ := int_cell (y := y0) (by simpa using h0)
    obtain ⟨x1, rfl, w1⟩ := int_cell (y := y1) (by simpa using h1)
    obtain ⟨x2, rfl, w2⟩ := int_cell (y := y2) (by simpa using h2)
    have hw3 : Wt 26 y3.1 := wt_field Tryd.underlying38 hw 3 rfl rfl
    obtain ⟨A, c, l, rfl, hr, hlc, hll⟩ := bytes_cell (y := y3) (by simpa using h3) hw3
    have hbk := bulk_slice (d := y3.1) (ps := y3.2) (n := l.length) (A := A) (c := c) Tryd.underlying26 ⟨m, by simpa [Value.cells] using h3⟩
    obtain ⟨_, _, hcell⟩ := World.cells?_some hc
    refine ⟨⟨x0, x1, x2, A, c, l⟩, ⟨w0, w1, w2, hlc, hll⟩, fun j u hu => ?_, hr, ?_⟩
    · have hj : j < 4 := by
        rcases Nat.lt_or_ge j 4 with h | h
        · exact h
        · rw [List.getElem?_eq_none (by simpa [ocells] using h)] at hu; cases hu
      rw [hcell j hj]; exact hu
    · simp only [Rows.uptoBulk, Rows.uptoBulkAll]; omega
/-- A list of Op. -/
theorem ops_cells {H : Type} {enc : TypeId × Value → H} {W : World} {base : Nat} {held : Bool} {v : Value} {y : DataW H × List MemPlace} {fuel : Nat}
    (hf : DataW.trod enc Tryd.prog W base (fun _ => true) held fuel 33 [v] = some y) (hw : Wt 33 y.1) :
    ∃ A c, ∃ K : List OpV, v = .slice A K.length c ∧ OPS W A K ∧ K.length ≤ c ∧ (∀ x ∈ K, x.fit) ∧ opsSum K ≤ Rows.uptoBulk y.1 ∧ c ≤ maxLen := by
  rcases open_slice Tryd.underlying33 hf with ⟨hcs, hy⟩ | ⟨a, len, cap, m, n, D, Pl, hcs, hb, hl, hm, hmm, hx, hc⟩
  · simp at hcs
    exact ⟨none, 0, [], hcs, OPS.nil _ _, Nat.le_refl _, fun x hx => by simp at hx, by simp [opsSum], by unfold maxLen; omega⟩
  · simp at hcs hmm
    subst hcs hx
    have h4 : Tryd.prog.cellsOf 38 = 4 := by kernel_rfl
    have each : ∀ r, r < len → ∃ x : OpV, x.fit ∧ (∀ j u, (ocells x)[j]? = some u → W.cell? ((a.add (r * 4)).add j) = some u) ∧ RB W x.A x.l ∧ x.l.length + 1 ≤ Rows.uptoBulk (D r) := fun r hr => by
      have hD : Wt 38 (D r) := wt_elem Tryd.underlying33 hw (List.mem_map.2 ⟨r, List.mem_range.2 hr, rfl⟩)
      obtain ⟨cs', h1, h2⟩ := hc r (by omega)
      rw [show r * Tryd.prog.cellsOf 38 = r * 4 by rw [h4]] at h1
      exact op_cell (y := (D r, Pl r)) h1 h2 hD
    have hK : ∀ k, k ≤ len → ∃ K : List OpV, K.length = k ∧ (∀ r x, K[r]? = some x → x.fit ∧ (∀ j u, (ocells x)[j]? = some u → W.cell? ((a.add (r * 4)).add j) = some u) ∧ RB W x.A x.l) ∧ opsSum K ≤ Rows.uptoBulkAll ((List.range k).map D) := fun k => by
      induction k with
      | zero => intro _; exact ⟨[], rfl, fun r x h => by simp at h, by simp [opsSum]⟩
      | succ k ih =>
        intro hk
        obtain ⟨K, h1, h2, h3⟩ := ih (by omega)
        obtain ⟨x, hx1, hx2, hx3, hx4⟩ := each k (by omega)
        refine ⟨K ++ [x], by simp [h1], fun r z hr => ?_, ?_⟩
        · rcases Nat.lt_or_ge r K.length with h | h
          · rw [List.getElem?_append_left h] at hr; exact h2 r z hr
          · rw [List.getElem?_append_right h] at hr
            cases hd : r - K.length with
            | zero =>
              rw [hd] at hr
              simp only [List.getElem?_cons_zero, Option.some.injEq] at hr
              subst hr
              obtain rfl : r = k := by omega
              exact ⟨hx1, hx2, hx3⟩
            | succ d => rw [hd] at hr; simp at hr
        · rw [List.range_succ, List.map_append, bulkAll_append]
          simp only [opsSum, List.map_append, List.sum_append, List.map_cons, List.map_nil, List.sum_cons, List.sum_nil, Rows.uptoBulkAll] at h3 ⊢
          omega
    obtain ⟨K, hKl, hK, hKs⟩ := hK len (Nat.le_refl _)
    refine ⟨some a, cap, K, by rw [hKl], fun t x hx => ?_, by omega, fun x hx => ?_, ?_, hm⟩
    · obtain ⟨_, h2, h3⟩ := hK t x hx
      exact ⟨⟨a, rfl, h2⟩, h3⟩
    · obtain ⟨j, hj, rfl⟩ := List.getElem_of_mem hx
      exact (hK j _ (List.getElem?_eq_getElem hj)).1
    · simp only [Rows.uptoBulk]; omega
theorem open_ops {H : Type} {enc : TypeId × Value → H} {W : World} {base base' : Nat} {held : Bool} {v : Value} {d : DataW H} {ps : List MemPlace} {ts : List TypeId} {ds : List (DataW H)} {j : Nat}
    (hsz : (DataW.weightsEach Tryd.prog ts ds).all (· ≤ reachBytes) = true) (ht : ts[j]? = some 33) (hd : ds[j]? = some d)
    (hval : Value.okWide Tryd.prog W .any base' 33 v) (h : DataW.Trod enc Tryd.prog W base (fun _ => true) held 33 v d ps) :
    ∃ A c, ∃ K : List OpV, v = .slice A K.length c ∧ OPS W A K ∧ K.length ≤ c ∧ (∀ x ∈ K, x.fit) ∧ opsSum K ≤ Rows.uptoBulk d ∧ c ≤ maxLen := by
  obtain ⟨a, len, cap, rfl⟩ := okWide_slice Tryd.underlying33 hval
  obtain ⟨fuel, hf⟩ := h
  exact ops_cells (y := (d, ps)) (by simpa [Value.cells] using hf) (wt_arg hsz j ht hd)
end Go.Proofs.YtdnmfgpladgjhaaDoor
