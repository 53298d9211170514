/- Bytes turned into strings, told lengths; parts of a block. -/
import Derived.Test.YtdnmfgpladgjhaaDoorNum
import Derived.Lib.SmallJoins
namespace Go.Proofs.YtdnmfgpladgjhaaDoor
open Go Go.RowKit Go.Proofs.YtdnmfgpladgjhaaDoor.Gf
set_option linter.unusedVariables false
set_option linter.unusedSimpArgs false
theorem conv_bytes' {w : World} {A : Option Addr} {l : List F} {n : Nat} (c : Nat) (hn : l.length = n) (h : RB w A l) :
    (convert 26 9 (.slice A n c)).run Tryd.prog w = .ok (.string (bs l)) w := by subst hn; exact conv_bytes c h
/-- '[]byte("..")' of a constant: the block bears a mark. -/
theorem conv_const (w : World) (C : Array Value) (n c g : Nat) (hg : g = w.heap.size) :
    (convert 26 26 (.slice (some ⟨g, 0, none⟩) n c)).run Tryd.prog (w.alloc (.cells C 5)) = .ok (.slice (some ⟨g, 0, none⟩) n c) (w.alloc (.cells C 5 (C.size, C.size + 1))) :=
  Joins.run_convert_bytes_const_at w _ _ C n c g hg Tryd.underlying26 Tryd.underlying5
theorem rb_const (w : World) (l : List F) (g : Nat) (hg : g = w.heap.size) (C : Array Value) (hC : C = (bvs l).toArray) (fr : Nat × Nat) :
    RB (w.alloc (.cells C 5 fr)) (some ⟨g, 0, none⟩) l := by
  subst hg hC
  exact Cs.of_blk (ex := []) (by rw [List.append_nil]; exact heap_alloc_new _ _)
theorem BB.sub {w : World} {g : Nat} {l : List F} (h : BB w g l) (o n : Nat) : RB w (some ⟨g, o, none⟩) ((l.drop o).take n) := by
  intro j u hu
  refine ⟨_, rfl, ?_⟩
  have hj : ((l.drop o).take n)[j]?.map bv = some u := by rw [← bvs_get]; exact hu
  rw [List.getElem?_take] at hj
  split at hj
  · rw [List.getElem?_drop] at hj
    have hl : o + j < l.length := by
      by_cases hl : o + j < l.length
      · exact hl
      · rw [List.getElem?_eq_none (by omega)] at hj; cases hj
    have := BB.cell h hl
    rw [List.getElem?_eq_getElem hl] at hj
    simp only [Option.map_some, Option.some.injEq, bv_def] at hj
    rw [← hj, ← this]
    congr 1
    try (simp [Addr.add]; done)
    try rfl
  · cases hj
end Go.Proofs.YtdnmfgpladgjhaaDoor
