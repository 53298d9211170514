/- append of bytes, to a row of one's own. -/
import Derived.Test.YtdnmfgpladgjhaaDoorNum
namespace Go.Proofs.YtdnmfgpladgjhaaDoor
open Go Go.RowKit Go.Proofs.YtdnmfgpladgjhaaDoor.Gf
set_option linter.unusedVariables false
set_option linter.unusedSimpArgs false

theorem grown_base {w w' : World} {base : Nat} {e : TypeId} {v : Value} {n : Nat} {xs : List Value} (hgr : w.grownBy w' v.ownBlock) (hown : w.ownsRow base e 1 v n xs) (hbase : base ≤ w.heap.size) : Below base w w' :=
  below_grown hgr hbase (fun k hk => (hown.lt k hk).1)
section
variable {w : World} {ops : Array Oper} {rest : List Oper} {o : Oper} {a : Act} {Q : Exit → Act → World → Prop}
/-- append(s, x...) of bytes. -/
theorem app_bytes (base : Nat) (v : Value) (n : Nat) (l : List F) (hown : w.ownsRow base 5 1 v n (bvs l)) (hbase : base ≤ w.heap.size) (ao : Option Addr) (m c : Nat) (news : List F) (hl : news.length = m) (hnews : RB w ao news) (hb : n + m ≤ 140737488355328)
    (hgd : o.guard = none) {s x : Operand} (ho : o.op = .call { callee := .builtin .append, args := #[s, x], argTypes := #[26, 26] }) (hs : a.eval s = v) (hx : a.eval x = .slice ao m c)
    (h : ∀ v' w', w'.ownsRow base 5 1 v' (n + m) (bvs (l ++ news)) → Below base w w' → w.grownBy w' v.ownBlock → wpList Tryd.prog ops Q rest (a.put o.dst v') w') : wpList Tryd.prog ops Q (o :: rest) a w := by
  obtain ⟨i8, hi, hz0, hz1, hz2⟩ := info_parts info8
  refine wpList_append_src hgd s x 26 ho base 5 i8 (.int .u8 0) 1 Tryd.underlying26 hi hz0 hz1 hz2 rfl v n (bvs l) hs hown ao m c (bvs news) hx (by rw [bvs_length]; exact hl) hnews (bvs_one _) (by unfold maxLen; omega) (by omega) hbase ?_
  intro v' w' h1 h2
  exact h v' w' (by rw [bvs_append]; exact h1) (grown_base h2 hown hbase) h2
/-- append(s, x) of one byte, which lies in a block just made. -/
theorem push_byte (base : Nat) (v : Value) (n : Nat) (l : List F) (hown : w.ownsRow base 5 1 v n (bvs l)) (hbase : base ≤ w.heap.size) (b : F) (z : Int) (hz : z = i b) (hb : n + 1 ≤ 140737488355328)
    (hgd : o.guard = none) {s x : Operand} (ho : o.op = .call { callee := .builtin .append, args := #[s, x], argTypes := #[26, 26] }) (hs : a.eval s = v) (hx : a.eval x = .slice (some ⟨w.heap.size, 0, none⟩) 1 1)
    (h : ∀ v' w', w'.ownsRow base 5 1 v' (n + 1) (bvs (l ++ [b])) → Below base w w' → (∀ k, k < w.heap.size → v.ownBlock ≠ some k → w'.heap[k]? = w.heap[k]?) → wpList Tryd.prog ops Q rest (a.put o.dst v') w') :
    wpList Tryd.prog ops Q (o :: rest) a (w.alloc (.cells #[.int .u8 z] 5)) := by
  subst hz
  refine app_bytes (w := w.alloc (.cells #[.int .u8 (i b)] 5)) base v n l (own_below hown (below_alloc _ _)) (Nat.le_trans hbase (by simp)) _ 1 1 [b] rfl (RB.lit [b] _ rfl rfl) hb hgd ho hs hx ?_
  intro v' w' h1 h2 h3
  refine h v' w' h1 (((below_alloc w _).mono hbase).trans h2) (fun k hk hne => ?_)
  rw [h3.block k (by simp; omega) (fun e => hne (by first | exact e | exact e.symm)), Below.heap_alloc _ _ _ hk]
end
end Go.Proofs.YtdnmfgpladgjhaaDoor
