/- append, by the kind of its elements: bytes, ints, lists of bytes; to a row of one's own or to nothing. -/
import Derived.Test.YtejmbfoecacgmaaDoorInts
import Derived.Test.YtejmbfoecacgmaaDoorNum
namespace Go.Proofs.YtejmbfoecacgmaaDoor
open Go Go.RowKit Go.Proofs.YtejmbfoecacgmaaDoor.Gf
set_option linter.unusedVariables false
set_option linter.unusedSimpArgs false

theorem infoLB : ∃ i, Tryd.prog.info? 22 = some i ∧ i.zero = some (.slice none 0 0) ∧ i.size = 1 ∧ i.bytes = 24 := by
  have h : (Tryd.prog.info? 22).map (fun i => (i.zero, i.size, i.bytes)) = some (some (.slice none 0 0), 1, 24) := by kernel_rfl
  cases e : Tryd.prog.info? 22 with
  | none => rw [e] at h; cases h
  | some i => rw [e] at h; simp at h; exact ⟨i, rfl, h.1, h.2.1, h.2.2⟩
theorem own_low' {w : World} {base : Nat} {e : TypeId} {size : Nat} {v : Value} {n : Nat} {xs : List Value} (h : w.ownsRow base e size v n xs) {w0 : World} (hb : Below w0.heap.size w0 w) (hg : base = w0.heap.size) : base ≤ w.heap.size := hg ▸ hb.size
theorem grown_base {w w' : World} {base : Nat} {e : TypeId} {v : Value} {n : Nat} {xs : List Value} (hgr : w.grownBy w' v.ownBlock) (hown : w.ownsRow base e 1 v n xs) (hbase : base ≤ w.heap.size) : Below base w w' :=
  below_grown hgr hbase (fun k hk => (hown.lt k hk).1)

section
variable {w : World} {ops : Array Oper} {rest : List Oper} {o : Oper} {a : Act} {Q : Exit → Act → World → Prop}
/-- append(s, x...) of bytes. -/
theorem app_bytes (base : Nat) (v : Value) (n : Nat) (l : List F) (hown : w.ownsRow base 5 1 v n (bvs l)) (hbase : base ≤ w.heap.size) (ao : Option Addr) (m c : Nat) (news : List F) (hl : news.length = m) (hnews : RB w ao news) (hb : n + m ≤ 140737488355328)
    (hgd : o.guard = none) {s x : Operand} (ho : o.op = .call { callee := .builtin .append, args := #[s, x], argTypes := #[22, 22] }) (hs : a.eval s = v) (hx : a.eval x = .slice ao m c)
    (h : ∀ v' w', w'.ownsRow base 5 1 v' (n + m) (bvs (l ++ news)) → Below base w w' → w.grownBy w' v.ownBlock → wpList Tryd.prog ops Q rest (a.put o.dst v') w') : wpList Tryd.prog ops Q (o :: rest) a w := by
  obtain ⟨i8, hi, hz0, hz1, hz2⟩ := info_parts info8
  refine wpList_append_src hgd s x 22 ho base 5 i8 (.int .u8 0) 1 Tryd.underlying22 hi hz0 hz1 hz2 rfl v n (bvs l) hs hown ao m c (bvs news) hx (by rw [bvs_length]; exact hl) hnews (bvs_one _) (by unfold maxLen; omega) (by omega) hbase ?_
  intro v' w' h1 h2
  exact h v' w' (by rw [bvs_append]; exact h1) (grown_base h2 hown hbase) h2
/-- append(s, x) of one byte, which lies in a block just made. -/
theorem push_byte (base : Nat) (v : Value) (n : Nat) (l : List F) (hown : w.ownsRow base 5 1 v n (bvs l)) (hbase : base ≤ w.heap.size) (b : F) (z : Int) (hz : z = i b) (hb : n + 1 ≤ 140737488355328)
    (hgd : o.guard = none) {s x : Operand} (ho : o.op = .call { callee := .builtin .append, args := #[s, x], argTypes := #[22, 22] }) (hs : a.eval s = v) (hx : a.eval x = .slice (some ⟨w.heap.size, 0, none⟩) 1 1)
    (h : ∀ v' w', w'.ownsRow base 5 1 v' (n + 1) (bvs (l ++ [b])) → Below base w w' → (∀ k, k < w.heap.size → v.ownBlock ≠ some k → w'.heap[k]? = w.heap[k]?) → wpList Tryd.prog ops Q rest (a.put o.dst v') w') :
    wpList Tryd.prog ops Q (o :: rest) a (w.alloc (.cells #[.int .u8 z] 5)) := by
  subst hz
  refine app_bytes (w := w.alloc (.cells #[.int .u8 (i b)] 5)) base v n l (own_below hown (below_alloc _ _)) (Nat.le_trans hbase (by simp)) _ 1 1 [b] rfl (RB.lit [b] _ rfl rfl) hb hgd ho hs hx ?_
  intro v' w' h1 h2 h3
  refine h v' w' h1 (((below_alloc w _).mono hbase).trans h2) (fun k hk hne => ?_)
  rw [h3.block k (by simp; omega) (fun e => hne (by first | exact e | exact e.symm)), Below.heap_alloc _ _ _ hk]
/-- append(s, x) of one int, which lies in a block just made. -/
theorem push_int (base : Nat) (v : Value) (n : Nat) (l : List Int) (hown : w.ownsRow base 3 1 v n (ivs l)) (hbase : base ≤ w.heap.size) (z : Int) (hb : n + 1 ≤ 14073748835532)
    (hgd : o.guard = none) {s x : Operand} (ho : o.op = .call { callee := .builtin .append, args := #[s, x], argTypes := #[46, 46] }) (hs : a.eval s = v) (hx : a.eval x = .slice (some ⟨w.heap.size, 0, none⟩) 1 1)
    (h : ∀ v' w', w'.ownsRow base 3 1 v' (n + 1) (ivs (l ++ [z])) → Below base w w' → (∀ k, k < w.heap.size → v.ownBlock ≠ some k → w'.heap[k]? = w.heap[k]?) → wpList Tryd.prog ops Q rest (a.put o.dst v') w') :
    wpList Tryd.prog ops Q (o :: rest) a (w.alloc (.cells #[.int .i64 z] 3)) := by
  obtain ⟨i8, hi, hz0, hz1, hz2⟩ := infoI
  refine wpList_append_src (w := w.alloc (.cells #[.int .i64 z] 3)) hgd s x 46 ho base 3 i8 (.int .i64 0) 8 Tryd.underlying46 hi hz0 hz1 hz2 rfl v n (ivs l) hs (own_below hown (below_alloc _ _)) _ 1 1 (ivs [z]) hx rfl (Cs.of_blk (ex := []) (heap_alloc_new _ _)) (ivs_one _) (by unfold maxLen; omega) (by omega) (Nat.le_trans hbase (by simp)) ?_
  intro v' w' h1 h2
  refine h v' w' (by rw [ivs_append]; exact h1) (((below_alloc w _).mono hbase).trans (grown_base h2 (own_below hown (below_alloc _ _)) (Nat.le_trans hbase (by simp)))) (fun k hk hne => ?_)
  rw [h2.block k (by simp; omega) (fun e => hne (by first | exact e | exact e.symm)), Below.heap_alloc _ _ _ hk]
/-- append(s, x) of one list of bytes, whose header lies in a block just made. -/
theorem push_list (base : Nat) (v : Value) (n : Nat) (l : List Value) (hown : w.ownsRow base 22 1 v n l) (hbase : base ≤ w.heap.size) (A : Option Addr) (hn hc : Nat) (hb : n + 1 ≤ 5864062014805)
    (hgd : o.guard = none) {s x : Operand} (ho : o.op = .call { callee := .builtin .append, args := #[s, x], argTypes := #[25, 25] }) (hs : a.eval s = v) (hx : a.eval x = .slice (some ⟨w.heap.size, 0, none⟩) 1 1)
    (h : ∀ v' w', w'.ownsRow base 22 1 v' (n + 1) (l ++ [.slice A hn hc]) → Below base w w' → (∀ k, k < w.heap.size → v.ownBlock ≠ some k → w'.heap[k]? = w.heap[k]?) → wpList Tryd.prog ops Q rest (a.put o.dst v') w') :
    wpList Tryd.prog ops Q (o :: rest) a (w.alloc (.cells #[.slice A hn hc] 22)) := by
  obtain ⟨i8, hi, hz0, hz1, hz2⟩ := infoLB
  refine wpList_append_src (w := w.alloc (.cells #[.slice A hn hc] 22)) hgd s x 25 ho base 22 i8 (.slice none 0 0) 24 Tryd.underlying25 hi hz0 hz1 hz2 rfl v n l hs (own_below hown (below_alloc _ _)) _ 1 1 [.slice A hn hc] hx rfl (Cs.of_blk (ex := []) (heap_alloc_new _ _)) (by intro u hu; simp only [List.mem_singleton] at hu; subst hu; rfl) (by unfold maxLen; omega) (by omega) (Nat.le_trans hbase (by simp)) ?_
  intro v' w' h1 h2
  refine h v' w' h1 (((below_alloc w _).mono hbase).trans (grown_base h2 (own_below hown (below_alloc _ _)) (Nat.le_trans hbase (by simp)))) (fun k hk hne => ?_)
  rw [h2.block k (by simp; omega) (fun e => hne (by first | exact e | exact e.symm)), Below.heap_alloc _ _ _ hk]
end
end Go.Proofs.YtejmbfoecacgmaaDoor
