/- append of bytes, told where the row lies behind it: where it lay, or in a new block. -/
import Derived.Test.YtdnmfgpladgjhaaDoorApB
namespace Go.Proofs.YtdnmfgpladgjhaaDoor
open Go Go.RowKit Go.Proofs.YtdnmfgpladgjhaaDoor.Gf
set_option linter.unusedVariables false
set_option linter.unusedSimpArgs false

section
variable {w : World} {ops : Array Oper} {rest : List Oper} {o : Oper} {a : Act} {Q : Exit → Act → World → Prop}
theorem app_bytes_f (base : Nat) (v : Value) (n : Nat) (l : List F) (hown : w.ownsRow base 5 1 v n (bvs l)) (hbase : base ≤ w.heap.size) (ao : Option Addr) (m c : Nat) (news : List F) (hl : news.length = m) (hnews : RB w ao news) (hb : n + m ≤ 140737488355328)
    (hgd : o.guard = none) {s x : Operand} (ho : o.op = .call { callee := .builtin .append, args := #[s, x], argTypes := #[26, 26] }) (hs : a.eval s = v) (hx : a.eval x = .slice ao m c)
    (h : ∀ v' w', w'.ownsRow base 5 1 v' (n + m) (bvs (l ++ news)) → Below base w w' → w.grownBy w' v.ownBlock → (∀ k, v'.ownBlock = some k → v.ownBlock = some k ∨ w.heap.size ≤ k) → wpList Tryd.prog ops Q rest (a.put o.dst v') w') : wpList Tryd.prog ops Q (o :: rest) a w := by
  obtain ⟨i8, hi, hz0, hz1, hz2⟩ := info_parts info8
  cases ao with
  | none =>
    have hn0 : news = [] := by
      rcases news with _ | ⟨y, t⟩
      · rfl
      · obtain ⟨a, h, _⟩ := RB.at hnews (j := 0) (by simp)
        cases h
    subst hn0
    obtain rfl : m = 0 := by rw [← hl]; rfl
    refine wpList_plain hgd fun K hK' => ?_
    have hrun := run_append_none (P := Tryd.prog) w base 26 o.type 5 i8 1 Tryd.underlying26 hi v n (bvs l) hown c
    unfold Oper.wp
    simp [execOp, ho, resolve, invoke, builtin, hs, hx, hrun, Result.andThen]
    exact hK' _ _ (h v w (by simpa using hown) (Below.refl _ _) (World.grownBy.refl _ _) (fun k hk => Or.inl hk))
  | some ad =>
    have hc : ∀ j u, (bvs news)[j]? = some u → w.cell? (ad.add j) = some u := fun j u hj => by
      obtain ⟨a', ha, hc⟩ := hnews j u hj
      cases ha
      exact hc
    by_cases hv : v = .slice none 0 0
    · subst hv
      obtain rfl : n = 0 := by
        rcases hown.2 with ⟨_, h0⟩ | ⟨g, cap, cur, hv, _⟩
        · exact h0
        · cases hv
      have hl0 : l = [] := by
        have := hown.1
        rw [bvs_length] at this
        exact List.length_eq_zero_iff.1 (by omega)
      subst hl0
      refine wpList_append_src hgd s x 26 ho w.heap.size 5 i8 (.int .u8 0) 1 Tryd.underlying26 hi hz0 hz1 hz2 rfl _ 0 [] hs (World.ownsRow_nil _ _ _ _) (some ad) m c (bvs news) hx (by rw [bvs_length]; exact hl) hnews (bvs_one _) (by unfold maxLen; omega) (by omega) (Nat.le_refl _) ?_
      intro v' w' h1 h2
      exact h v' w' (own_low (by simpa using h1) hbase) (below_grown h2 hbase (fun k hk => by cases hk)) h2 (fun k hk => Or.inr (h1.lt k hk).1)
    · obtain ⟨g, ex, rfl, hg, hh, hxl, hmx⟩ := own_blk hown (Or.inr hv)
      rw [bvs_length] at hxl
      refine wpList_append_piece hgd s x 26 ho 5 i8 (.int .u8 0) 1 Tryd.underlying26 hi hz0 hz1 hz2 rfl g n (n + ex.length) [] (bvs l) ex hs (by rw [bvs_length]; exact hxl) (by simpa using hh) ad m c (bvs news) hx (by rw [bvs_length]; exact hl) hc (bvs_one _) (Nat.le_refl _) (by unfold maxLen; omega) (by omega) ?_ ?_
      · intro hr w' h1 h2
        have hlen : (bvs (l ++ news)).length = n + m := by rw [bvs_length, List.length_append, hxl, hl]
        have hd : (ex.drop m).length = ex.length - m := List.length_drop
        have h3 := own_of_blk (w := w') (base := base) (e := 5) (g := g) (xs := bvs (l ++ news)) (ex := ex.drop m) hg (by rw [bvs_append]; simpa using h1) (by omega)
        rw [hlen, hd, show n + m + (ex.length - m) = n + ex.length by omega] at h3
        exact h _ w' h3 (below_grown h2 hbase (fun k hk => by cases hk; exact hg)) h2 (fun k hk => Or.inl hk)
      · intro hr v' w' h1 h2
        exact h v' w' (own_low (by rw [bvs_append]; exact h1) hbase) (below_grown h2 hbase (fun k hk => by cases hk)) (grown_made _ h2) (fun k hk => Or.inr (h1.lt k hk).1)
theorem push_byte_f (base : Nat) (v : Value) (n : Nat) (l : List F) (hown : w.ownsRow base 5 1 v n (bvs l)) (hbase : base ≤ w.heap.size) (b : F) (z : Int) (hz : z = i b) (hb : n + 1 ≤ 140737488355328)
    (hgd : o.guard = none) {s x : Operand} (ho : o.op = .call { callee := .builtin .append, args := #[s, x], argTypes := #[26, 26] }) (hs : a.eval s = v) (hx : a.eval x = .slice (some ⟨w.heap.size, 0, none⟩) 1 1)
    (h : ∀ v' w', w'.ownsRow base 5 1 v' (n + 1) (bvs (l ++ [b])) → Below base w w' → (∀ k, k < w.heap.size → v.ownBlock ≠ some k → w'.heap[k]? = w.heap[k]?) → (∀ k, v'.ownBlock = some k → v.ownBlock = some k ∨ w.heap.size ≤ k) → wpList Tryd.prog ops Q rest (a.put o.dst v') w') :
    wpList Tryd.prog ops Q (o :: rest) a (w.alloc (.cells #[.int .u8 z] 5)) := by
  subst hz
  refine app_bytes_f (w := w.alloc (.cells #[.int .u8 (i b)] 5)) base v n l (own_below hown (below_alloc _ _)) (Nat.le_trans hbase (by simp)) _ 1 1 [b] rfl (RB.lit [b] _ rfl rfl) hb hgd ho hs hx ?_
  intro v' w' h1 h2 h3 h4
  refine h v' w' h1 (((below_alloc w _).mono hbase).trans h2) (fun k hk hne => ?_) (fun k hk => (h4 k hk).imp id (fun q => by simp at q; omega))
  rw [h3.block k (by simp; omega) (fun e => hne (by first | exact e | exact e.symm)), Below.heap_alloc _ _ _ hk]
end
end Go.Proofs.YtdnmfgpladgjhaaDoor
