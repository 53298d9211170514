/- append of a string's bytes, told where the row lies behind it. -/
import Derived.Test.YtdnmfgpladgjhaaDoorApF
import Derived.Test.YtdnmfgpladgjhaaDoorConv
import Derived.Lib.AppendStr
namespace Go.Proofs.YtdnmfgpladgjhaaDoor
open Go Go.RowKit Go.Proofs.YtdnmfgpladgjhaaDoor.Gf
set_option linter.unusedVariables false
set_option linter.unusedSimpArgs false

theorem strCells_bs (l : List F) : Lib.strCells (bs l) = bvs l := by
  simp [Lib.strCells, bs, bvs, bv]
  intro a _
  rfl
section
variable {w : World} {ops : Array Oper} {rest : List Oper} {o : Oper} {a : Act} {Q : Exit → Act → World → Prop}
theorem app_string_f (base : Nat) (v : Value) (n : Nat) (l : List F) (hown : w.ownsRow base 5 1 v n (bvs l)) (hbase : base ≤ w.heap.size) (m : Nat) (news : List F) (hl : news.length = m) (hb : n + m ≤ 140737488355328)
    (hgd : o.guard = none) {s x : Operand} (ho : o.op = .call { callee := .builtin .append, args := #[s, x], argTypes := #[26, 9] }) (hs : a.eval s = v) (hx : a.eval x = .string (bs news))
    (h : ∀ v' w', w'.ownsRow base 5 1 v' (n + m) (bvs (l ++ news)) → Below base w w' → w.grownBy w' v.ownBlock → (∀ k, v'.ownBlock = some k → v.ownBlock = some k ∨ w.heap.size ≤ k) → wpList Tryd.prog ops Q rest (a.put o.dst v') w') : wpList Tryd.prog ops Q (o :: rest) a w := by
  obtain ⟨i8, hi, hz0, hz1, hz2⟩ := info_parts info8
  have hsz : (bs news).size = m := by rw [bs_size]; exact hl
  obtain ⟨v', w', hr, h2, h3, h4⟩ := Lib.run_append_own_string (P := Tryd.prog) (w := w) base 26 9 o.type 5 i8 Tryd.underlying26 Tryd.underlying9 hi hz0 hz1 hz2 v n (bvs l) hown (bs news) (by rw [hsz]; unfold maxLen; omega) (by rw [hsz]; exact hb) hbase
  rw [hsz, strCells_bs, ← bvs_append] at h2
  have hf : ∀ k, v'.ownBlock = some k → v.ownBlock = some k ∨ w.heap.size ≤ k := by
    rcases hown.2 with ⟨rfl, rfl⟩ | ⟨g, cap, cur, rfl, hbg, hg, hnc, hcm, hcs, htake⟩
    · have hl0 : l = [] := by
        have := hown.1
        rw [bvs_length] at this
        exact List.length_eq_zero_iff.1 (by omega)
      subst hl0
      obtain ⟨v2, w2, hr2, k2, _⟩ := Lib.run_append_own_string (P := Tryd.prog) (w := w) w.heap.size 26 9 o.type 5 i8 Tryd.underlying26 Tryd.underlying9 hi hz0 hz1 hz2 (.slice none 0 0) 0 [] (World.ownsRow_nil _ _ _ _) (bs news) (by rw [hsz]; unfold maxLen; omega) (by rw [hsz]; omega) (Nat.le_refl _)
      rw [hr] at hr2
      cases hr2
      exact fun k hk => Or.inr (k2.lt k hk).1
    · by_cases hroom : n + m ≤ cap
      · have hr2 := Lib.run_append_room_string (P := Tryd.prog) (w := w) 26 9 o.type 5 i8 Tryd.underlying26 Tryd.underlying9 hi hz1 g n cap cur hg (bs news) (by rw [hsz]; exact hroom) (by rw [hsz]; omega)
        rw [hr] at hr2
        cases hr2
        exact fun k hk => Or.inl hk
      · have hr2 := Lib.run_append_grow_string (P := Tryd.prog) (w := w) 26 9 o.type 5 i8 (.int .u8 0) Tryd.underlying26 Tryd.underlying9 hi hz0 ⟨g, 0, none⟩ n cap (bvs l) (by rw [hz1]; simpa using hown.1) (hown.cells (g := g) rfl) (bs news) (by rw [hsz]; omega) (by rw [hsz]; omega) (by rw [hz2]; exact growslice_fits (by rw [hsz]; omega) (by rw [hsz]; omega))
        rw [hr] at hr2
        cases hr2
        exact fun k hk => Or.inr (by simp only [Value.ownBlock, Option.some.injEq] at hk; omega)
  refine wpList_plain hgd fun K hK => ?_
  unfold Oper.wp execOp
  simp only [ho, resolve, invoke, builtin, Sem.run_bind, Sem.run_pure, Result.andThen_ok, List.map_toArray, List.map_cons, List.map_nil, hs, hx, hr]
  exact hK _ _ (h v' w' h2 (grown_base h3 hown hbase) h3 hf)
end
end Go.Proofs.YtdnmfgpladgjhaaDoor
