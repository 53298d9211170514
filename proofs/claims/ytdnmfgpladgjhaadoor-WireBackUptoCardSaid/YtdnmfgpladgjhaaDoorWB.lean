/- slices.Clone, Sum, the writer. -/
import Derived.Test.YtdnmfgpladgjhaaDoorWA
import Derived.Test.YtdnmfgpladgjhaaDoorGenE
namespace Go.Proofs.YtdnmfgpladgjhaaDoor
open Go Go.RowKit Go.Proofs.YtdnmfgpladgjhaaDoor.Gf
set_option linter.unusedVariables false
set_option linter.unusedSimpArgs false

/-- slices.Clone of bytes. -/
theorem clone_calls (A : Option Addr) (n ca : Nat) (la : List F) (w : World) (hn : la.length = n) (ha : RB w A la) (hl : n ≤ 140737488355328) :
    Calls Tryd.prog 38 #[.slice A n ca] w fun e w' => ∃ v, e = .returned v ∧ w'.ownsRow w.heap.size 5 1 v n (bvs la) ∧ Below w.heap.size w w' := by
  have HA := Pk.mk ha
  have HN := Pk.mk hn
  clear ha hn
  cases A with
  | none =>
    have hl0 : la = [] := by
      rcases la with _ | ⟨x, l⟩
      · rfl
      · obtain ⟨a, h, _⟩ := RB.at HA.out (j := 0) (by simp)
        cases h
    subst hl0
    have hn0 : n = 0 := by rw [← HN.out]; rfl
    subst hn0
    have hnil := Lib.run_eql_slice_nil (P := Tryd.prog) w 26 5 none 0 ca 0 0 Tryd.underlying26
    go_enter Tryd.func38, Tryd.ntmps38
    go_wp2
    go_ret
    exact ⟨_, rfl, World.ownsRow_nil _ _ _ _, Below.refl _ _⟩
  | some a =>
    have hnil := Lib.run_eql_slice_nil (P := Tryd.prog) w 26 5 (some a) n ca 0 0 Tryd.underlying26
    go_enter Tryd.func38, Tryd.ntmps38
    go_wp2_with ((with_reducible refine gate_b (b := .append) rfl ?_); refine Pk.out ?_)
    refine ⟨?_⟩
    clear hnil
    refine app_bytes w.heap.size _ 0 [] (own_empty w) (by simp) (some a) n ca la HN.out (HA.out.mono (below_alloc _ _)) (by omega) rfl rfl rfl rfl ?_
    intro v3 w3 ho3 hb3 _
    have HO3 := Pk.mk (show w3.ownsRow w.heap.size 5 1 v3 n (bvs la) by rw [Nat.zero_add, List.nil_append] at ho3; exact ho3)
    have HB3 := Pk.mk ((below_alloc w (.cells #[] 5)).trans (hb3.mono (Nat.le_refl _)))
    clear ho3 hb3
    go_wp2
    go_ret
    exact ⟨_, rfl, HO3.out, HB3.out⟩

theorem wraps_u32 (n : Int) (h0 : 0 ≤ n) (h1 : n < 2 ^ 32) : IntKind.u32.wrap n = n := by rw [IntKind.wrap_u32]; omega
theorem wraps_u64 (n : Int) (h0 : 0 ≤ n) (h1 : n < 2 ^ 64) : IntKind.u64.wrap n = n := by rw [IntKind.wrap_u64]; omega
/-- The sum of bytes. -/
theorem sum_step_u32 (s : Nat) (c : F) (h : s < 4294967296) : bits .xor .u32 (s : Int) (i c % 4294967296) * 16777619 % 4294967296 = (sumS s c : Nat) := by
  have hc := c.toNat_lt
  have hi : i c % 4294967296 = ((c.toNat : Nat) : Int) := by unfold i; omega
  rw [hi, xor_nat .u32 32 (by decide) wraps_u32 s c.toNat (by omega) (by omega)]
  unfold sumS
  omega
set_option maxRecDepth 100000 in
theorem wireSum_calls (A : Option Addr) (n ca : Nat) (la : List F) (w : World) (hn : la.length = n) (ha : RB w A la) (hl : n ≤ 140737488355328) :
    Calls Tryd.prog 34 #[.slice A n ca] w fun e w' => e = .returned (.int .u32 (sumB la : Nat)) ∧ w = w' := by
  have HA := Pk.mk ha
  have HN := Pk.mk hn
  clear ha hn
  go_enter Tryd.func34, Tryd.ntmps34
  go_wp2
  go_loop [8, 3] (fun x s => ∃ t : Nat, t ≤ n ∧ x = .int .i64 (t : Int) ∧ ∃ z : Nat, s = .int .u32 (z : Int) ∧ Pk (z = sumB (la.take t))) (fun x _ => n - (intOf x).toNat)
  case atStart => exact ⟨0, Nat.zero_le _, rfl, 2166136261, rfl, ⟨rfl⟩⟩
  case round =>
    obtain ⟨t, ht, rfl, z, rfl, Hz⟩ := hrel
    by_cases hlt : t < n
    · have hlt' : t < la.length := by rw [HN.out]; exact hlt
      obtain ⟨a, rfl, hc⟩ := RB.at HA.out hlt'
      have Hs := Pk.mk (show sumS z la[t] = sumB (la.take (t + 1)) by rw [List.take_succ_eq_append_getElem hlt', sumB_snoc, Hz.out])
      have hst := sum_step_u32 z la[t] (by rw [Hz.out]; exact sumB_lt _)
      generalize la[t] = b at *
      generalize sumS z b = z2 at *
      go_wp2
      go_round
      · exact ⟨t + 1, by omega, by go_num, z2, by first | rfl | rw [hst], Hs⟩
      · simp [intOf]; omega
    · have hte : t = n := by omega
      subst hte
      have hz : z = sumB la := by rw [Hz.out, List.take_of_length_le (by rw [HN.out]; exact Nat.le_refl _)]
      subst hz
      go_wp2
      go_ret
      exact ⟨rfl, rfl⟩

/-! ### the writer -/
/-- A writer's two blocks. -/
structure Wr (B : Nat) (w : World) (g : Nat) (v : Value) (l : List F) (sp : Bool) : Prop where
  base : B ≤ g
  cell : w.heap[g]? = some (.cells #[v, .bool sp] 74 (0, 0))
  own : w.ownsRow B 5 1 v l.length (bvs l)
/-- What a call on a writer changes. -/
structure FrW (g : Nat) (v : Value) (w w' : World) (v' : Value) : Prop where
  os : w'.os = w.os
  tape : w'.tape = w.tape
  output : w'.output = w.output
  size : w.heap.size ≤ w'.heap.size
  block : ∀ k, k < w.heap.size → k ≠ g → v.ownBlock ≠ some k → w'.heap[k]? = w.heap[k]?
  fresh : ∀ k, v'.ownBlock = some k → v.ownBlock = some k ∨ w.heap.size ≤ k
theorem FrW.refl (g : Nat) (v : Value) (w : World) : FrW g v w w v := ⟨rfl, rfl, rfl, Nat.le_refl _, fun _ _ _ _ => rfl, fun k h => Or.inl h⟩
theorem FrW.trans {g : Nat} {v v1 v2 : Value} {w w1 w2 : World} (h : FrW g v w w1 v1) (k : FrW g v1 w1 w2 v2) : FrW g v w w2 v2 where
  os := k.os.trans h.os
  tape := k.tape.trans h.tape
  output := k.output.trans h.output
  size := Nat.le_trans h.size k.size
  block := fun j hj hg hv => (k.block j (Nat.lt_of_lt_of_le hj h.size) hg (fun e => by
    rcases h.fresh j e with e | e
    · exact hv e
    · omega)).trans (h.block j hj hg hv)
  fresh := fun j hj => by
    rcases k.fresh j hj with e | e
    · exact h.fresh j e
    · exact Or.inr (Nat.le_trans h.size e)
theorem FrW.below {B g : Nat} {v v' : Value} {l : List F} {sp : Bool} {w w' : World} (h : FrW g v w w' v') (hw : Wr B w g v l sp) (hB : B ≤ w.heap.size) : Below B w w' :=
  ⟨h.os, h.tape, h.output, h.size, fun k hk => h.block k (by omega) (by have := hw.base; omega) (fun e => by have := (hw.own.lt k e).1; omega)⟩
theorem Wr.lt {B : Nat} {w : World} {g : Nat} {v : Value} {l : List F} {sp : Bool} (h : Wr B w g v l sp) : g < w.heap.size := (Array.getElem?_eq_some_iff.1 h.cell).1
theorem Wr.ne {B : Nat} {w : World} {g : Nat} {v : Value} {l : List F} {sp : Bool} (h : Wr B w g v l sp) : v.ownBlock ≠ some g := by
  rcases h.own.2 with ⟨rfl, _⟩ | ⟨g', cap, cur, rfl, _, hh, _⟩
  · simp [Value.ownBlock]
  · intro e
    simp only [Value.ownBlock, Option.some.injEq] at e
    subst e
    have := hh.symm.trans h.cell
    simp at this
theorem Wr.mono {B : Nat} {w w' : World} {g : Nat} {v : Value} {l : List F} {sp : Bool} (h : Wr B w g v l sp) (hb : Below w.heap.size w w') : Wr B w' g v l sp :=
  ⟨h.base, (hb.block g h.lt).trans h.cell, own_below h.own hb⟩
theorem Wr.keep {B : Nat} {w w' : World} {g : Nat} {v : Value} {l : List F} {sp : Bool} (h : Wr B w g v l sp) (h1 : w'.heap[g]? = w.heap[g]?) (h2 : ∀ k, v.ownBlock = some k → w'.heap[k]? = w.heap[k]?) : Wr B w' g v l sp := by
  refine ⟨h.base, h1.trans h.cell, h.own.1, ?_⟩
  rcases h.own.2 with h3 | ⟨g', cap, cur, hv, hg, hh, r⟩
  · exact Or.inl h3
  · exact Or.inr ⟨g', cap, cur, hv, hg, (h2 g' (by rw [hv]; rfl)).trans hh, r⟩
/-- Another writer's calls leave this one. -/
theorem Wr.off {B : Nat} {w w' : World} {g g2 : Nat} {v v2 v2' : Value} {l l2 : List F} {sp sp2 : Bool} {B2 : Nat} (h : Wr B w g v l sp) (h2 : Wr B2 w g2 v2 l2 sp2) (hf : FrW g2 v2 w w' v2') (hne : g ≠ g2) (hv : ∀ k, v.ownBlock = some k → v2.ownBlock ≠ some k) : Wr B w' g v l sp := by
  have hv2 : v2.ownBlock ≠ some g := by
    intro e
    rcases h2.own.2 with ⟨rfl, _⟩ | ⟨g', cap, cur, rfl, _, hh, _⟩
    · simp [Value.ownBlock] at e
    · simp only [Value.ownBlock, Option.some.injEq] at e
      subst e
      have := hh.symm.trans h.cell
      simp at this
  have hv1 : v.ownBlock ≠ some g2 := by
    intro e
    rcases h.own.2 with ⟨rfl, _⟩ | ⟨g', cap, cur, rfl, _, hh, _⟩
    · simp [Value.ownBlock] at e
    · simp only [Value.ownBlock, Option.some.injEq] at e
      subst e
      have := hh.symm.trans h2.cell
      simp at this
  exact h.keep (hf.block g h.lt hne hv2) (fun k hk => hf.block k (h.own.lt k hk).2 (fun e => hv1 (e ▸ hk)) (hv k hk))
end Go.Proofs.YtdnmfgpladgjhaaDoor
