/- The writer's methods. -/
import Derived.Test.YtdnmfgpladgjhaaDoorWB
import Derived.Test.YtdnmfgpladgjhaaDoorApF
namespace Go.Proofs.YtdnmfgpladgjhaaDoor
open Go Go.RowKit Go.Proofs.YtdnmfgpladgjhaaDoor.Gf
set_option linter.unusedVariables false
set_option linter.unusedSimpArgs false

theorem newWriter_calls (w : World) :
    Calls Tryd.prog 11 #[] w fun e w' => ∃ g, e = .returned (.pointer (some ⟨g, 0, none⟩)) ∧ w.heap.size ≤ g ∧ Wr w.heap.size w' g (.slice none 0 0) [] false ∧ Below w.heap.size w w' := by
  go_enter Tryd.func11, Tryd.ntmps11
  go_wp2
  go_ret
  exact ⟨_, rfl, Nat.le_refl _, ⟨Nat.le_refl _, heap_alloc_new _ _, World.ownsRow_nil _ _ _ _⟩, below_alloc _ _⟩

theorem cell0 {w : World} {g : Nat} {v x : Value} {e : TypeId} {fr : Nat × Nat} (h : w.heap[g]? = some (.cells #[v, x] e fr)) : w.cell? ⟨g, 0, none⟩ = some v := by rw [cell_of_row _ _ _ _ _ _ h]; rfl
theorem cell1 {w : World} {g : Nat} {v x : Value} {e : TypeId} {fr : Nat × Nat} (h : w.heap[g]? = some (.cells #[v, x] e fr)) : w.cell? ⟨g, 1, none⟩ = some x := by rw [cell_of_row _ _ _ _ _ _ h]; rfl
theorem set0 {w : World} {g : Nat} {v x : Value} {e : TypeId} (y : Value) (h : w.heap[g]? = some (.cells #[v, x] e (0, 0))) : (w.setCell ⟨g, 0, none⟩ y).heap[g]? = some (.cells #[y, x] e (0, 0)) := by
  rw [heap_setCell_same w g 0 _ _ y h]; rfl
theorem set1 {w : World} {g : Nat} {v x : Value} {e : TypeId} (y : Value) (h : w.heap[g]? = some (.cells #[v, x] e (0, 0))) : (w.setCell ⟨g, 1, none⟩ y).heap[g]? = some (.cells #[v, y] e (0, 0)) := by
  rw [heap_setCell_same w g 1 _ _ y h]; rfl
/-- What is put behind, and the header written back. -/
theorem Wr.put {B : Nat} {w w2 : World} {g : Nat} {v v2 : Value} {l m : List F} {sp : Bool} {n : Nat} (h : Wr B w g v l sp) (hB : B ≤ w.heap.size) (hown : w2.ownsRow B 5 1 v2 n (bvs m)) (hn : m.length = n) (hb : Below B w w2) (hk : ∀ k, k < w.heap.size → v.ownBlock ≠ some k → w2.heap[k]? = w.heap[k]?)
    (hf : ∀ k, v2.ownBlock = some k → v.ownBlock = some k ∨ w.heap.size ≤ k) : Wr B (w2.setCell ⟨g, 0, none⟩ v2) g v2 m sp ∧ FrW g v w (w2.setCell ⟨g, 0, none⟩ v2) v2 := by
  subst hn
  have hc : w2.heap[g]? = some (.cells #[v, .bool sp] 74 (0, 0)) := (hk g h.lt h.ne).trans h.cell
  have hne : ∀ k, v2.ownBlock = some k → k ≠ g := fun k hk2 e => by
    subst e
    rcases hf k hk2 with e | e
    · exact h.ne e
    · have := h.lt; omega
  refine ⟨⟨h.base, set0 v2 hc, hown.1, ?_⟩, ⟨hb.os, hb.tape, hb.output, by simpa [World.setCell] using hb.size, fun k hk1 hk2 hk3 => ?_, hf⟩⟩
  · rcases hown.2 with h3 | ⟨g', cap, cur, hv, hg, hh, r⟩
    · exact Or.inl h3
    · exact Or.inr ⟨g', cap, cur, hv, hg, (heap_setCell_other w2 ⟨g, 0, none⟩ g' v2 (fun e => hne g' (by rw [hv]; rfl) e)).trans hh, r⟩
  · rw [heap_setCell_other w2 ⟨g, 0, none⟩ k v2 (fun e => hk2 e)]
    exact hk k hk1 hk3
theorem and127 (m : Nat) (h : m < 2 ^ 63) : bits .and .i64 (m : Int) 127 = (m : Int) % 128 := by
  have := bits_mask .i64 63 (by decide) wraps_i64 7 (by decide) m (by omega) (by exact_mod_cast h)
  simpa using this

theorem or128 : ∀ k : Fin 128, bits .or .u8 ((k.val : Nat) : Int) 128 = (k.val : Int) + 128 := by decide +kernel
theorem or128' (m : Nat) : bits .or .u8 ((m : Int) % 128) 128 = i (UInt8.ofNat (m % 128 + 128)) := by
  have h := or128 ⟨m % 128, Nat.mod_lt _ (by decide)⟩
  simp only at h
  rw [show ((m : Int) % 128) = ((m % 128 : Nat) : Int) by omega, h]
  unfold i
  rw [toNat_ofNat_lt (by omega)]
  omega
theorem i_ofNat {m : Nat} (h : m < 256) : (m : Int) = i (UInt8.ofNat m) := by unfold i; rw [toNat_ofNat_lt h]
set_option maxRecDepth 100000 in
set_option maxHeartbeats 4000000 in
theorem wnum_calls (B : Nat) (g : Nat) (v : Value) (l : List F) (sp : Bool) (n : Nat) (w : World) (hw : Wr B w g v l sp) (hB : B ≤ w.heap.size) (hn : n < 9223372036854775808) (hl : l.length ≤ 140737488355000) :
    Calls Tryd.prog 12 #[.pointer (some ⟨g, 0, none⟩), .int .i64 n] w fun e w' => e = .returned (.tuple #[]) ∧ ∃ v', Wr B w' g v' (l ++ numB n) sp ∧ FrW g v w w' v' := by
  have HW := Pk.mk hw
  clear hw
  go_enter Tryd.func12, Tryd.ntmps12
  go_wp2
  go_loopw [1] (fun x wr => ∃ (m : Nat) (l' : List F) (v' : Value), x = .int .i64 (m : Int) ∧ m < 9223372036854775808 ∧ l'.length ≤ 140737488355300 ∧ Pk (l' ++ numB m = l ++ numB n) ∧ Pk (Wr B wr g v' l' sp) ∧ Pk (FrW g v w wr v')) (fun x _ => (intOf x).toNat)
  case atStart => exact ⟨n, l, v, rfl, hn, by omega, ⟨rfl⟩, HW, ⟨FrW.refl _ _ _⟩⟩
  case round =>
    clear HW
    obtain ⟨m, l', v', rfl, hm, hl', HN, HW, HF⟩ := hrel
    have c0 := cell0 HW.out.cell
    have ha := and127 m (by omega)
    by_cases h : 127 < m
    · obtain ⟨b, Hb⟩ : ∃ b, Pk (b = UInt8.ofNat (m % 128 + 128)) := ⟨_, ⟨rfl⟩⟩
      have hor : bits .or .u8 ((m : Int) % 128) 128 = i b := by rw [Hb.out]; exact or128' m
      have HN2 := Pk.mk (show (l' ++ [b]) ++ numB (m / 128) = l ++ numB n by rw [← HN.out, numB_ge (n := m) (by omega), List.append_assoc, Hb.out]; rfl)
      have Hlen := Pk.mk (show (l' ++ [b]).length ≤ 140737488355300 by
        have h1 := congrArg List.length HN2.out
        have h2 := numB_pos (m / 128)
        have h3 := numB_len9 hn
        simp only [List.length_append, List.length_cons, List.length_nil] at h1 ⊢
        omega)
      clear Hb
      go_wp2_with ((with_reducible refine gate_b (b := .append) rfl ?_); refine Pk.out ?_)
      refine ⟨?_⟩
      clear c0 hor
      refine push_byte_f B v' l'.length l' HW.out.own (Nat.le_trans hB HF.out.size) b _ rfl (by omega) rfl rfl rfl rfl ?_
      intro v2 w2 hown hb hk hfr
      obtain ⟨X, cx, rfl, _, _, _⟩ := own_form hown
      have hP := Wr.put HW.out (Nat.le_trans hB HF.out.size) hown (by simp) hb hk hfr
      have HW2 := Pk.mk hP.1
      have HF2 := Pk.mk (HF.out.trans hP.2)
      have c1 := cell0 ((hk g HW.out.lt HW.out.ne).trans HW.out.cell)
      have c2 := frozen_of_row w2 g 0 _ _ ((hk g HW.out.lt HW.out.ne).trans HW.out.cell)
      clear hown hb hk hfr hP HW HF
      go_wp2
      go_roundw
      · exact ⟨m / 128, l' ++ [b], _, by first | rfl | (congr 1; omega), by omega, Hlen.out, HN2, HW2, HF2⟩
      · simp [intOf]; omega
    · have hi := i_ofNat (m := m) (by omega)
      have HN2 := Pk.mk (show l' ++ [UInt8.ofNat m] = l ++ numB n by rw [← HN.out, numB_lt (by omega)])
      have Hi := Pk.mk hi
      clear hi
      go_wp2_with ((with_reducible refine gate_b (b := .append) rfl ?_); refine Pk.out ?_)
      refine ⟨?_⟩
      clear c0
      refine push_byte_f B v' l'.length l' HW.out.own (Nat.le_trans hB HF.out.size) (UInt8.ofNat m) _ Hi.out (by omega) rfl rfl rfl rfl ?_
      intro v2 w2 hown hb hk hfr
      obtain ⟨X, cx, rfl, _, _, _⟩ := own_form hown
      have hP := Wr.put HW.out (Nat.le_trans hB HF.out.size) hown (by simp) hb hk hfr
      have HW2 := Pk.mk hP.1
      rw [HN2.out] at HW2
      have HF2 := Pk.mk (HF.out.trans hP.2)
      have c1 := cell0 ((hk g HW.out.lt HW.out.ne).trans HW.out.cell)
      have c2 := frozen_of_row w2 g 0 _ _ ((hk g HW.out.lt HW.out.ne).trans HW.out.cell)
      clear hown hb hk hfr hP HW HF
      go_wp2
      go_end0
      exact ⟨rfl, _, HW2.out, HF2.out⟩
end Go.Proofs.YtdnmfgpladgjhaaDoor
