/- The writer's other methods; the document's Num and Bytes. -/
import Derived.Test.YtdnmfgpladgjhaaDoorWC
import Derived.Test.YtdnmfgpladgjhaaDoorApS
namespace Go.Proofs.YtdnmfgpladgjhaaDoor
open Go Go.RowKit Go.Proofs.YtdnmfgpladgjhaaDoor.Gf
set_option linter.unusedVariables false
set_option linter.unusedSimpArgs false

theorem wspoil_calls (B : Nat) (g : Nat) (v : Value) (l : List F) (sp : Bool) (n : Int) (w : World) (hw : Wr B w g v l sp) (hn : n < 0) :
    Calls Tryd.prog 12 #[.pointer (some ⟨g, 0, none⟩), .int .i64 n] w fun e w' => e = .returned (.tuple #[]) ∧ Wr B w' g v l true ∧ FrW g v w w' v := by
  have c1 := cell1 hw.cell
  have c2 := frozen_of_row w g 1 _ _ hw.cell
  have HF := Pk.mk (show Wr B (w.setCell ⟨g, 1, none⟩ (.bool true)) g v l true ∧ FrW g v w (w.setCell ⟨g, 1, none⟩ (.bool true)) v from by
    have hk : ∀ k, k ≠ g → (w.setCell ⟨g, 1, none⟩ (.bool true)).heap[k]? = w.heap[k]? := fun k hk => heap_setCell_other w ⟨g, 1, none⟩ k _ hk
    refine ⟨⟨hw.base, set1 _ hw.cell, hw.own.1, ?_⟩, ⟨rfl, rfl, rfl, by simp [World.setCell], fun k _ h1 _ => hk k h1, fun k h => Or.inl h⟩⟩
    rcases hw.own.2 with h3 | ⟨g', cap, cur, hv, hg, hh, r⟩
    · exact Or.inl h3
    · exact Or.inr ⟨g', cap, cur, hv, hg, (hk g' (fun e => hw.ne (by rw [hv, ← e]; rfl))).trans hh, r⟩)
  clear hw
  go_enter Tryd.func12, Tryd.ntmps12
  go_wp2
  exact bodyPost_ret (results_none rfl _ _ _) rfl ⟨rfl, HF.out.1, HF.out.2⟩

set_option maxRecDepth 100000 in
theorem wtext_calls (B : Nat) (g : Nat) (v : Value) (l : List F) (sp : Bool) (t : List F) (w : World) (hw : Wr B w g v l sp) (hB : B ≤ w.heap.size) (hl : l.length + t.length ≤ 140737488354000) :
    Calls Tryd.prog 16 #[.pointer (some ⟨g, 0, none⟩), .string (bs t)] w fun e w' => e = .returned (.tuple #[]) ∧ ∃ v', Wr B w' g v' (l ++ (numB t.length ++ t)) sp ∧ FrW g v w w' v' := by
  have HW := Pk.mk hw
  have hsz : (bs t).size = t.length := bs_size t
  clear hw
  go_enter Tryd.func16, Tryd.ntmps16
  go_wp2_with fail
  have q := wnum_calls B g v l sp t.length w HW.out hB (by omega) (by omega)
  with_reducible refine q.mono ?_
  clear q
  rintro e w1 ⟨rfl, v1, h1, hf1⟩
  have HW1 := Pk.mk h1
  have HF1 := Pk.mk hf1
  have c0 := cell0 h1.cell
  have h9 := numB_len9 (n := t.length) (by omega)
  obtain ⟨lw, Hlw⟩ : ∃ lw, Pk (l ++ numB t.length = lw) := ⟨_, ⟨rfl⟩⟩
  rw [Hlw.out] at HW1
  have HL := Pk.mk (show lw.length = l.length + (numB t.length).length by rw [← Hlw.out]; simp)
  clear h1 hf1 HW hsz
  go_wp2_with ((with_reducible refine gate_b (b := .append) rfl ?_); refine Pk.out ?_)
  refine ⟨?_⟩
  clear c0
  refine app_string_f B v1 _ lw HW1.out.own (Nat.le_trans hB HF1.out.size) t.length t rfl (by rw [HL.out]; omega) rfl rfl rfl rfl ?_
  intro v2 w2 hown hb hgr hfr
  obtain ⟨X, cx, rfl, _, _, _⟩ := own_form hown
  have hk : ∀ k, k < w1.heap.size → v1.ownBlock ≠ some k → w2.heap[k]? = w1.heap[k]? := fun k h1 h2 => hgr.block k h1 (fun e => h2 (by first | exact e | exact e.symm))
  have hP := Wr.put HW1.out (Nat.le_trans hB HF1.out.size) hown (by simp) hb hk hfr
  have HE2 := Pk.mk (show lw ++ t = l ++ (numB t.length ++ t) by rw [← Hlw.out, List.append_assoc])
  have HW2 := Pk.mk hP.1
  rw [HE2.out] at HW2
  have HF2 := Pk.mk (HF1.out.trans hP.2)
  have c1 := cell0 ((hk g HW1.out.lt HW1.out.ne).trans HW1.out.cell)
  have c2 := frozen_of_row w2 g 0 _ _ ((hk g HW1.out.lt HW1.out.ne).trans HW1.out.cell)
  clear hown hb hk hfr hP hgr
  go_wp2
  go_end0
  exact ⟨rfl, _, HW2.out, HF2.out⟩

set_option maxRecDepth 100000 in
theorem wbytes_calls (B : Nat) (g : Nat) (v : Value) (l : List F) (sp : Bool) (A : Option Addr) (n ca : Nat) (t : List F) (w : World) (hw : Wr B w g v l sp) (hB : B ≤ w.heap.size) (hn : t.length = n) (ht : RB w A t) (hA : ∀ a, A = some a → 0 < n → a.block ≠ g ∧ v.ownBlock ≠ some a.block) (hl : l.length + n ≤ 140737488354000) :
    Calls Tryd.prog 19 #[.pointer (some ⟨g, 0, none⟩), .slice A n ca] w fun e w' => e = .returned (.tuple #[]) ∧ ∃ v', Wr B w' g v' (l ++ (numB n ++ t)) sp ∧ FrW g v w w' v' := by
  have HW := Pk.mk hw
  have HN := Pk.mk hn
  have HT := Pk.mk ht
  have HA := Pk.mk hA
  clear hw hn ht hA
  go_enter Tryd.func19, Tryd.ntmps19
  go_wp2_with fail
  have q := wnum_calls B g v l sp n w HW.out hB (by omega) (by omega)
  with_reducible refine q.mono ?_
  clear q
  rintro e w1 ⟨rfl, v1, h1, hf1⟩
  have HW1 := Pk.mk h1
  have HF1 := Pk.mk hf1
  have c0 := cell0 h1.cell
  have h9 := numB_len9 (n := n) (by omega)
  obtain ⟨lw, Hlw⟩ : ∃ lw, Pk (l ++ numB n = lw) := ⟨_, ⟨rfl⟩⟩
  rw [Hlw.out] at HW1
  have HL := Pk.mk (show lw.length = l.length + (numB n).length by rw [← Hlw.out]; simp)
  have HT1 := Pk.mk (show RB w1 A t from fun j u hu => by
    obtain ⟨a, ha, hc⟩ := HT.out j u hu
    have hj : j < t.length := by
      rcases Nat.lt_or_ge j (bvs t).length with h | h
      · rw [bvs_length] at h; exact h
      · rw [List.getElem?_eq_none h] at hu; cases hu
    have hA := HA.out a ha (by have := HN.out; omega)
    have hb : (a.add j).block = a.block := by unfold Addr.add; split <;> rfl
    have hlt := World.block_lt_of_cell? w _ hc
    refine ⟨a, ha, ?_⟩
    have hh := hf1.block (a.add j).block hlt (by rw [hb]; exact hA.1) (by rw [hb]; exact hA.2)
    simp only [World.cell?, hh] at hc ⊢
    exact hc)
  clear h1 hf1 HW HT HA
  go_wp2_with ((with_reducible refine gate_b (b := .append) rfl ?_); refine Pk.out ?_)
  refine ⟨?_⟩
  clear c0
  refine app_bytes_f B v1 _ lw HW1.out.own (Nat.le_trans hB HF1.out.size) A n ca t HN.out HT1.out (by rw [HL.out]; omega) rfl rfl rfl rfl ?_
  intro v2 w2 hown hb hgr hfr
  obtain ⟨X, cx, rfl, _, _, _⟩ := own_form hown
  have hk : ∀ k, k < w1.heap.size → v1.ownBlock ≠ some k → w2.heap[k]? = w1.heap[k]? := fun k h1 h2 => hgr.block k h1 (fun e => h2 (by first | exact e | exact e.symm))
  have hP := Wr.put HW1.out (Nat.le_trans hB HF1.out.size) hown (by rw [List.length_append, HN.out]) hb hk hfr
  have HE2 := Pk.mk (show lw ++ t = l ++ (numB n ++ t) by rw [← Hlw.out, List.append_assoc])
  have HW2 := Pk.mk hP.1
  rw [HE2.out] at HW2
  have HF2 := Pk.mk (HF1.out.trans hP.2)
  have c1 := cell0 ((hk g HW1.out.lt HW1.out.ne).trans HW1.out.cell)
  have c2 := frozen_of_row w2 g 0 _ _ ((hk g HW1.out.lt HW1.out.ne).trans HW1.out.cell)
  clear hown hb hk hfr hP hgr
  go_wp2
  go_end0
  exact ⟨rfl, _, HW2.out, HF2.out⟩

def wErrs : List Nat := [0]
theorem errN_12 (E : Nat → Addr) : errN E 12 = .iface 86 (.pointer (some (E 0))) := rfl
theorem wdone_calls (B : Nat) (g : Nat) (v : Value) (l : List F) (w : World) (hw : Wr B w g v l false) (hl : l.length ≤ 140737488355328) :
    Calls Tryd.prog 13 #[.pointer (some ⟨g, 0, none⟩)] w fun e w' => ∃ x, e = .returned (.tuple #[x, .nilIface]) ∧ w'.ownsRow w.heap.size 5 1 x l.length (bvs l) ∧ Below w.heap.size w w' := by
  have c0 := cell0 hw.cell
  have c1 := cell1 hw.cell
  obtain ⟨X, cx, rfl, _, hcs, _⟩ := own_form hw.own
  have HX := Pk.mk hcs
  clear hw hcs
  go_enter Tryd.func13, Tryd.ntmps13
  go_wp2_with fail
  have q := clone_calls X l.length cx l w rfl HX.out hl
  with_reducible refine q.mono ?_
  clear q
  rintro e w1 ⟨x, rfl, ho, hb⟩
  have HO := Pk.mk ho
  have HB := Pk.mk hb
  clear ho hb
  go_wp2
  go_ret2
  exact ⟨_, rfl, HO.out, HB.out⟩
theorem wdone_spoilt (E : Nat → Addr) (B : Nat) (g : Nat) (v : Value) (l : List F) (w : World) (hE : ErrW w E wErrs) (hw : Wr B w g v l true) :
    Calls Tryd.prog 13 #[.pointer (some ⟨g, 0, none⟩)] w fun e w' => e = .returned (.tuple #[.slice none 0 0, errN E 12]) ∧ Below w.heap.size w w' := by
  have c0 := cell0 hw.cell
  have c1 := cell1 hw.cell
  have ce := hE.cell 0 (by decide)
  simp only [errV] at ce
  clear hw hE
  rw [errN_12]
  go_enter Tryd.func13, Tryd.ntmps13
  go_wp2
  go_quiet (fail)
  go_wp2
  go_ret2
  exact ⟨rfl, below_drew _ _⟩

/-! ### the document's -/
set_option maxRecDepth 100000 in
set_option maxHeartbeats 4000000 in
theorem refNum_calls (n : Nat) (w : World) (hn : n < 9223372036854775808) :
    Calls Tryd.prog 15 #[.int .i64 n] w fun e w' => ∃ v, e = .returned v ∧ w'.ownsRow w.heap.size 5 1 v (numB n).length (bvs (numB n)) ∧ Below w.heap.size w w' := by
  go_enter Tryd.func15, Tryd.ntmps15
  have HO0 := Pk.mk (own_empty w)
  go_wp2
  go_loopw [0, 3] (fun x o wr => ∃ (m : Nat) (l : List F), x = .int .i64 (m : Int) ∧ m < 9223372036854775808 ∧ l.length ≤ 9 ∧ Pk (l ++ numB m = numB n) ∧ Pk (wr.ownsRow w.heap.size 5 1 o l.length (bvs l)) ∧ Pk (Below w.heap.size w wr)) (fun x _ _ => (intOf x).toNat)
  case atStart => exact ⟨n, [], rfl, hn, by simp, ⟨rfl⟩, HO0, ⟨below_alloc _ _⟩⟩
  case round =>
    clear HO0
    obtain ⟨m, l, rfl, hm, hl, HN, HO, Hb⟩ := hrel
    by_cases h : m < 128
    · have h0 : (m : Int) / 128 = 0 := by omega
      have h1 : (m : Int) % 128 = (m : Int) := by omega
      have Hi := Pk.mk (i_ofNat (m := m) (by omega))
      have HN2 := Pk.mk (show l ++ [UInt8.ofNat m] = numB n by rw [← HN.out, numB_lt h])
      go_wp2_with ((with_reducible refine gate_b (b := .append) rfl ?_); refine Pk.out ?_)
      refine ⟨?_⟩
      refine push_byte w.heap.size _ l.length l HO.out Hb.out.size (UInt8.ofNat m) _ Hi.out (by omega) rfl rfl rfl rfl ?_
      intro v2 w2 hown hb hk
      have HO2 := Pk.mk hown
      rw [HN2.out] at HO2
      have Hl := Pk.mk (show (numB n).length = l.length + 1 by rw [← HN2.out]; simp)
      have Hb2 := Pk.mk (Hb.out.trans hb)
      clear hown hb hk
      go_wp2
      go_ret
      exact ⟨_, rfl, by rw [Hl.out]; exact HO2.out, Hb2.out⟩
    · have h0 : ¬ ((m : Int) / 128 = 0) := by omega
      have h0' : ((m : Int) / 128 == 0) = false := by rw [beq_eq_false_iff_ne]; exact h0
      obtain ⟨b, Hb'⟩ : ∃ b, Pk (b = UInt8.ofNat (m % 128 + 128)) := ⟨_, ⟨rfl⟩⟩
      have hz : ((m : Int) % 128 + 128) = i b := by rw [Hb'.out]; unfold i; rw [toNat_ofNat_lt (by omega)]; omega
      have HN2 := Pk.mk (show (l ++ [b]) ++ numB (m / 128) = numB n by rw [← HN.out, numB_ge h, List.append_assoc, Hb'.out]; rfl)
      have Hlen := Pk.mk (show (l ++ [b]).length ≤ 9 by
        have h1 := congrArg List.length HN2.out
        have h2 := numB_pos (m / 128)
        have h3 := numB_len9 hn
        simp only [List.length_append, List.length_cons, List.length_nil] at h1 ⊢
        omega)
      have Hz := Pk.mk hz
      clear Hb' hz h0
      go_wp2_with ((with_reducible refine gate_b (b := .append) rfl ?_); refine Pk.out ?_)
      refine ⟨?_⟩
      refine push_byte w.heap.size _ l.length l HO.out Hb.out.size b _ Hz.out (by omega) rfl rfl rfl rfl ?_
      intro v2 w2 hown hb hk
      have HO2 := Pk.mk (show w2.ownsRow w.heap.size 5 1 v2 (l ++ [b]).length (bvs (l ++ [b])) by simpa using hown)
      have Hb2 := Pk.mk (Hb.out.trans hb)
      clear hown hb hk HO Hb HN
      go_wp2
      go_roundw
      · exact ⟨m / 128, l ++ [b], by first | rfl | (congr 1; omega), by omega, Hlen.out, HN2, HO2, Hb2⟩
      · simp [intOf]; omega
end Go.Proofs.YtdnmfgpladgjhaaDoor
