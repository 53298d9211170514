/- SameLists; the document's Split. -/
import Derived.Test.YtejmbfoecacgmaaDoorShJ
import Derived.Test.YtejmbfoecacgmaaDoorApp
import Derived.StillTailTactics
namespace Go.Proofs.YtejmbfoecacgmaaDoor
open Go Go.RowKit Go.Proofs.YtejmbfoecacgmaaDoor.Gf
set_option linter.unusedVariables false
set_option linter.unusedSimpArgs false

/-- A list of lists, as it is read. -/
def LL (w : World) (A : Option Addr) (H : List Sh) : Prop := Cs w A (H.map hdr) ∧ rbs w H
theorem LL.mono {w w' : World} {A : Option Addr} {H : List Sh} (h : LL w A H) (hb : Below w.heap.size w w') : LL w' A H := ⟨h.1.mono hb, h.2.mono hb⟩
theorem LL.at {w : World} {A : Option Addr} {H : List Sh} (h : LL w A H) {t : Nat} (ht : t < H.length) : ∃ a, A = some a ∧ w.cell? (a.add t) = some (hdr H[t]) ∧ RB w H[t].1 H[t].2.2 := by
  obtain ⟨a, ha, hc⟩ := h.1.at (j := t) (u := hdr H[t]) (by rw [List.getElem?_map, List.getElem?_eq_getElem ht]; rfl)
  exact ⟨a, ha, hc, h.2 _ (List.getElem_mem _)⟩
def lists (H : List Sh) : List (List F) := H.map (·.2.2)
theorem lists_length (H : List Sh) : (lists H).length = H.length := by simp [lists]
theorem lists_get {H K : List Sh} (h : lists H = lists K) {t : Nat} (h1 : t < H.length) (h2 : t < K.length) : H[t].2.2 = K[t].2.2 := by
  have : (lists H)[t]? = (lists K)[t]? := by rw [h]
  simpa [lists, List.getElem?_eq_getElem h1, List.getElem?_eq_getElem h2] using this

set_option maxRecDepth 100000 in
theorem sameLists_calls (A : Option Addr) (ca n : Nat) (H : List Sh) (B : Option Addr) (cb : Nat) (K : List Sh) (w : World) (ha : LL w A H) (hb : LL w B K) (hn : H.length = n) (hl : lists H = lists K) (hs : n < 9000000000000000000) :
    Calls Tryd.prog 13 #[.slice A n ca, .slice B n cb] w fun e w' => e = .returned (.bool true) ∧ ∃ n, w' = w.drewN n := by
  have HA := Pk.mk ha
  have HB := Pk.mk hb
  have HL := Pk.mk hl
  have HN := Pk.mk hn
  have HM := Pk.mk (show K.length = n by rw [← lists_length, ← hl, lists_length, hn])
  clear ha hb hl hn
  go_enter Tryd.func13, Tryd.ntmps13
  go_wp2
  go_loopw [13] (fun x wr => ∃ t q : Nat, t ≤ n ∧ x = .int .i64 (t : Int) ∧ wr = w.drewN q) (fun x _ => n - (intOf x).toNat)
  case atStart => exact ⟨0, 0, Nat.zero_le _, rfl, rfl⟩
  case round =>
    obtain ⟨t, q, ht, rfl, rfl⟩ := hrel
    by_cases hl : t < n
    · have h1 : t < H.length := by rw [HN.out]; exact hl
      have h2 : t < K.length := by rw [HM.out]; exact hl
      obtain ⟨a, rfl, hA0, rA⟩ := HA.out.at h1
      obtain ⟨b, rfl, hB0, rB⟩ := HB.out.at h2
      have he := lists_get HL.out h1 h2
      generalize H[t] = x at *
      generalize K[t] = y at *
      obtain ⟨X, cx, lx⟩ := x
      obtain ⟨Y, cy, ly⟩ := y
      simp only at he rA rB
      subst he
      have hcA : ∀ q, (w.drewN q).cell? (a.add t) = some (.slice X lx.length cx) := fun q => hA0
      have hcB : ∀ q, (w.drewN q).cell? (b.add t) = some (.slice Y lx.length cy) := fun q => hB0
      have hvA := fun q => conv_bytes (w := w.drewN q) cx rA
      have hvB := fun q => conv_bytes (w := w.drewN q) cy rB
      have hbb : ((bs lx).toList == (bs lx).toList) = true := beq_self_eq_true _
      clear h1 h2 hA0 hB0 rA rB
      go_wp2
      go_quiet (fail)
      go_wp2
      go_roundw
      · exact ⟨t + 1, q + nq, by omega, by go_num, by first | rfl | simp [World.drewN, Nat.add_assoc]⟩
      · simp [intOf]; omega
    · go_wp2
      go_ret
      exact ⟨by first | rfl | simp, q, rfl⟩

/-- t halves of h bytes each. -/
def halves (h : Nat) (p : List F) (t : Nat) : List (List F) := (List.range t).map fun v => (p.drop (v * h)).take h
theorem halves_length (h : Nat) (p : List F) (t : Nat) : (halves h p t).length = t := by simp [halves]
theorem halves_succ (h : Nat) (p : List F) (t : Nat) : halves h p (t + 1) = halves h p t ++ [(p.drop (t * h)).take h] := by simp [halves, List.range_succ]
theorem pieces_lists (g h : Nat) (p : List F) (t : Nat) : lists (pieces g h p t) = halves h p t := by simp [lists, pieces, halves]
/-- A half, filled up to i. -/
def fillB (p : List F) (o h i : Nat) : List F := (p.drop o).take i ++ List.replicate (h - i) 0
theorem fillB_zero (p : List F) (o h : Nat) : fillB p o h 0 = List.replicate h 0 := by simp [fillB]
theorem fillB_full (p : List F) (o h : Nat) : fillB p o h h = (p.drop o).take h := by simp [fillB]
theorem fillB_length (p : List F) (o h i : Nat) (hi : i ≤ h) (hp : o + h ≤ p.length) : (fillB p o h i).length = h := by simp [fillB]; omega
theorem fillB_set (p : List F) (o h i : Nat) (hi : i < h) (hp : o + h ≤ p.length) (hk : o + i < p.length) : (fillB p o h i).set i p[o + i] = fillB p o h (i + 1) := by
  have e1 : ((p.drop o).take i).length = i := by simp; omega
  simp only [fillB]
  rw [List.set_append_right _ _ (by omega), e1, Nat.sub_self, show h - i = (h - (i + 1)) + 1 by omega, List.replicate_succ, List.set_cons_zero, List.take_succ_eq_append_getElem (by simp; omega)]
  simp
theorem fillB_pad (la : List F) (N o h i : Nat) (hi : i < h) (hp : o + h ≤ N) (hk : la.length ≤ o + i) (hN : la.length ≤ N) : fillB (padB la N) o h i = fillB (padB la N) o h (i + 1) := by
  have hl : o + i < (padB la N).length := by rw [padB_length]; omega
  have e : (padB la N)[o + i] = 0 := by
    simp only [padB]
    rw [List.getElem_append_right (by omega)]
    simp
  rw [← fillB_set (padB la N) o h i hi (by rw [padB_length]; omega) hl, e]
  have hli : i < (fillB (padB la N) o h i).length := by rw [fillB_length _ _ _ _ (by omega) (by rw [padB_length]; omega)]; exact hi
  have hz : (fillB (padB la N) o h i)[i] = 0 := by
    simp only [fillB]
    rw [List.getElem_append_right (by simp; omega)]
    simp
  have := List.set_getElem_self hli
  rw [hz] at this
  exact this.symm
theorem padB_get (la : List F) (N k : Nat) (h : k < la.length) (h2 : k < (padB la N).length) : (padB la N)[k] = la[k] := by
  simp only [padB]
  rw [List.getElem_append_left h]
end Go.Proofs.YtejmbfoecacgmaaDoor
