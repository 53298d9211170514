/- The halves of a split, as rows; joined again. -/
import Derived.Test.YtejmbfoecacgmaaDoorShH
import Derived.Test.YtejmbfoecacgmaaDoorShG
namespace Go.Proofs.YtejmbfoecacgmaaDoor
open Go Go.RowKit Go.Proofs.YtejmbfoecacgmaaDoor.Gf
set_option linter.unusedVariables false
set_option linter.unusedSimpArgs false

def pieces (g h : Nat) (p : List F) (t : Nat) : List Sh := (List.range t).map fun v => (some ⟨g, v * h, none⟩, h, (p.drop (v * h)).take h)
theorem pieces_length (g h : Nat) (p : List F) (t : Nat) : (pieces g h p t).length = t := by simp [pieces]
theorem pieces_get (g h : Nat) (p : List F) (t v : Nat) (hv : v < t) (hv' : v < (pieces g h p t).length) : (pieces g h p t)[v] = (some ⟨g, v * h, none⟩, h, (p.drop (v * h)).take h) := by simp [pieces]
theorem piece_length {h t v : Nat} {p : List F} (hp : t * h ≤ p.length) (hv : v < t) : ((p.drop (v * h)).take h).length = h := by
  have : (v + 1) * h ≤ t * h := Nat.mul_le_mul_right _ hv
  rw [Nat.add_mul, Nat.one_mul] at this
  rw [List.length_take, List.length_drop]
  omega
theorem pieces_len {g h t : Nat} {p : List F} (hp : t * h ≤ p.length) : ∀ x ∈ pieces g h p t, x.2.2.length = h := by
  intro x hx
  simp only [pieces, List.mem_map, List.mem_range] at hx
  obtain ⟨v, hv, rfl⟩ := hx
  exact piece_length hp hv
theorem pieces_hdr {g h t : Nat} {p : List F} (hp : t * h ≤ p.length) : (pieces g h p t).map hdr = heads g h t := by
  simp only [pieces, heads, List.map_map]
  refine List.map_congr_left fun v hv => ?_
  simp only [Function.comp, hdr]
  rw [piece_length hp (List.mem_range.1 hv)]
theorem pieces_rbs {w : World} {g h t : Nat} {p : List F} (hB : BB w g p) : rbs w (pieces g h p t) := by
  intro x hx
  simp only [pieces, List.mem_map, List.mem_range] at hx
  obtain ⟨v, hv, rfl⟩ := hx
  exact BB.sub hB (v * h) h
theorem pieces_joined {g h t : Nat} {p : List F} (hp : t * h ≤ p.length) : ∀ u, u ≤ t → joined (pieces g h p t) u = p.take (u * h)
  | 0, _ => by simp [joined_zero]
  | u + 1, hu => by
    rw [joined_succ _ u (by rw [pieces_length]; omega), pieces_joined hp u (by omega), pieces_get _ _ _ _ _ (by omega), Nat.add_mul, Nat.one_mul, List.take_add]
theorem padB_take (la : List F) (n : Nat) : (padB la n).take la.length = la := by simp [padB]
end Go.Proofs.YtejmbfoecacgmaaDoor
