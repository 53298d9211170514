/- What an argument of a law is, opened: lists of bytes. -/
import Derived.Test.YtfanaaiakalccaaMem
import Derived.SizedLaws
import Derived.ChangeSlices
import Derived.ProofKit
import Derived.OpenShut
namespace Go.Proofs.Ytfanaaiakalccaa
open Go Go.RowKit Go.ChangeShapes Go.WideShapes Go.Proofs.Ytfanaaiakalccaa.Gf

theorem wf_bytes : ∀ (zs : List Int), (∀ n ∈ zs, (Lit.int .u8 n).wf = true) → ∃ l : List F, zs = l.map i
  | [], _ => ⟨[], rfl⟩
  | z :: zs, h => by
    obtain ⟨x, hx⟩ := wf_u8 (h z (List.mem_cons_self ..))
    obtain ⟨l, hl⟩ := wf_bytes zs (fun n hn => h n (List.mem_cons_of_mem _ hn))
    exact ⟨x :: l, by rw [hx, hl]; rfl⟩

/-- An argument that is a list of bytes. -/
theorem open_bytes {H : Type} {enc : TypeId × Value → H} {W : World} {base base' : Nat} {spare : Nat → Bool} {held : Bool} {v : Value} {d : DataW H} {ps : List MemPlace} {ts : List TypeId} {ds : List (DataW H)} {j : Nat}
    (hsz : (DataW.weightsEach Try.prog ts ds).all (· ≤ reachBytes) = true) (ht : ts[j]? = some 33) (hd : ds[j]? = some d)
    (hval : Value.okWide Try.prog W .any base' 33 v) (h : DataW.Trod enc Try.prog W base spare held 33 v d ps) :
    ∃ A c, ∃ l : List F, v = .slice A l.length c ∧ RB W A l ∧ l.length ≤ c ∧ l.length ≤ 140737488351232 := by
  obtain ⟨a, len, cap, rfl⟩ := okWide_slice Try.underlying33 hval
  obtain ⟨fuel, hf⟩ := h
  rcases open_ints Try.underlying33 Try.underlying5 (by kernel_rfl) hf with ⟨hcs, _⟩ | ⟨x, l, c, zs, hcs, _, hl, hm, hz, hx, hcell, hwz⟩
  · simp [Value.cells] at hcs
    obtain ⟨rfl, rfl, rfl⟩ := hcs
    exact ⟨none, 0, [], rfl, Cs.nil _ _, Nat.le_refl _, by simp⟩
  · simp [Value.cells] at hcs
    obtain ⟨rfl, rfl, rfl⟩ := hcs
    obtain ⟨hx, _⟩ := Prod.mk.inj hx
    subst hx
    have z := sized_slice hsz ht hd Try.underlying33
    have hB : Try.prog.bytesOf 5 = 1 := by kernel_rfl
    rw [hB] at z
    have hlen : len ≤ zs.length := by
      rw [hz]
      split
      · exact hl
      · exact Nat.le_refl _
    have h1 : (lits (H := H) .u8 (zs.take len)).length + (lits (H := H) .u8 (zs.drop len)).length = zs.length := by
      simp [lits]
      omega
    rw [h1, Nat.mul_one] at z
    obtain ⟨bs, hbs⟩ := wf_bytes zs hwz
    have hl' : (bs.take len).length = len := by
      rw [hbs] at hlen
      simp at hlen ⊢
      omega
    refine ⟨some x, cap, bs.take len, by rw [hl'], ?_, by rw [hl']; exact hl, by rw [hl']; exact Nat.le_trans hlen z⟩
    intro j u hu
    refine ⟨x, rfl, ?_⟩
    rw [bvs_get, List.getElem?_take] at hu
    split at hu
    · have hj : j < zs.length := by omega
      rw [hcell j hj]
      have : zs.getD j 0 = i (bs[j]'(by rw [hbs] at hj; simpa using hj)) := by
        simp [hbs, List.getD_eq_getElem?_getD, List.getElem?_map, List.getElem?_eq_getElem (show j < bs.length by rw [hbs] at hj; simpa using hj)]
      rw [this]
      rw [List.getElem?_eq_getElem (show j < bs.length by rw [hbs] at hj; simpa using hj)] at hu
      simpa [bv] using hu
    · cases hu
end Go.Proofs.Ytfanaaiakalccaa
