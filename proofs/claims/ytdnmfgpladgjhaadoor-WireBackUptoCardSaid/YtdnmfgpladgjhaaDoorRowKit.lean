/- What an argument of a law is, opened: lists of bytes. -/
import Derived.Test.YtdnmfgpladgjhaaDoorMem
import Derived.SizedLaws
import Derived.ChangeSlices
import Derived.ProofKit
import Derived.OpenShut
namespace Go.Proofs.YtdnmfgpladgjhaaDoor
open Go Go.RowKit Go.ChangeShapes Go.WideShapes Go.Proofs.YtdnmfgpladgjhaaDoor.Gf

theorem wf_bytes : ∀ (zs : List Int), (∀ n ∈ zs, (Lit.int .u8 n).wf = true) → ∃ l : List F, zs = l.map i
  | [], _ => ⟨[], rfl⟩
  | z :: zs, h => by
    obtain ⟨x, hx⟩ := wf_u8 (h z (List.mem_cons_self ..))
    obtain ⟨l, hl⟩ := wf_bytes zs (fun n hn => h n (List.mem_cons_of_mem _ hn))
    exact ⟨x :: l, by rw [hx, hl]; rfl⟩

/-- What a datum weighs is within the reach. -/
def Wt {H : Type} (t : TypeId) (d : DataW H) : Prop := ∀ n ∈ d.weights Tryd.prog t, n ≤ reachBytes
theorem wt_arg {H : Type} {ts : List TypeId} {ds : List (DataW H)} {t : TypeId} {d : DataW H} (hsz : (DataW.weightsEach Tryd.prog ts ds).all (· ≤ reachBytes) = true) (j : Nat) (ht : ts[j]? = some t) (hd : ds[j]? = some d) : Wt t d := by
  intro n hn
  have := List.all_eq_true.1 hsz _ (DataW.weights_mem_each ht hd n hn)
  simpa using this
theorem wt_field {H : Type} {t : TypeId} {fs : Array Field} {parts : List (DataW H)} (hu : Tryd.prog.underlying t = some (.struct fs)) (h : Wt t (.agg parts)) (k : Nat) {u : TypeId} {d : DataW H} (hf : (fs.toList.map (·.type))[k]? = some u) (hd : parts[k]? = some d) : Wt u d := by
  intro n hn
  refine h n ?_
  simp only [DataW.weights, hu]
  exact DataW.weights_mem_each hf hd n hn
/-- A cell that is a list of bytes. -/
theorem bytes_cell {H : Type} {enc : TypeId × Value → H} {W : World} {base : Nat} {spare : Nat → Bool} {held : Bool} {v : Value} {y : DataW H × List MemPlace} {fuel : Nat}
    (hf : DataW.trod enc Tryd.prog W base spare held fuel 26 [v] = some y) (hw : Wt 26 y.1) :
    ∃ A c, ∃ l : List F, v = .slice A l.length c ∧ RB W A l ∧ l.length ≤ c ∧ l.length ≤ 140737488351232 := by
  rcases open_ints Tryd.underlying26 Tryd.underlying5 (by kernel_rfl) hf with ⟨hcs, _⟩ | ⟨x, l, c, zs, hcs, _, hl, hm, hz, hx, hcell, hwz⟩
  · simp at hcs
    exact ⟨none, 0, [], hcs, Cs.nil _ _, Nat.le_refl _, by simp⟩
  · simp at hcs
    subst hcs hx
    have hB : Tryd.prog.bytesOf 5 = 1 := by kernel_rfl
    have z := hw (((lits (H := H) .u8 (zs.take l)).length + (lits (H := H) .u8 (zs.drop l)).length) * Tryd.prog.bytesOf 5) (by simp [DataW.weights, Tryd.underlying26])
    rw [hB] at z
    have hlen : l ≤ zs.length := by
      rw [hz]
      split
      · exact hl
      · exact Nat.le_refl _
    have h1 : (lits (H := H) .u8 (zs.take l)).length + (lits (H := H) .u8 (zs.drop l)).length = zs.length := by
      simp [lits]
      omega
    rw [h1, Nat.mul_one] at z
    have z : zs.length ≤ 140737488351232 := z
    obtain ⟨bs, hbs⟩ := wf_bytes zs hwz
    have hl' : (bs.take l).length = l := by
      rw [hbs] at hlen
      simp at hlen ⊢
      omega
    refine ⟨some x, c, bs.take l, by rw [hl'], ?_, by rw [hl']; exact hl, by rw [hl']; omega⟩
    intro j u hu
    refine ⟨x, rfl, ?_⟩
    rw [bvs_get, List.getElem?_take] at hu
    split at hu
    · have hj : j < zs.length := by omega
      rw [hcell j hj]
      have : zs.getD j 0 = i (bs[j]'(by rw [hbs] at hj; simpa using hj)) := by
        simp [hbs, List.getD_eq_getElem?_getD, List.getElem?_map, List.getElem?_eq_getElem (show j < bs.length by rw [hbs] at hj; simpa using hj)]
      rw [this]
      rw [List.getElem?_eq_getElem (show j < bs.length by rw [hbs] at hj; simpa using hj)] at hu
      simpa [bv] using hu
    · cases hu
/-- A cell that is a byte. -/
theorem u8_cell {H : Type} {enc : TypeId × Value → H} {W : World} {base : Nat} {spare : Nat → Bool} {held : Bool} {v : Value} {y : DataW H × List MemPlace} {fuel : Nat}
    (hf : DataW.trod enc Tryd.prog W base spare held fuel 5 [v] = some y) : ∃ x : F, v = .int .u8 (i x) := by
  obtain ⟨n, e, h, w⟩ := DataW.trod_int Tryd.underlying5 hf
  obtain ⟨x, rfl⟩ := wf_u8 w
  exact ⟨x, by simpa using e⟩
/-- A cell that is an int. -/
theorem int_cell {H : Type} {enc : TypeId × Value → H} {W : World} {base : Nat} {spare : Nat → Bool} {held : Bool} {v : Value} {y : DataW H × List MemPlace} {fuel : Nat}
    (hf : DataW.trod enc Tryd.prog W base spare held fuel 3 [v] = some y) : ∃ x : Int, v = .int .i64 x ∧ (Lit.int .i64 x).wf = true := by
  obtain ⟨n, e, h, w⟩ := DataW.trod_int Tryd.underlying3 hf
  exact ⟨n, by simpa using e, w⟩

/-- An argument that is a list of bytes. -/
theorem open_bytes {H : Type} {enc : TypeId × Value → H} {W : World} {base base' : Nat} {spare : Nat → Bool} {held : Bool} {v : Value} {d : DataW H} {ps : List MemPlace} {ts : List TypeId} {ds : List (DataW H)} {j : Nat}
    (hsz : (DataW.weightsEach Tryd.prog ts ds).all (· ≤ reachBytes) = true) (ht : ts[j]? = some 26) (hd : ds[j]? = some d)
    (hval : Value.okWide Tryd.prog W .any base' 26 v) (h : DataW.Trod enc Tryd.prog W base spare held 26 v d ps) :
    ∃ A c, ∃ l : List F, v = .slice A l.length c ∧ RB W A l ∧ l.length ≤ c ∧ l.length ≤ 140737488351232 := by
  obtain ⟨a, len, cap, rfl⟩ := okWide_slice Tryd.underlying26 hval
  obtain ⟨fuel, hf⟩ := h
  exact bytes_cell (y := (d, ps)) (by simpa [Value.cells] using hf) (wt_arg hsz j ht hd)
end Go.Proofs.YtdnmfgpladgjhaaDoor
