/- The program's errors: package variables that hold pointers to errors.errorString, apart from each other. -/
import Derived.Test.YtdnmfgpladgjhaaDoorMem
import Derived.LaidEql
import Derived.LaidLaws
import Derived.LaidHandle
import Derived.MakeChecks
import Derived.ChangeArms
namespace Go.Proofs.YtdnmfgpladgjhaaDoor
open Go Go.RowKit Go.Proofs.YtdnmfgpladgjhaaDoor.Gf
set_option linter.unusedVariables false
set_option linter.unusedSimpArgs false

def errV (E : Nat → Addr) (g : Nat) : Value := .iface 86 (.pointer (some (E g)))
structure ErrW (W : World) (E : Nat → Addr) (gs : List Nat) : Prop where
  cell : ∀ g ∈ gs, W.cell? ⟨g, 0, none⟩ = some (errV E g)
  row : ∀ g ∈ gs, ∃ c t, W.heap[(E g).block]? = some (.cells c t (0, 0))
  inj : ∀ g ∈ gs, ∀ h ∈ gs, E g = E h → g = h

theorem cell_below {W W' : World} {a : Addr} {v : Value} (h : W.cell? a = some v) (hb : Below W.heap.size W W') : W'.cell? a = some v := by
  have hs : Cs W (some a) [v] := fun j u hj => by
    cases j with
    | zero => simp only [List.getElem?_cons_zero, Option.some.injEq] at hj; subst hj; exact ⟨a, rfl, by rw [Addr.add_zero']; exact h⟩
    | succ j => simp at hj
  obtain ⟨a', ha, hc⟩ := (hs.mono hb).at (j := 0) (u := v) rfl
  cases ha
  rwa [Addr.add_zero'] at hc
theorem ErrW.below {W W' : World} {E : Nat → Addr} {gs : List Nat} (h : ErrW W E gs) (hb : Below W.heap.size W W') : ErrW W' E gs where
  cell g hg := cell_below (h.cell g hg) hb
  row g hg := by
    obtain ⟨c, t, hr⟩ := h.row g hg
    exact ⟨c, t, (hb.block _ (Array.getElem?_eq_some_iff.1 hr).1).trans hr⟩
  inj := h.inj
theorem ErrW.sub {W : World} {E : Nat → Addr} {gs hs : List Nat} (h : ErrW W E gs) (hb : ∀ g ∈ hs, g ∈ gs) : ErrW W E hs :=
  ⟨fun g hg => h.cell g (hb g hg), fun g hg => h.row g (hb g hg), fun g hg k hk => h.inj g (hb g hg) k (hb k hk)⟩

theorem run_eql_iface_nil_right {P : Program} {w : World} {ti : TypeId} {ms : Array (String × TypeId)} (tp : TypeId) (v : Value) (hi : P.underlying ti = some (.interface ms)) :
    (binOp .eql ti (.iface tp v) .nilIface).run P w = .ok (.bool false) w := by
  have h : ∀ d : Nat, (Op.equalIn (d + 1) ti (.iface tp v) .nilIface).run P w = .ok false w := fun d => by simp [Op.equalIn, run_underlying hi]
  simp only [binOp]
  simp [Op.equal, Op.maxDepth, h 9999]

/-! ### What a row's list gives -/
def laidOk (P : Program) : List (String × DataW Unit) → List Nat → Prop
  | [], [] => True
  | (n, d) :: l, g :: gs => (P.globalNamed n = some g ∧ (P.globals[g]?).map (·.type) = some 28 ∧ ∃ text, d = .iface "*errors.errorString" (.ptr (.agg [.lit (.string text)]))) ∧ laidOk P l gs
  | _, _ => False
theorem errStar : "*" ++ "errors.errorString" = "*errors.errorString" := by decide
theorem errRow (u : TypeId) (h : Tryd.prog.typeName? 3 u = some "*errors.errorString") : u = 86 :=
  typeName_ptr_named (nm := "errors.errorString") (by rw [errStar]; kernel_rfl) (by kernel_rfl) (by decide) u (by rw [errStar]; exact h)
theorem cellsErr : Tryd.prog.cellsOf 102 = 1 := by kernel_rfl
theorem cellsStr : Tryd.prog.cellsOf 9 = 1 := by kernel_rfl

theorem errs_of_vars {W : World} : ∀ (l : List (String × DataW Unit)) (gs : List Nat) (ps : List MemPlace), DataW.LaidVars Tryd.prog W l ps → laidOk Tryd.prog l gs →
    (∀ b off, MemPlace.cell b off ∈ ps → (∃ c t, W.heap[b]? = some (.cells c t (0, 0))) ∧ ∀ u v, W.cell? ⟨b, off, none⟩ = some (.iface u v) → Value.okWide Tryd.prog W .any 0 u v) →
    ∃ az : List Addr, az.length = gs.length ∧ (∀ (k g : Nat) (a : Addr), gs[k]? = some g → az[k]? = some a → W.cell? ⟨g, 0, none⟩ = some (.iface 86 (.pointer (some a)))) ∧ (az.map fun a => MemPlace.cell a.block a.off).Sublist ps
  | [], [], ps, h, _, _ => ⟨[], rfl, fun k g a hk => by simp at hk, by simp⟩
  | [], _ :: _, _, _, h, _ => h.elim
  | _ :: _, [], _, _, h, _ => h.elim
  | (n, d) :: l, g :: gs, ps, hv, hok, hr => by
    obtain ⟨⟨hn, hty, text, rfl⟩, hok'⟩ := hok
    obtain ⟨g', t, cs, fuel, p, q, hg, ht, hv, hd, hq, rfl⟩ := hv
    obtain rfl := Option.some.inj (hn.symm.trans hg)
    obtain rfl := Option.some.inj (hty.symm.trans ht)
    obtain ⟨az, h1, h2, h3⟩ := errs_of_vars l gs q hq hok' (fun b off hm => hr b off (List.mem_append_right _ hm))
    obtain ⟨l0⟩ := cs
    have ok0 : ∀ u v, l0 = [.iface u v] → Value.okWide Tryd.prog W .any 0 u v := fun u v e => by
      subst e
      exact (hr g 0 (by simp [MemPlace.row])).2 u v (by simpa using World.var?_cell hg hv 0)
    obtain ⟨a0, s0, rfl, hc0, hs0, hz0, rfl⟩ := errorString_of_trod Tryd.underlying28 errRow Tryd.underlying86 Tryd.underlying102 rfl rfl Tryd.underlying9 cellsErr cellsStr hd ok0
    have hc : W.cell? ⟨g, 0, none⟩ = some (.iface 86 (.pointer (some a0))) := by simpa using World.var?_cell hg hv 0
    refine ⟨a0 :: az, by simp [h1], ?_, ?_⟩
    · intro k g1 a1 hk ha
      cases k with
      | zero => simp only [List.getElem?_cons_zero, Option.some.injEq] at hk ha; subst hk; subst ha; exact hc
      | succ k => exact h2 k g1 a1 (by simpa using hk) (by simpa using ha)
    · have : MemPlace.row a0 1 = [MemPlace.cell a0.block a0.off] := by simp [MemPlace.row]
      rw [this, List.map_cons, List.append_assoc]
      exact List.Sublist.trans (List.Sublist.cons_cons _ h3) (List.sublist_append_right _ _)

theorem errs_of_laid {W : World} {l : List (String × DataW Unit)} {gs : List Nat} (hL : laidMet Tryd.prog l W) (hok : laidOk Tryd.prog l gs) (hnd : gs.Nodup) : ∃ E, ErrW W E gs := by
  obtain ⟨ps, hv, hn, hr⟩ := hL
  obtain ⟨az, h1, h2, h3⟩ := errs_of_vars l gs ps hv hok hr
  have hna : (az.map fun a => MemPlace.cell a.block a.off).Nodup := h3.nodup hn
  have hget : ∀ g ∈ gs, ∃ k, gs[k]? = some g ∧ az[k]? = some (az.getD (gs.idxOf g) ⟨0, 0, none⟩) ∧ k = gs.idxOf g := fun g hg => by
    have hlt := List.idxOf_lt_length_iff.2 hg
    refine ⟨gs.idxOf g, by rw [List.getElem?_eq_getElem hlt, List.getElem_idxOf], ?_, rfl⟩
    rw [List.getD_eq_getElem?_getD, List.getElem?_eq_getElem (by omega)]; rfl
  refine ⟨fun g => az.getD (gs.idxOf g) ⟨0, 0, none⟩, ⟨fun g hg => ?_, fun g hg => ?_, fun g hg h hh e => ?_⟩⟩
  · obtain ⟨k, hk, ha, _⟩ := hget g hg
    exact h2 k g _ hk ha
  · obtain ⟨k, hk, ha, _⟩ := hget g hg
    exact (hr _ _ (h3.subset (List.mem_map.2 ⟨_, List.mem_of_getElem? ha, rfl⟩))).1
  · obtain ⟨k, hk, ha, hk'⟩ := hget g hg
    obtain ⟨k2, hk2, ha2, hk2'⟩ := hget h hh
    have e' : az.getD (gs.idxOf g) ⟨0, 0, none⟩ = az.getD (gs.idxOf h) ⟨0, 0, none⟩ := e
    rw [e'] at ha
    have hlt : k < az.length := (List.getElem?_eq_some_iff.1 ha).1
    have hlt2 : k2 < az.length := (List.getElem?_eq_some_iff.1 ha2).1
    have hkk : k = k2 := by
      have hm1 : (az.map fun a => MemPlace.cell a.block a.off)[k]? = (az.map fun a => MemPlace.cell a.block a.off)[k2]? := by
        rw [List.getElem?_map, List.getElem?_map, ha, ha2]
      rw [List.getElem?_eq_getElem (by simpa using hlt), List.getElem?_eq_getElem (by simpa using hlt2)] at hm1
      have hm2 := Option.some.inj hm1
      rcases Nat.lt_trichotomy k k2 with h | h | h
      · exact absurd hm2 (List.pairwise_iff_getElem.1 hna k k2 _ _ h)
      · exact h
      · exact absurd hm2.symm (List.pairwise_iff_getElem.1 hna k2 k _ _ h)
    rw [hkk] at hk
    exact Option.some.inj (hk.symm.trans hk2)
end Go.Proofs.YtdnmfgpladgjhaaDoor
