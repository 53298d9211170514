/- Slices that a call made, each in a span of blocks of its own; Apart on two of them. -/
import Derived.Test.YtdnmfgpladgjhaaDoorNum
namespace Go.Proofs.YtdnmfgpladgjhaaDoor
open Go Go.RowKit Go.Proofs.YtdnmfgpladgjhaaDoor.Gf
set_option linter.unusedVariables false
set_option linter.unusedSimpArgs false

def Sl (w : World) (A : Option Addr) (n c lo hi : Nat) (l : List F) : Prop :=
  l.length = n ∧ ((A = none ∧ c = 0 ∧ l = []) ∨ ∃ (g : Nat) (ex : List Value), A = some ⟨g, 0, none⟩ ∧ c = n + ex.length ∧ lo ≤ g ∧ g < hi ∧ w.heap[g]? = some (.cells (bvs l ++ ex).toArray 5 (0, 0)))
def Span (w w' : World) (lo hi : Nat) : Prop := Below lo w w' ∧ ∀ k, k < w.heap.size → hi ≤ k → w'.heap[k]? = w.heap[k]?

theorem Sl.of_made {w w' : World} {e : Ending} {r : List F} (h : Made w w' e r) :
    ∃ A c, e = .returned (.slice A r.length c) ∧ Sl w' A r.length c w.heap.size w'.heap.size r ∧ Below w.heap.size w w' := by
  obtain ⟨v, rfl, ho, hb⟩ := h
  by_cases hn : 0 < r.length ∨ v ≠ .slice none 0 0
  · obtain ⟨g, ex, rfl, h1, h2, h3, h4⟩ := own_blk ho hn
    exact ⟨_, _, rfl, ⟨rfl, Or.inr ⟨g, ex, rfl, rfl, h1, (Array.getElem?_eq_some_iff.1 h2).1, h2⟩⟩, hb⟩
  · have h0 : r = [] := List.length_eq_zero_iff.1 (by omega)
    obtain rfl : v = .slice none 0 0 := Classical.byContradiction fun h => hn (Or.inr h)
    subst h0
    exact ⟨none, 0, rfl, ⟨rfl, Or.inl ⟨rfl, rfl, rfl⟩⟩, hb⟩
theorem Sl.rb {w : World} {A : Option Addr} {n c lo hi : Nat} {l : List F} (h : Sl w A n c lo hi l) : RB w A l := by
  obtain ⟨_, ⟨rfl, rfl, rfl⟩ | ⟨g, ex, rfl, rfl, _, _, hg⟩⟩ := h
  · exact Cs.nil _ _
  · exact Cs.of_blk hg
theorem Sl.off {w : World} {A : Option Addr} {n c lo hi : Nat} {l : List F} (h : Sl w A n c lo hi l) : ∀ a, A = some a → lo ≤ a.block ∧ a.block < hi := by
  obtain ⟨_, ⟨rfl, rfl, rfl⟩ | ⟨g, ex, rfl, rfl, h1, h2, hg⟩⟩ := h
  · intro a h; cases h
  · rintro a h; cases h; exact ⟨h1, h2⟩
theorem Sl.below {w w' : World} {A : Option Addr} {n c lo hi : Nat} {l : List F} (h : Sl w A n c lo hi l) (hb : Below hi w w') : Sl w' A n c lo hi l := by
  obtain ⟨hl, ⟨rfl, rfl, rfl⟩ | ⟨g, ex, rfl, rfl, h1, h2, hg⟩⟩ := h
  · exact ⟨hl, Or.inl ⟨rfl, rfl, rfl⟩⟩
  · exact ⟨hl, Or.inr ⟨g, ex, rfl, rfl, h1, h2, (hb.block g h2).trans hg⟩⟩
theorem Sl.far {w w' : World} {A : Option Addr} {n c lo hi lo' hi' : Nat} {l : List F} (h : Sl w A n c lo hi l) (hs : Span w w' lo' hi') (hd : hi ≤ lo' ∨ hi' ≤ lo) : Sl w' A n c lo hi l := by
  obtain ⟨hl, ⟨rfl, rfl, rfl⟩ | ⟨g, ex, rfl, rfl, h1, h2, hg⟩⟩ := h
  · exact ⟨hl, Or.inl ⟨rfl, rfl, rfl⟩⟩
  · refine ⟨hl, Or.inr ⟨g, ex, rfl, rfl, h1, h2, ?_⟩⟩
    rcases hd with hd | hd
    · exact (hs.1.block g (by omega)).trans hg
    · exact (hs.2 g (Array.getElem?_eq_some_iff.1 hg).1 (by omega)).trans hg
theorem span_below {w w' : World} {lo hi : Nat} (h : Below w.heap.size w w') (hl : lo ≤ w.heap.size) : Span w w' lo hi := ⟨h.mono hl, fun k hk _ => h.block k hk⟩
theorem span_grown {w w' : World} {lo hi g : Nat} (h : w.grownBy w' (some g)) (h1 : lo ≤ g) (h2 : g < hi) (hl : lo ≤ w.heap.size) : Span w w' lo hi :=
  ⟨below_grown h hl (fun k hk => by cases hk; exact h1), fun k hk hk2 => h.block k hk (by simp; omega)⟩
theorem apart_sl {B : Option Addr} {n cb lo hi : Nat} {lb : List F} {A : Option Addr} {m ca : Nat} {la : List F} {w : World} (hla : la.length = m) (hb : Sl w B n cb lo hi lb) (ha : RB w A la)
    (hA : ∀ a, A = some a → a.block < lo ∨ hi ≤ a.block) (hlo : lo ≤ w.heap.size) (hn : n ≤ 140737488355000) :
    Calls Tryd.prog 37 #[.slice A m ca, .slice B n cb] w fun e w' => e = .returned (.bool true) ∧ (∃ qs, Sl w' B n cb lo hi qs) ∧ Span w w' lo hi := by
  subst hla
  obtain ⟨hl, ⟨rfl, rfl, rfl⟩ | ⟨g, ex, rfl, rfl, h1, h2, hg⟩⟩ := hb
  · subst hl
    refine (apart_nil_calls A ca la w ha).mono ?_
    rintro e w' ⟨rfl, hb⟩
    exact ⟨rfl, ⟨[], rfl, Or.inl ⟨rfl, rfl, rfl⟩⟩, span_below hb hlo⟩
  · subst hl
    refine (apart_own_calls A ca la g ex lb w hg ha (fun a h _ => by have := hA a h; omega) hn).mono ?_
    rintro e w' ⟨rfl, ⟨qs, ex', h3, h4, h5⟩, hgr⟩
    exact ⟨rfl, ⟨qs, h3, Or.inr ⟨g, ex', rfl, by rw [h4], h1, h2, h5⟩⟩, span_grown hgr h1 h2 hlo⟩
end Go.Proofs.YtdnmfgpladgjhaaDoor
