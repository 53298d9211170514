/- Apart on parts of one block; ShardsSplits walked. -/
import Derived.Test.YtejmbfoecacgmaaDoorShM
import Derived.Test.YtejmbfoecacgmaaDoorReg
import Derived.IntWalk
namespace Go.Proofs.YtejmbfoecacgmaaDoor
open Go Go.RowKit Go.Proofs.YtejmbfoecacgmaaDoor.Gf
set_option linter.unusedVariables false
set_option linter.unusedSimpArgs false

theorem rb_post {w : World} {g s : Nat} {pre : List Value} {q : List F} {e : TypeId} {fr : Nat × Nat} (h : w.heap[g]? = some (.cells (pre ++ bvs q).toArray e fr)) (hs : pre.length = s) (n : Nat) : RB w (some ⟨g, s, none⟩) (q.take n) := by
  intro j u hu
  refine ⟨_, rfl, ?_⟩
  rw [bvs_get, List.getElem?_take] at hu
  split at hu
  · have hadd : (⟨g, s, none⟩ : Addr).add j = ⟨g, s + j, none⟩ := by unfold Addr.add; split <;> simp_all
    rw [hadd, cell_of_row _ _ _ _ _ _ h]
    simp only [List.getElem?_toArray]
    rw [List.getElem?_append_right (by omega), ← hs, Nat.add_sub_cancel_left, bvs_get]
    exact hu
  · cases hu
theorem BB.cut {w : World} {g o h : Nat} {p : List F} (hB : BB w g p) (ho : o + h ≤ p.length) : w.heap[g]? = some (.cells (bvs (p.take o) ++ (bvs ((p.drop o).take h) ++ []) ++ bvs (p.drop (o + h))).toArray 5 (0, 0)) := by
  have e : bvs (p.take o) ++ (bvs ((p.drop o).take h) ++ []) ++ bvs (p.drop (o + h)) = bvs p := by
    rw [List.append_nil, ← bvs_append, ← bvs_append]
    congr 1
    rw [List.append_assoc, ← List.drop_drop, List.take_append_drop, List.take_append_drop]
  rw [e]; exact hB
/-- Apart, the second list a part of a block of bytes. -/
theorem apart_part (A : Option Addr) (ca n : Nat) (la : List F) (g o h : Nat) (p : List F) (w : World) (hn : la.length = n) (hB : BB w g p) (ho : o + h ≤ p.length) (hh : h ≤ 140737488355000)
    (hK : ∀ (w' : World) (mid : List Value), mid.length = h → w'.heap[g]? = some (.cells (bvs (p.take o) ++ mid ++ bvs (p.drop (o + h))).toArray 5 (0, 0)) → w.grownBy w' (some g) → RB w' A la) :
    Calls Tryd.prog 15 #[.slice A n ca, .slice (some ⟨g, o, none⟩) h h] w fun e w' => e = .returned (.bool true) ∧ (∃ p', p'.length = p.length ∧ BB w' g p') ∧ w.grownBy w' (some g) := by
  subst hn
  have e1 : (bvs (p.take o)).length = o := by rw [bvs_length, List.length_take]; omega
  have e2 : ((p.drop o).take h).length = h := by rw [List.length_take, List.length_drop]; omega
  have q := apart_calls A ca la g h (bvs (p.take o)) (bvs (p.drop (o + h))) [] ((p.drop o).take h) w (hB.cut ho) (by simp [e2]) hK (by rw [e2]; exact hh)
  rw [e1, e2] at q
  refine q.mono ?_
  rintro e w' ⟨rfl, ⟨qs, ex', h1, h2, h3⟩, h4⟩
  obtain rfl : ex' = [] := List.length_eq_zero_iff.1 h2
  refine ⟨rfl, ⟨p.take o ++ qs ++ p.drop (o + h), ?_, ?_⟩, h4⟩
  · simp only [List.length_append, List.length_take, List.length_drop, h1]; omega
  · rw [List.append_nil, ← bvs_append, ← bvs_append] at h3; exact h3
theorem apart_piece (g o h : Nat) (p : List F) (w : World) (hB : BB w g p) (ho : o + h + h ≤ p.length) (hh : h ≤ 140737488355000) :
    Calls Tryd.prog 15 #[.slice (some ⟨g, o + h, none⟩) h h, .slice (some ⟨g, o, none⟩) h h] w fun e w' => e = .returned (.bool true) ∧ (∃ p', p'.length = p.length ∧ BB w' g p') ∧ w.grownBy w' (some g) := by
  refine apart_part _ _ h ((p.drop (o + h)).take h) g o h p w (by rw [List.length_take, List.length_drop]; omega) hB (by omega) hh ?_
  intro w' mid hm hc _
  exact rb_post hc (by rw [List.length_append, bvs_length, List.length_take, hm]; omega) h
theorem apart_other (A : Option Addr) (ca n : Nat) (la : List F) (g o h : Nat) (p : List F) (w : World) (hn : la.length = n) (ha : RB w A la) (hA : ∀ a, A = some a → a.block ≠ g) (hB : BB w g p) (ho : o + h ≤ p.length) (hh : h ≤ 140737488355000) :
    Calls Tryd.prog 15 #[.slice A n ca, .slice (some ⟨g, o, none⟩) h h] w fun e w' => e = .returned (.bool true) ∧ (∃ p', p'.length = p.length ∧ BB w' g p') ∧ w.grownBy w' (some g) := by
  refine apart_part A ca n la g o h p w hn hB ho hh ?_
  intro w' _ _ _ hgr j u hu
  obtain ⟨a, rfl, hc⟩ := ha j u hu
  have hb : (a.add j).block = a.block := by unfold Addr.add; split <;> rfl
  exact ⟨a, rfl, hgr.cell hc (by rw [hb]; simpa using hA a rfl)⟩

/-- What block g alone changes. -/
theorem RB.off {w w' : World} {A : Option Addr} {l : List F} {g : Nat} (h : RB w A l) (hgr : w.grownBy w' (some g)) (hA : 0 < l.length → ∀ a, A = some a → a.block ≠ g) : RB w' A l := fun j u hu => by
  have hA := hA (by rcases Nat.lt_or_ge j (bvs l).length with h | h; (rw [bvs_length] at h; omega); (rw [List.getElem?_eq_none h] at hu; cases hu))
  obtain ⟨a, rfl, hc⟩ := h j u hu
  have hb : (a.add j).block = a.block := by unfold Addr.add; split <;> rfl
  exact ⟨a, rfl, hgr.cell hc (by rw [hb]; simpa using hA a rfl)⟩
theorem heap_off {w w' : World} {g k : Nat} {o : Obj} (h : w.heap[k]? = some o) (hgr : w.grownBy w' (some g)) (hne : k ≠ g) : w'.heap[k]? = some o :=
  (hgr.block k (Array.getElem?_eq_some_iff.1 h).1 (by simpa using hne)).trans h
/-- The bytes lie below a block number. -/
def Low (A : Option Addr) (B : Nat) : Prop := ∀ a, A = some a → a.block < B
theorem RB.low {w : World} {A : Option Addr} {l : List F} (h : RB w A l) (hp : 0 < l.length) : Low A w.heap.size := by
  intro a ha
  obtain ⟨a', ha', hc⟩ := RB.at h hp
  obtain rfl : a' = a := Option.some.inj (ha'.symm.trans ha)
  have := World.block_lt_of_cell? w _ hc
  have hb : (a'.add 0).block = a'.block := by unfold Addr.add; split <;> rfl
  rwa [hb] at this
theorem ErrW.mono {W W' : World} {E : Nat → Addr} {gs : List Nat} (h : ErrW W E gs) (hb : Below W.heap.size W W') : ErrW W' E gs := h.below hb
theorem BB.mono {w w' : World} {g : Nat} {l : List F} (h : BB w g l) (hb : Below w.heap.size w w') : BB w' g l := h.below hb
/-- A block, whatever it holds. -/
def Blk (w : World) (g : Nat) (o : Obj) : Prop := w.heap[g]? = some o
theorem Blk.mono {w w' : World} {g : Nat} {o : Obj} (h : Blk w g o) (hb : Below w.heap.size w w') : Blk w' g o := (hb.block g (Array.getElem?_eq_some_iff.1 h).1).trans h
theorem Blk.off {w w' : World} {g k : Nat} {o : Obj} (h : Blk w k o) (hgr : w.grownBy w' (some g)) (hne : k ≠ g) : Blk w' k o := heap_off h hgr hne
theorem heads_at {w : World} {g g2 h T : Nat} {ex : List Value} (hB : Blk w g2 (.cells (heads g h T ++ ex).toArray 22 (0, 0))) {t : Nat} (ht : t < T) : w.cell? ⟨g2, t, none⟩ = some (.slice (some ⟨g, t * h, none⟩) h h) := by
  rw [cell_of_row _ _ _ _ _ _ hB, List.getElem?_toArray, List.getElem?_append_left (by rw [heads_length]; exact ht)]
  simp [heads, ht]
theorem heads_LL {w : World} {g g2 h T : Nat} {p : List F} {ex : List Value} (hB : Blk w g2 (.cells (heads g h T ++ ex).toArray 22 (0, 0))) (hp : T * h ≤ p.length) (hg : BB w g p) : LL w (some ⟨g2, 0, none⟩) (pieces g h p T) := by
  refine And.intro ?_ (pieces_rbs hg)
  rw [pieces_hdr hp]
  exact Cs.of_blk hB
theorem blk_ne {w : World} {g g2 : Nat} {p : List F} {c : Array Value} (hB : Blk w g2 (.cells c 22 (0, 0))) (hg : BB w g p) : g2 ≠ g := by
  rintro rfl
  have := hB.symm.trans hg
  simp at this
theorem below_drew (w : World) (n : Nat) : Below w.heap.size w (w.drewN n) := below_drewN (Below.refl _ _) n
/-- A quiet call, by what it keeps. -/
theorem qb {P : Program} {f : FuncId} {args : Array Value} {w : World} {x : Ending} (h : Calls P f args w fun e w' => e = x ∧ ∃ n, w' = w.drewN n) : Calls P f args w fun e w' => e = x ∧ Below w.heap.size w w' :=
  h.mono fun e w' ⟨he, n, hw⟩ => ⟨he, hw ▸ below_drew w n⟩
/-- Block g alone is written, and holds n bytes all the time. -/
def partR (g n : Nat) : World → World → Prop := fun w w' => w.grownBy w' (some g) ∧ ((∃ p : List F, p.length = n ∧ BB w g p) → ∃ p : List F, p.length = n ∧ BB w' g p)
theorem partPre (g n : Nat) : PreW (partR g n) where
  refl := fun w => And.intro (World.grownBy.refl _ _) id
  trans := fun h k => And.intro (grown_trans h.1 k.1) (fun q => k.2 (h.2 q))
  drew := fun w => And.intro ⟨rfl, rfl, rfl, Nat.le_refl _, fun _ _ _ => rfl⟩ id
  alloc := fun w o => And.intro (grown_made _ (World.grownBy_alloc w o none)) (fun ⟨p, h1, h2⟩ => ⟨p, h1, h2.below (below_alloc _ _)⟩)
theorem num0_calls (E : Nat → Addr) (w : World) (hE : ErrW w E errG) :
    Calls Tryd.prog 12 #[.nilIface] w fun e w' => e = .returned (.int .i64 0) ∧ Below w.heap.size w w' := num_calls E 0 w hE (by omega)
end Go.Proofs.YtejmbfoecacgmaaDoor
