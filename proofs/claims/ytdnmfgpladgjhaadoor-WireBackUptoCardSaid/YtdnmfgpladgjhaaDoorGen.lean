/- Small words on memory that the walks share. -/
import Derived.Test.YtdnmfgpladgjhaaDoorApB
import Derived.Test.YtdnmfgpladgjhaaDoorHead
import Derived.Test.YtdnmfgpladgjhaaDoorConv
import Derived.IntWalk
namespace Go.Proofs.YtdnmfgpladgjhaaDoor
open Go Go.RowKit Go.Proofs.YtdnmfgpladgjhaaDoor.Gf
set_option linter.unusedVariables false
set_option linter.unusedSimpArgs false

theorem below_drew (w : World) (n : Nat) : Below w.heap.size w (w.drewN n) := below_drewN (Below.refl _ _) n
/-- A quiet call, by what it keeps. -/
theorem qb {P : Program} {f : FuncId} {args : Array Value} {w : World} {x : Ending} (h : Calls P f args w fun e w' => e = x ∧ ∃ n, w' = w.drewN n) : Calls P f args w fun e w' => e = x ∧ Below w.heap.size w w' :=
  h.mono fun e w' ⟨he, n, hw⟩ => ⟨he, hw ▸ below_drew w n⟩
/-- A quiet call behind draws. -/
theorem quiet_at {P : Program} {f : FuncId} {args : Array Value} {w : World} {v : Value} {q x : Nat} (h : Calls P f args (w.drewN (q + x)) fun e w' => e = .returned v ∧ w' = w.drewN (q + x)) :
    Calls P f args (w.drewN (q + x)) fun e w' => e = .returned v ∧ ∃ n, w' = w.drewN (q + n) := h.mono fun e w' ⟨he, hw⟩ => ⟨he, x, hw⟩
theorem BB.mono {w w' : World} {g : Nat} {l : List F} (h : BB w g l) (hb : Below w.heap.size w w') : BB w' g l := h.below hb
/-- A block, whatever it holds. -/
def Blk (w : World) (g : Nat) (o : Obj) : Prop := w.heap[g]? = some o
theorem Blk.mono {w w' : World} {g : Nat} {o : Obj} (h : Blk w g o) (hb : Below w.heap.size w w') : Blk w' g o := (hb.block g (Array.getElem?_eq_some_iff.1 h).1).trans h
theorem heap_off {w w' : World} {g k : Nat} {o : Obj} (h : w.heap[k]? = some o) (hgr : w.grownBy w' (some g)) (hne : k ≠ g) : w'.heap[k]? = some o :=
  (hgr.block k (Array.getElem?_eq_some_iff.1 h).1 (by simpa using hne)).trans h
theorem Blk.off {w w' : World} {g k : Nat} {o : Obj} (h : Blk w k o) (hgr : w.grownBy w' (some g)) (hne : k ≠ g) : Blk w' k o := heap_off h hgr hne
/-- What block g alone changes. -/
theorem RB.off {w w' : World} {A : Option Addr} {l : List F} {g : Nat} (h : RB w A l) (hgr : w.grownBy w' (some g)) (hA : 0 < l.length → ∀ a, A = some a → a.block ≠ g) : RB w' A l := fun j u hu => by
  have hA := hA (by rcases Nat.lt_or_ge j (bvs l).length with h | h; (rw [bvs_length] at h; omega); (rw [List.getElem?_eq_none h] at hu; cases hu))
  obtain ⟨a, rfl, hc⟩ := h j u hu
  have hb : (a.add j).block = a.block := by unfold Addr.add; split <;> rfl
  exact ⟨a, rfl, hgr.cell hc (by rw [hb]; simpa using hA a rfl)⟩
/-- The bytes lie below a block number. -/
def Low (A : Option Addr) (B : Nat) : Prop := ∀ a, A = some a → a.block < B
theorem RB.low {w : World} {A : Option Addr} {l : List F} (h : RB w A l) (hp : 0 < l.length) : Low A w.heap.size := by
  intro a ha
  obtain ⟨a', ha', hc⟩ := RB.at h hp
  obtain rfl : a' = a := Option.some.inj (ha'.symm.trans ha)
  have := World.block_lt_of_cell? w _ hc
  have hb : (a'.add 0).block = a'.block := by unfold Addr.add; split <;> rfl
  rwa [hb] at this
theorem rb_post {w : World} {g s : Nat} {pre : List Value} {q : List F} {e : TypeId} {fr : Nat × Nat} (h : w.heap[g]? = some (.cells (pre ++ bvs q).toArray e fr)) (hs : pre.length = s) (n : Nat) : RB w (some ⟨g, s, none⟩) (q.take n) := by
  intro j u hu
  refine ⟨_, rfl, ?_⟩
  rw [bvs_get, List.getElem?_take] at hu
  split at hu
  · have hadd : (⟨g, s, none⟩ : Addr).add j = ⟨g, s + j, none⟩ := by unfold Addr.add; split <;> simp_all
    rw [hadd, cell_of_row _ _ _ _ _ _ h]
    simp only [List.getElem?_toArray]
    rw [List.getElem?_append_right (by omega), ← hs, Nat.add_sub_cancel_left, bvs_get]
    exact hu
  · cases hu
theorem BB.cut {w : World} {g o h : Nat} {p : List F} (hB : BB w g p) (ho : o + h ≤ p.length) : w.heap[g]? = some (.cells (bvs (p.take o) ++ (bvs ((p.drop o).take h) ++ []) ++ bvs (p.drop (o + h))).toArray 5 (0, 0)) := by
  have e : bvs (p.take o) ++ (bvs ((p.drop o).take h) ++ []) ++ bvs (p.drop (o + h)) = bvs p := by
    rw [List.append_nil, ← bvs_append, ← bvs_append]
    congr 1
    rw [List.append_assoc, ← List.drop_drop, List.take_append_drop, List.take_append_drop]
  rw [e]; exact hB
/-- Apart, the second list a part of a block of bytes. -/
theorem apart_part (A : Option Addr) (ca n : Nat) (la : List F) (g o h : Nat) (p : List F) (w : World) (hn : la.length = n) (hB : BB w g p) (ho : o + h ≤ p.length) (hh : h ≤ 140737488355000)
    (hK : ∀ (w' : World) (mid : List Value), mid.length = h → w'.heap[g]? = some (.cells (bvs (p.take o) ++ mid ++ bvs (p.drop (o + h))).toArray 5 (0, 0)) → w.grownBy w' (some g) → RB w' A la) :
    Calls Tryd.prog 37 #[.slice A n ca, .slice (some ⟨g, o, none⟩) h h] w fun e w' => e = .returned (.bool true) ∧ (∃ p', p'.length = p.length ∧ BB w' g p') ∧ w.grownBy w' (some g) := by
  subst hn
  have e1 : (bvs (p.take o)).length = o := by rw [bvs_length, List.length_take]; omega
  have e2 : ((p.drop o).take h).length = h := by rw [List.length_take, List.length_drop]; omega
  have q := apart_calls A ca la g h (bvs (p.take o)) (bvs (p.drop (o + h))) [] ((p.drop o).take h) w (hB.cut ho) (by simp [e2]) hK (by rw [e2]; exact hh)
  rw [e1, e2] at q
  refine q.mono ?_
  rintro e w' ⟨rfl, ⟨qs, ex', h1, h2, h3⟩, h4⟩
  obtain rfl : ex' = [] := List.length_eq_zero_iff.1 h2
  refine ⟨rfl, ⟨p.take o ++ qs ++ p.drop (o + h), ?_, ?_⟩, h4⟩
  · simp only [List.length_append, List.length_take, List.length_drop, h1]; omega
  · rw [List.append_nil, ← bvs_append, ← bvs_append] at h3; exact h3
theorem apart_piece (g o h : Nat) (p : List F) (w : World) (hB : BB w g p) (ho : o + h + h ≤ p.length) (hh : h ≤ 140737488355000) :
    Calls Tryd.prog 37 #[.slice (some ⟨g, o + h, none⟩) h h, .slice (some ⟨g, o, none⟩) h h] w fun e w' => e = .returned (.bool true) ∧ (∃ p', p'.length = p.length ∧ BB w' g p') ∧ w.grownBy w' (some g) := by
  refine apart_part _ _ h ((p.drop (o + h)).take h) g o h p w (by rw [List.length_take, List.length_drop]; omega) hB (by omega) hh ?_
  intro w' mid hm hc _
  exact rb_post hc (by rw [List.length_append, bvs_length, List.length_take, hm]; omega) h
theorem apart_other (A : Option Addr) (ca n : Nat) (la : List F) (g o h : Nat) (p : List F) (w : World) (hn : la.length = n) (ha : RB w A la) (hA : ∀ a, A = some a → a.block ≠ g) (hB : BB w g p) (ho : o + h ≤ p.length) (hh : h ≤ 140737488355000) :
    Calls Tryd.prog 37 #[.slice A n ca, .slice (some ⟨g, o, none⟩) h h] w fun e w' => e = .returned (.bool true) ∧ (∃ p', p'.length = p.length ∧ BB w' g p') ∧ w.grownBy w' (some g) := by
  refine apart_part A ca n la g o h p w hn hB ho hh ?_
  intro w' _ _ _ hgr j u hu
  obtain ⟨a, rfl, hc⟩ := ha j u hu
  have hb : (a.add j).block = a.block := by unfold Addr.add; split <;> rfl
  exact ⟨a, rfl, hgr.cell hc (by rw [hb]; simpa using hA a rfl)⟩
/-- Apart, the second list the head of a block, without the room behind it. -/
theorem apart_cut (A : Option Addr) (ca n : Nat) (la : List F) (g : Nat) (ds : List F) (ex : List Value) (m : Nat) (w : World) (hn : la.length = n) (ha : RB w A la) (hA : ∀ a, A = some a → a.block ≠ g)
    (hg : w.heap[g]? = some (.cells (bvs ds ++ ex).toArray 5 (0, 0))) (hm : ds.length = m) (hl : m ≤ 140737488355000) :
    Calls Tryd.prog 37 #[.slice A n ca, .slice (some ⟨g, 0, none⟩) m m] w
      fun e w' => e = .returned (.bool true) ∧ (∃ ds2 : List F, ds2.length = m ∧ w'.heap[g]? = some (.cells (bvs ds2 ++ ex).toArray 5 (0, 0))) ∧ w.grownBy w' (some g) := by
  subst hn hm
  refine (apart_calls A ca la g ds.length [] ex [] ds w (by simpa using hg) (by simp) ?_ hl).mono ?_
  · intro w' mid _ _ hgr
    exact ha.off hgr (fun _ => hA)
  · rintro e w' ⟨rfl, ⟨qs, ex', h1, h2, h3⟩, hgr⟩
    obtain rfl : ex' = [] := List.length_eq_zero_iff.1 h2
    exact ⟨rfl, ⟨qs, h1, by simpa using h3⟩, hgr⟩

theorem same_eq (A : Option Addr) (n ca : Nat) (B : Option Addr) (cb : Nat) (l : List F) (w : World) (hn : l.length = n) (ha : RB w A l) (hb : RB w B l) :
    Calls Tryd.prog 14 #[.slice A n ca, .slice B n cb] w fun e w' => e = .returned (.bool true) ∧ w' = w := by
  subst hn
  refine (same_calls A ca l B cb l w ha hb).mono ?_
  rintro e w' ⟨rfl, rfl⟩
  exact ⟨by rw [sameB_self], rfl⟩
theorem own_empty (w : World) : (w.alloc (.cells #[] 5)).ownsRow w.heap.size 5 1 (.slice (some ⟨w.heap.size, 0, none⟩) 0 0) 0 (bvs []) :=
  own_of_blk (base := w.heap.size) (e := 5) (xs := []) (ex := []) (Nat.le_refl _) (heap_alloc_new w (.cells #[] 5)) (by unfold maxLen; simp)
theorem make_bytes {w : World} {ops : Array Oper} {rest : List Oper} {o : Oper} {a : Act} {Q : Exit → Act → World → Prop} (n : Nat) (hn : n ≤ 140737488355328) (hgd : o.guard = none) {x y : Operand} (ho : o.op = .makeSlice 26 x y)
    (hx : a.eval x = .int .i64 n) (hy : a.eval y = .int .i64 n)
    (h : ∀ w', BB w' w.heap.size (List.replicate n 0) → Below w.heap.size w w' → wpList Tryd.prog ops Q rest (a.put o.dst (.slice (some ⟨w.heap.size, 0, none⟩) n n)) w') : wpList Tryd.prog ops Q (o :: rest) a w := by
  obtain ⟨i8, hi, hz0, hz1, hz2⟩ := info_parts info8
  refine wpList_make_full _ hgd x y 26 ho w.heap.size 5 i8 (.int .u8 0) 1 Tryd.underlying26 hi hz0 hz1 .i64 .i64 _ _ _ hx hy rfl rfl (by rw [hz2]; omega) (by unfold maxLen; omega) (Nat.le_refl _) ?_
  intro w' hown hgr
  exact h w' (BB.of_zeros hown).1 (below_made hgr)
/-- Block g alone is written, and holds n bytes all the time. -/
def partR (g n : Nat) : World → World → Prop := fun w w' => w.grownBy w' (some g) ∧ ((∃ p : List F, p.length = n ∧ BB w g p) → ∃ p : List F, p.length = n ∧ BB w' g p)
theorem partPre (g n : Nat) : PreW (partR g n) where
  refl := fun w => And.intro (World.grownBy.refl _ _) id
  trans := fun h k => And.intro (grown_trans h.1 k.1) (fun q => k.2 (h.2 q))
  drew := fun w => And.intro ⟨rfl, rfl, rfl, Nat.le_refl _, fun _ _ _ => rfl⟩ id
  alloc := fun w o => And.intro (grown_made _ (World.grownBy_alloc w o none)) (fun ⟨p, h1, h2⟩ => ⟨p, h1, h2.below (below_alloc _ _)⟩)
theorem rb_take {w : World} {A : Option Addr} {l : List F} (h : RB w A l) (n : Nat) : RB w A (l.take n) := by
  have := Cs.take h n
  rwa [show (bvs l).take n = bvs (l.take n) by simp [bvs, List.map_take]] at this
end Go.Proofs.YtdnmfgpladgjhaaDoor
