/- Memory in few words: lists of bytes that are read, rows of the call's own, and what becomes of them when memory is made or another row is written. No function of the program in sight. -/
import Derived.Test.YtfanaaiakalccaaProg
import Derived.Test.YtfanaaiakalccaaGfNum
import Derived.WalkKit
import Derived.Below
import Derived.Laws.AppendOwn
import Derived.Laws.OwnMore
import Derived.OwnWalk
import Derived.Deep.Draws
import Derived.Deep.AppendLies
namespace Go.Proofs.Ytfanaaiakalccaa
open Go Go.RowKit Go.Proofs.Ytfanaaiakalccaa.Gf
set_option linter.unusedVariables false
set_option linter.unusedSimpArgs false

theorem ret_int {k : IntKind} {a b : Int} (h : a = b) : Ending.returned (.int k a) = .returned (.int k b) := by rw [h]
theorem ret_ib {k : IntKind} {a b : Int} {x y : Bool} (h : a = b) (h2 : x = y) : Ending.returned (.tuple #[.int k a, .bool x]) = .returned (.tuple #[.int k b, .bool y]) := by rw [h, h2]
theorem ret_bool {a b : Bool} (h : a = b) : Ending.returned (.bool a) = .returned (.bool b) := by rw [h]

/-- A byte as a value; a list of bytes as cells. -/
def bv (x : F) : Value := .int .u8 (i x)
def bvs (l : List F) : List Value := l.map bv
theorem bv_def (x : F) : bv x = .int .u8 (i x) := rfl
theorem bvs_length (l : List F) : (bvs l).length = l.length := by simp [bvs]
theorem bvs_append (l m : List F) : bvs (l ++ m) = bvs l ++ bvs m := by simp [bvs]
theorem bvs_get (l : List F) (j : Nat) : (bvs l)[j]? = l[j]?.map bv := by simp [bvs]
theorem bvs_one (l : List F) : ∀ u ∈ bvs l, u.oneCell' = true := by
  intro u hu
  simp only [bvs, List.mem_map] at hu
  obtain ⟨x, _, rfl⟩ := hu
  rfl
theorem bvs_set (l : List F) (j : Nat) (x : F) : (bvs l).set j (bv x) = bvs (l.set j x) := by simp [bvs, List.map_set]
theorem bvs_inj {l m : List F} (h : bvs l = bvs m) : l = m := by
  induction l generalizing m with
  | nil => cases m with
    | nil => rfl
    | cons b m => cases h
  | cons a l ih => cases m with
    | nil => cases h
    | cons b m =>
      simp only [bvs, List.map_cons, List.cons.injEq, bv, Value.int.injEq, true_and] at h
      rw [i_inj h.1, ih h.2]

/-- The cells from an address on (none: no cell). -/
def Cs (w : World) (A : Option Addr) (cs : List Value) : Prop := ∀ (j : Nat) (u : Value), cs[j]? = some u → ∃ a, A = some a ∧ w.cell? (a.add j) = some u
theorem Cs.nil (w : World) (A : Option Addr) : Cs w A [] := fun j u h => by simp at h
theorem Cs.mono {w w' : World} {A : Option Addr} {cs : List Value} (h : Cs w A cs) (hb : Below w.heap.size w w') : Cs w' A cs := by
  intro j u hu
  obtain ⟨a, ha, hc⟩ := h j u hu
  exact ⟨a, ha, (hb.cell (World.block_lt_of_cell? w _ hc)).trans hc⟩
theorem Cs.at {w : World} {A : Option Addr} {cs : List Value} (h : Cs w A cs) {j : Nat} {u : Value} (hj : cs[j]? = some u) : ∃ a, A = some a ∧ w.cell? (a.add j) = some u := h j u hj
theorem Cs.take {w : World} {A : Option Addr} {cs : List Value} (h : Cs w A cs) (n : Nat) : Cs w A (cs.take n) := by
  intro j u hu
  rw [List.getElem?_take] at hu
  split at hu
  · exact h j u hu
  · cases hu
theorem add_add (a : Addr) (m n : Nat) : (a.add m).add n = a.add (m + n) := by
  unfold Addr.add
  by_cases hm : m = 0 <;> by_cases hn : n = 0 <;> simp [hm, hn]
  omega
theorem Cs.drop {w : World} {a : Addr} {cs : List Value} (h : Cs w (some a) cs) (n : Nat) : Cs w (some (a.add n)) (cs.drop n) := by
  intro j u hu
  rw [List.getElem?_drop] at hu
  obtain ⟨a', ha, hc⟩ := h _ _ hu
  cases ha
  exact ⟨_, rfl, by rw [add_add]; exact hc⟩
theorem Cs.of_blk {w : World} {g : Nat} {cs ex : List Value} {e : TypeId} {fr : Nat × Nat} (h : w.heap[g]? = some (.cells (cs ++ ex).toArray e fr)) : Cs w (some ⟨g, 0, none⟩) cs := by
  intro j u hu
  refine ⟨_, rfl, ?_⟩
  have hadd : (⟨g, 0, none⟩ : Addr).add j = ⟨g, j, none⟩ := by unfold Addr.add; split <;> simp_all
  rw [hadd]
  simp only [World.cell?, h]
  have hl : j < cs.length := by
    rcases Nat.lt_or_ge j cs.length with h | h
    · exact h
    · rw [List.getElem?_eq_none h] at hu; cases hu
  simp only [Option.isSome_none, Bool.false_eq_true, if_false, List.getElem?_toArray]
  rw [List.getElem?_append_left hl]
  exact hu
theorem own_add (g j : Nat) : (⟨g, 0, none⟩ : Addr).add j = ⟨g, j, none⟩ := by unfold Addr.add; split <;> simp_all

/-- The bytes from an address on. -/
abbrev RB (w : World) (A : Option Addr) (l : List F) : Prop := Cs w A (bvs l)
theorem RB.at {w : World} {A : Option Addr} {l : List F} (h : RB w A l) {j : Nat} (hj : j < l.length) : ∃ a, A = some a ∧ w.cell? (a.add j) = some (.int .u8 (i l[j])) :=
  h j _ (by rw [bvs_get, List.getElem?_eq_getElem hj]; rfl)

/-- It goes through only where the next operation is this builtin's call, with these operands. -/
theorem gate_b {P : Program} {ops : Array Oper} {rest : List Oper} {o : Oper} {a : Act} {W : World} {Q : Exit → Act → World → Prop} {b : Builtin} {xs : Array Operand} {ts : Array TypeId}
    (_ho : o.op = .call { callee := .builtin b, args := xs, argTypes := ts }) (h : wpList P ops Q (o :: rest) a W) : wpList P ops Q (o :: rest) a W := h

/-! ### a row of one's own -/
theorem below_grown {w w' : World} {row : Option Nat} (h : w.grownBy w' row) {B : Nat} (hB : B ≤ w.heap.size) (hr : ∀ k, row = some k → B ≤ k) : Below B w w' :=
  (Below.refl B w).grown h hB hr
theorem below_made {w w' : World} (h : w.grownBy w' none) : Below w.heap.size w w' := below_grown h (Nat.le_refl _) (fun k hk => by cases hk)
theorem below_step {B : Nat} {a w w' : World} (h : Below B a w) (k : Below w.heap.size w w') (hB : B ≤ w.heap.size) : Below B a w' := h.trans (k.mono hB)
theorem below_drewN {B : Nat} {a w : World} (h : Below B a w) (n : Nat) : Below B a (w.drewN n) := ⟨h.os, h.tape, h.output, h.size, h.block⟩
theorem below_le {B : Nat} {a w : World} (h : Below B a w) (hB : B ≤ a.heap.size) : B ≤ w.heap.size := Nat.le_trans hB h.size
theorem own_below {w w' : World} {base : Nat} {e : TypeId} {size : Nat} {v : Value} {n : Nat} {xs : List Value} (h : w.ownsRow base e size v n xs) (hb : Below w.heap.size w w') : w'.ownsRow base e size v n xs := by
  obtain ⟨h1, h2⟩ := h
  refine ⟨h1, ?_⟩
  rcases h2 with h2 | ⟨g, cap, cur, hv, hg, hh, r⟩
  · exact Or.inl h2
  · exact Or.inr ⟨g, cap, cur, hv, hg, by rw [hb.block g (Array.getElem?_eq_some_iff.1 hh).1]; exact hh, r⟩
theorem own_low {w : World} {base base' : Nat} {e : TypeId} {size : Nat} {v : Value} {n : Nat} {xs : List Value} (h : w.ownsRow base e size v n xs) (hb : base' ≤ base) : w.ownsRow base' e size v n xs := by
  obtain ⟨h1, h2⟩ := h
  refine ⟨h1, ?_⟩
  rcases h2 with h2 | ⟨g, cap, cur, hv, hg, r⟩
  · exact Or.inl h2
  · exact Or.inr ⟨g, cap, cur, hv, Nat.le_trans hb hg, r⟩
/-- Its form: a slice; its block, whole. -/
theorem own_form {w : World} {base : Nat} {e : TypeId} {v : Value} {n : Nat} {xs : List Value} (h : w.ownsRow base e 1 v n xs) :
    ∃ A c, v = .slice A n c ∧ n ≤ c ∧ Cs w A xs ∧ xs.length = n := by
  obtain ⟨h1, h2⟩ := h
  rw [Nat.mul_one] at h1
  rcases h2 with ⟨rfl, rfl⟩ | ⟨g, cap, cur, rfl, hg, hh, hn, hm, hs, ht⟩
  · exact ⟨none, 0, rfl, Nat.le_refl _, by rw [List.eq_nil_of_length_eq_zero h1]; exact Cs.nil _ _, h1⟩
  · refine ⟨some ⟨g, 0, none⟩, cap, rfl, hn, ?_, h1⟩
    rw [Nat.mul_one] at ht
    refine Cs.of_blk (ex := cur.toList.drop n) (e := e) (fr := (0, 0)) ?_
    rw [hh, ← ht, List.take_append_drop]
theorem own_blk {w : World} {base : Nat} {e : TypeId} {v : Value} {n : Nat} {xs : List Value} (h : w.ownsRow base e 1 v n xs) (hn : 0 < n ∨ v ≠ .slice none 0 0) :
    ∃ g ex, v = .slice (some ⟨g, 0, none⟩) n (n + ex.length) ∧ base ≤ g ∧ w.heap[g]? = some (.cells (xs ++ ex).toArray e (0, 0)) ∧ xs.length = n ∧ n + ex.length ≤ maxLen := by
  obtain ⟨h1, h2⟩ := h
  rw [Nat.mul_one] at h1
  rcases h2 with ⟨rfl, rfl⟩ | ⟨g, cap, cur, rfl, hg, hh, hn, hm, hs, ht⟩
  · rcases hn with hn | hn
    · omega
    · exact absurd rfl hn
  · rw [Nat.mul_one] at hs ht
    have hl : n + (cur.toList.drop n).length = cap := by simp; omega
    refine ⟨g, cur.toList.drop n, by rw [hl], hg, ?_, h1, by omega⟩
    rw [hh, ← ht, List.take_append_drop]
theorem own_of_blk {w : World} {base : Nat} {e : TypeId} {g : Nat} {xs ex : List Value} (hb : base ≤ g) (h : w.heap[g]? = some (.cells (xs ++ ex).toArray e (0, 0))) (hm : xs.length + ex.length ≤ maxLen) :
    w.ownsRow base e 1 (.slice (some ⟨g, 0, none⟩) xs.length (xs.length + ex.length)) xs.length xs :=
  ⟨by omega, Or.inr ⟨g, _, _, rfl, hb, h, by omega, hm, by simp, by simp⟩⟩

/-- Behind a call that makes memory and hands back bytes of its own. -/
def Made (w w' : World) (e : Ending) (r : List F) : Prop := ∃ v, e = .returned v ∧ w'.ownsRow w.heap.size 5 1 v r.length (bvs r) ∧ Below w.heap.size w w'
theorem Made.form {w w' : World} {e : Ending} {r : List F} (h : Made w w' e r) :
    ∃ A c, e = .returned (.slice A r.length c) ∧ r.length ≤ c ∧ RB w' A r ∧ w'.ownsRow w.heap.size 5 1 (.slice A r.length c) r.length (bvs r) ∧ Below w.heap.size w w' := by
  obtain ⟨v, rfl, ho, hb⟩ := h
  obtain ⟨A, c, rfl, hc, hr, _⟩ := own_form ho
  exact ⟨A, c, rfl, hc, hr, ho, hb⟩

theorem info8 : (Try.prog.info? 5).map (fun i => (i.zero, i.size, i.bytes)) = some (some (.int .u8 0), 1, 1) := by kernel_rfl
theorem zeros_bytes (n : Nat) : (madeCells (Value.cells (.int .u8 0)) (n * 1)).toList = bvs (List.replicate n 0) := by
  rw [Nat.mul_one]
  show (madeCells #[.int .u8 0] n).toList = _
  rw [toList_madeCells_one]
  simp [bvs, bv, i]

/-- A block of bytes, whole. -/
abbrev BB (w : World) (g : Nat) (l : List F) : Prop := w.heap[g]? = some (.cells (bvs l).toArray 5 (0, 0))
theorem BB.cell {w : World} {g : Nat} {l : List F} (h : BB w g l) {j : Nat} (hj : j < l.length) : w.cell? ⟨g, j, none⟩ = some (.int .u8 (i l[j])) := by
  rw [cell_of_row w g j _ _ _ h]
  simp [bvs, hj, bv]
theorem BB.free {w : World} {g : Nat} {l : List F} (h : BB w g l) (j : Nat) : w.frozen? ⟨g, j, none⟩ = false := frozen_of_row w g j _ _ h
theorem BB.set {w : World} {g : Nat} {l : List F} (h : BB w g l) (j : Nat) (x : F) : BB (w.setCell ⟨g, j, none⟩ (.int .u8 (i x))) g (l.set j x) := by
  have := heap_setCell_same w g j _ _ (.int .u8 (i x)) h
  show _ = _
  rw [this]
  congr 2
  rw [← bvs_set]
  simp [bv]
theorem BB.lt {w : World} {g : Nat} {l : List F} (h : BB w g l) : g < w.heap.size := (Array.getElem?_eq_some_iff.1 h).1
theorem BB.below {w w' : World} {g : Nat} {l : List F} (h : BB w g l) (hb : Below w.heap.size w w') : BB w' g l := (hb.block g h.lt).trans h
theorem BB.own {w : World} {g base : Nat} {l : List F} (h : BB w g l) (hb : base ≤ g) (hm : l.length ≤ maxLen) : w.ownsRow base 5 1 (.slice (some ⟨g, 0, none⟩) l.length l.length) l.length (bvs l) := by
  have := own_of_blk (w := w) (base := base) (e := 5) (xs := bvs l) (ex := []) hb (by rw [List.append_nil]; exact h) (by simpa [bvs_length] using hm)
  simpa [bvs_length] using this
theorem BB.rb {w : World} {g : Nat} {l : List F} (h : BB w g l) : RB w (some ⟨g, 0, none⟩) l := by
  refine Cs.of_blk (ex := []) (e := 5) (fr := (0, 0)) ?_
  rw [List.append_nil]; exact h
/-- A made row of bytes, whole: its block. -/
theorem BB.of_made {w : World} {base g : Nat} {l : List F} (h : w.ownsRow base 5 1 (.slice (some ⟨g, 0, none⟩) l.length l.length) l.length (bvs l)) : BB w g l ∧ base ≤ g := by
  obtain ⟨g', ex, hv, hb, hh, _, _⟩ := own_blk h (Or.inr (by simp))
  simp only [Value.slice.injEq, Option.some.injEq, Addr.mk.injEq, and_true, true_and] at hv
  obtain ⟨rfl, hl⟩ := hv
  have : ex = [] := List.eq_nil_of_length_eq_zero (by omega)
  subst this
  rw [List.append_nil] at hh
  exact ⟨hh, hb⟩
theorem BB.of_zeros {w : World} {base g n : Nat} (h : w.ownsRow base 5 1 (.slice (some ⟨g, 0, none⟩) n n) n (madeCells (Value.cells (.int .u8 0)) (n * 1)).toList) : BB w g (List.replicate n 0) ∧ base ≤ g := by
  rw [zeros_bytes] at h
  refine BB.of_made (l := List.replicate n 0) ?_
  simpa using h
theorem Cs.some {w : World} {A : Option Addr} {cs : List Value} (h : Cs w A cs) (hp : 0 < cs.length) : ∃ ad, A = some ad ∧ ∀ j v, cs[j]? = some v → w.cell? (ad.add j) = some v := by
  obtain ⟨a, rfl, _⟩ := h 0 cs[0] (List.getElem?_eq_getElem hp)
  refine ⟨a, rfl, fun j v hj => ?_⟩
  obtain ⟨a', ha, hc⟩ := h j v hj
  cases ha
  exact hc
theorem size8 : (Try.prog.info? 5).map (·.size) = some 1 := by kernel_rfl
theorem below_alloc (w : World) (o : Obj) : Below w.heap.size w (w.alloc o) := (Below.refl _ _).alloc (Nat.le_refl _) _
/-- A literal list of bytes, just made. -/
theorem RB.lit {w : World} {e : TypeId} {g : Nat} (l : List F) (cs : Array Value) (hg : g = w.heap.size) (h : cs = (bvs l).toArray) : RB (w.alloc (.cells cs e)) (some ⟨g, 0, none⟩) l := by
  subst h hg
  refine Cs.of_blk (ex := []) (e := e) (fr := (0, 0)) ?_
  rw [List.append_nil]
  exact heap_alloc_new w _
theorem RB.alloc {w : World} {A : Option Addr} {l : List F} (h : RB w A l) (o : Obj) : RB (w.alloc o) A l := h.mono (below_alloc w o)
end Go.Proofs.Ytfanaaiakalccaa
