/- Memory in few words: lists of bytes that are read, rows of the call's own, and what becomes of them when memory is made or another row is written. No function of the program in sight. -/
import Derived.Test.YtdnmfgpladgjhaaDoorProg
import Derived.Test.YtdnmfgpladgjhaaDoorGfNum
import Derived.WalkKit
import Derived.Below
import Derived.Laws.AppendOwn
import Derived.Laws.OwnMore
import Derived.OwnWalk
import Derived.Deep.Draws
import Derived.Deep.AppendLies
namespace Go.Proofs.YtdnmfgpladgjhaaDoor
open Go Go.RowKit Go.Proofs.YtdnmfgpladgjhaaDoor.Gf
set_option linter.unusedVariables false
set_option linter.unusedSimpArgs false

theorem ret_int {k : IntKind} {a b : Int} (h : a = b) : Ending.returned (.int k a) = .returned (.int k b) := by rw [h]
theorem ret_ib {k : IntKind} {a b : Int} {x y : Bool} (h : a = b) (h2 : x = y) : Ending.returned (.tuple #[.int k a, .bool x]) = .returned (.tuple #[.int k b, .bool y]) := by rw [h, h2]
theorem ret_bool {a b : Bool} (h : a = b) : Ending.returned (.bool a) = .returned (.bool b) := by rw [h]

/-- A byte as a value; a list of bytes as cells. -/
def bv (x : F) : Value := .int .u8 (i x)
def bvs (l : List F) : List Value := l.map bv
theorem bv_def (x : F) : bv x = .int .u8 (i x) := rfl
theorem bvs_length (l : List F) : (bvs l).length = l.length := by simp [bvs]
theorem bvs_append (l m : List F) : bvs (l ++ m) = bvs l ++ bvs m := by simp [bvs]
theorem bvs_get (l : List F) (j : Nat) : (bvs l)[j]? = l[j]?.map bv := by simp [bvs]
theorem bvs_one (l : List F) : ∀ u ∈ bvs l, u.oneCell' = true := by
  intro u hu
  simp only [bvs, List.mem_map] at hu
  obtain ⟨x, _, rfl⟩ := hu
  rfl
theorem bvs_set (l : List F) (j : Nat) (x : F) : (bvs l).set j (bv x) = bvs (l.set j x) := by simp [bvs, List.map_set]
theorem bvs_inj {l m : List F} (h : bvs l = bvs m) : l = m := by
  induction l generalizing m with
  | nil => cases m with
    | nil => rfl
    | cons b m => cases h
  | cons a l ih => cases m with
    | nil => cases h
    | cons b m =>
      simp only [bvs, List.map_cons, List.cons.injEq, bv, Value.int.injEq, true_and] at h
      rw [i_inj h.1, ih h.2]

/-- The cells from an address on (none: no cell). -/
def Cs (w : World) (A : Option Addr) (cs : List Value) : Prop := ∀ (j : Nat) (u : Value), cs[j]? = some u → ∃ a, A = some a ∧ w.cell? (a.add j) = some u
theorem Cs.nil (w : World) (A : Option Addr) : Cs w A [] := fun j u h => by simp at h
theorem Cs.mono {w w' : World} {A : Option Addr} {cs : List Value} (h : Cs w A cs) (hb : Below w.heap.size w w') : Cs w' A cs := by
  intro j u hu
  obtain ⟨a, ha, hc⟩ := h j u hu
  exact ⟨a, ha, (hb.cell (World.block_lt_of_cell? w _ hc)).trans hc⟩
theorem Cs.at {w : World} {A : Option Addr} {cs : List Value} (h : Cs w A cs) {j : Nat} {u : Value} (hj : cs[j]? = some u) : ∃ a, A = some a ∧ w.cell? (a.add j) = some u := h j u hj
theorem Cs.take {w : World} {A : Option Addr} {cs : List Value} (h : Cs w A cs) (n : Nat) : Cs w A (cs.take n) := by
  intro j u hu
  rw [List.getElem?_take] at hu
  split at hu
  · exact h j u hu
  · cases hu
theorem add_add (a : Addr) (m n : Nat) : (a.add m).add n = a.add (m + n) := by
  unfold Addr.add
  by_cases hm : m = 0 <;> by_cases hn : n = 0 <;> simp [hm, hn]
  omega
theorem Cs.drop {w : World} {a : Addr} {cs : List Value} (h : Cs w (some a) cs) (n : Nat) : Cs w (some (a.add n)) (cs.drop n) := by
  intro j u hu
  rw [List.getElem?_drop] at hu
  obtain ⟨a', ha, hc⟩ := h _ _ hu
  cases ha
  exact ⟨_, rfl, by rw [add_add]; exact hc⟩
theorem Cs.of_blk {w : World} {g : Nat} {cs ex : List Value} {e : TypeId} {fr : Nat × Nat} (h : w.heap[g]? = some (.cells (cs ++ ex).toArray e fr)) : Cs w (some ⟨g, 0, none⟩) cs := by
  intro j u hu
  refine ⟨_, rfl, ?_⟩
  have hadd : (⟨g, 0, none⟩ : Addr).add j = ⟨g, j, none⟩ := by unfold Addr.add; split <;> simp_all
  rw [hadd]
  simp only [World.cell?, h]
  have hl : j < cs.length := by
    rcases Nat.lt_or_ge j cs.length with h | h
    · exact h
    · rw [List.getElem?_eq_none h] at hu; cases hu
  simp only [Option.isSome_none, Bool.false_eq_true, if_false, List.getElem?_toArray]
  rw [List.getElem?_append_left hl]
  exact hu
theorem own_add (g j : Nat) : (⟨g, 0, none⟩ : Addr).add j = ⟨g, j, none⟩ := by unfold Addr.add; split <;> simp_all

/-- The bytes from an address on. -/
abbrev RB (w : World) (A : Option Addr) (l : List F) : Prop := Cs w A (bvs l)
theorem RB.at {w : World} {A : Option Addr} {l : List F} (h : RB w A l) {j : Nat} (hj : j < l.length) : ∃ a, A = some a ∧ w.cell? (a.add j) = some (.int .u8 (i l[j])) :=
  h j _ (by rw [bvs_get, List.getElem?_eq_getElem hj]; rfl)

/-- It goes through only where the next operation is this builtin's call, with these operands. -/
theorem gate_b {P : Program} {ops : Array Oper} {rest : List Oper} {o : Oper} {a : Act} {W : World} {Q : Exit → Act → World → Prop} {b : Builtin} {xs : Array Operand} {ts : Array TypeId}
    (_ho : o.op = .call { callee := .builtin b, args := xs, argTypes := ts }) (h : wpList P ops Q (o :: rest) a W) : wpList P ops Q (o :: rest) a W := h

/-! ### a row of one's own -/
theorem below_grown {w w' : World} {row : Option Nat} (h : w.grownBy w' row) {B : Nat} (hB : B ≤ w.heap.size) (hr : ∀ k, row = some k → B ≤ k) : Below B w w' :=
  (Below.refl B w).grown h hB hr
theorem below_made {w w' : World} (h : w.grownBy w' none) : Below w.heap.size w w' := below_grown h (Nat.le_refl _) (fun k hk => by cases hk)
theorem below_step {B : Nat} {a w w' : World} (h : Below B a w) (k : Below w.heap.size w w') (hB : B ≤ w.heap.size) : Below B a w' := h.trans (k.mono hB)
theorem below_drewN {B : Nat} {a w : World} (h : Below B a w) (n : Nat) : Below B a (w.drewN n) := ⟨h.os, h.tape, h.output, h.size, h.block⟩
theorem below_le {B : Nat} {a w : World} (h : Below B a w) (hB : B ≤ a.heap.size) : B ≤ w.heap.size := Nat.le_trans hB h.size
theorem own_below {w w' : World} {base : Nat} {e : TypeId} {size : Nat} {v : Value} {n : Nat} {xs : List Value} (h : w.ownsRow base e size v n xs) (hb : Below w.heap.size w w') : w'.ownsRow base e size v n xs := by
  obtain ⟨h1, h2⟩ := h
  refine ⟨h1, ?_⟩
  rcases h2 with h2 | ⟨g, cap, cur, hv, hg, hh, r⟩
  · exact Or.inl h2
  · exact Or.inr ⟨g, cap, cur, hv, hg, by rw [hb.block g (Array.getElem?_eq_some_iff.1 hh).1]; exact hh, r⟩
theorem own_low {w : World} {base base' : Nat} {e : TypeId} {size : Nat} {v : Value} {n : Nat} {xs : List Value} (h : w.ownsRow base e size v n xs) (hb : base' ≤ base) : w.ownsRow base' e size v n xs := by
  obtain ⟨h1, h2⟩ := h
  refine ⟨h1, ?_⟩
  rcases h2 with h2 | ⟨g, cap, cur, hv, hg, r⟩
  · exact Or.inl h2
  · exact Or.inr ⟨g, cap, cur, hv, Nat.le_trans hb hg, r⟩
/-- Its form: a slice; its block, whole. -/
theorem own_form {w : World} {base : Nat} {e : TypeId} {v : Value} {n : Nat} {xs : List Value} (h : w.ownsRow base e 1 v n xs) :
    ∃ A c, v = .slice A n c ∧ n ≤ c ∧ Cs w A xs ∧ xs.length = n := by
  obtain ⟨h1, h2⟩ := h
  rw [Nat.mul_one] at h1
  rcases h2 with ⟨rfl, rfl⟩ | ⟨g, cap, cur, rfl, hg, hh, hn, hm, hs, ht⟩
  · exact ⟨none, 0, rfl, Nat.le_refl _, by rw [List.eq_nil_of_length_eq_zero h1]; exact Cs.nil _ _, h1⟩
  · refine ⟨some ⟨g, 0, none⟩, cap, rfl, hn, ?_, h1⟩
    rw [Nat.mul_one] at ht
    refine Cs.of_blk (ex := cur.toList.drop n) (e := e) (fr := (0, 0)) ?_
    rw [hh, ← ht, List.take_append_drop]
theorem own_blk {w : World} {base : Nat} {e : TypeId} {v : Value} {n : Nat} {xs : List Value} (h : w.ownsRow base e 1 v n xs) (hn : 0 < n ∨ v ≠ .slice none 0 0) :
    ∃ g ex, v = .slice (some ⟨g, 0, none⟩) n (n + ex.length) ∧ base ≤ g ∧ w.heap[g]? = some (.cells (xs ++ ex).toArray e (0, 0)) ∧ xs.length = n ∧ n + ex.length ≤ maxLen := by
  obtain ⟨h1, h2⟩ := h
  rw [Nat.mul_one] at h1
  rcases h2 with ⟨rfl, rfl⟩ | ⟨g, cap, cur, rfl, hg, hh, hn, hm, hs, ht⟩
  · rcases hn with hn | hn
    · omega
    · exact absurd rfl hn
  · rw [Nat.mul_one] at hs ht
    have hl : n + (cur.toList.drop n).length = cap := by simp; omega
    refine ⟨g, cur.toList.drop n, by rw [hl], hg, ?_, h1, by omega⟩
    rw [hh, ← ht, List.take_append_drop]
theorem own_of_blk {w : World} {base : Nat} {e : TypeId} {g : Nat} {xs ex : List Value} (hb : base ≤ g) (h : w.heap[g]? = some (.cells (xs ++ ex).toArray e (0, 0))) (hm : xs.length + ex.length ≤ maxLen) :
    w.ownsRow base e 1 (.slice (some ⟨g, 0, none⟩) xs.length (xs.length + ex.length)) xs.length xs :=
  ⟨by omega, Or.inr ⟨g, _, _, rfl, hb, h, by omega, hm, by simp, by simp⟩⟩

/-- Behind a call that makes memory and hands back bytes of its own. -/
def Made (w w' : World) (e : Ending) (r : List F) : Prop := ∃ v, e = .returned v ∧ w'.ownsRow w.heap.size 5 1 v r.length (bvs r) ∧ Below w.heap.size w w'
theorem Made.form {w w' : World} {e : Ending} {r : List F} (h : Made w w' e r) :
    ∃ A c, e = .returned (.slice A r.length c) ∧ r.length ≤ c ∧ RB w' A r ∧ w'.ownsRow w.heap.size 5 1 (.slice A r.length c) r.length (bvs r) ∧ Below w.heap.size w w' := by
  obtain ⟨v, rfl, ho, hb⟩ := h
  obtain ⟨A, c, rfl, hc, hr, _⟩ := own_form ho
  exact ⟨A, c, rfl, hc, hr, ho, hb⟩

theorem info8 : (Tryd.prog.info? 5).map (fun i => (i.zero, i.size, i.bytes)) = some (some (.int .u8 0), 1, 1) := by kernel_rfl
theorem zeros_bytes (n : Nat) : (madeCells (Value.cells (.int .u8 0)) (n * 1)).toList = bvs (List.replicate n 0) := by
  rw [Nat.mul_one]
  show (madeCells #[.int .u8 0] n).toList = _
  rw [toList_madeCells_one]
  simp [bvs, bv, i]

/-- A block of bytes, whole. -/
abbrev BB (w : World) (g : Nat) (l : List F) : Prop := w.heap[g]? = some (.cells (bvs l).toArray 5 (0, 0))
theorem BB.cell {w : World} {g : Nat} {l : List F} (h : BB w g l) {j : Nat} (hj : j < l.length) : w.cell? ⟨g, j, none⟩ = some (.int .u8 (i l[j])) := by
  rw [cell_of_row w g j _ _ _ h]
  simp [bvs, hj, bv]
theorem BB.free {w : World} {g : Nat} {l : List F} (h : BB w g l) (j : Nat) : w.frozen? ⟨g, j, none⟩ = false := frozen_of_row w g j _ _ h
theorem BB.set {w : World} {g : Nat} {l : List F} (h : BB w g l) (j : Nat) (x : F) : BB (w.setCell ⟨g, j, none⟩ (.int .u8 (i x))) g (l.set j x) := by
  have := heap_setCell_same w g j _ _ (.int .u8 (i x)) h
  show _ = _
  rw [this]
  congr 2
  rw [← bvs_set]
  simp [bv]
theorem BB.lt {w : World} {g : Nat} {l : List F} (h : BB w g l) : g < w.heap.size := (Array.getElem?_eq_some_iff.1 h).1
theorem BB.below {w w' : World} {g : Nat} {l : List F} (h : BB w g l) (hb : Below w.heap.size w w') : BB w' g l := (hb.block g h.lt).trans h
theorem BB.own {w : World} {g base : Nat} {l : List F} (h : BB w g l) (hb : base ≤ g) (hm : l.length ≤ maxLen) : w.ownsRow base 5 1 (.slice (some ⟨g, 0, none⟩) l.length l.length) l.length (bvs l) := by
  have := own_of_blk (w := w) (base := base) (e := 5) (xs := bvs l) (ex := []) hb (by rw [List.append_nil]; exact h) (by simpa [bvs_length] using hm)
  simpa [bvs_length] using this
theorem BB.rb {w : World} {g : Nat} {l : List F} (h : BB w g l) : RB w (some ⟨g, 0, none⟩) l := by
  refine Cs.of_blk (ex := []) (e := 5) (fr := (0, 0)) ?_
  rw [List.append_nil]; exact h
/-- A made row of bytes, whole: its block. -/
theorem BB.of_made {w : World} {base g : Nat} {l : List F} (h : w.ownsRow base 5 1 (.slice (some ⟨g, 0, none⟩) l.length l.length) l.length (bvs l)) : BB w g l ∧ base ≤ g := by
  obtain ⟨g', ex, hv, hb, hh, _, _⟩ := own_blk h (Or.inr (by simp))
  simp only [Value.slice.injEq, Option.some.injEq, Addr.mk.injEq, and_true, true_and] at hv
  obtain ⟨rfl, hl⟩ := hv
  have : ex = [] := List.eq_nil_of_length_eq_zero (by omega)
  subst this
  rw [List.append_nil] at hh
  exact ⟨hh, hb⟩
theorem BB.of_zeros {w : World} {base g n : Nat} (h : w.ownsRow base 5 1 (.slice (some ⟨g, 0, none⟩) n n) n (madeCells (Value.cells (.int .u8 0)) (n * 1)).toList) : BB w g (List.replicate n 0) ∧ base ≤ g := by
  rw [zeros_bytes] at h
  refine BB.of_made (l := List.replicate n 0) ?_
  simpa using h
theorem Cs.some {w : World} {A : Option Addr} {cs : List Value} (h : Cs w A cs) (hp : 0 < cs.length) : ∃ ad, A = some ad ∧ ∀ j v, cs[j]? = some v → w.cell? (ad.add j) = some v := by
  obtain ⟨a, rfl, _⟩ := h 0 cs[0] (List.getElem?_eq_getElem hp)
  refine ⟨a, rfl, fun j v hj => ?_⟩
  obtain ⟨a', ha, hc⟩ := h j v hj
  cases ha
  exact hc
theorem size8 : (Tryd.prog.info? 5).map (·.size) = some 1 := by kernel_rfl
theorem below_alloc (w : World) (o : Obj) : Below w.heap.size w (w.alloc o) := (Below.refl _ _).alloc (Nat.le_refl _) _
/-- A literal list of bytes, just made. -/
theorem RB.lit {w : World} {e : TypeId} {g : Nat} (l : List F) (cs : Array Value) (hg : g = w.heap.size) (h : cs = (bvs l).toArray) : RB (w.alloc (.cells cs e)) (some ⟨g, 0, none⟩) l := by
  subst h hg
  refine Cs.of_blk (ex := []) (e := e) (fr := (0, 0)) ?_
  rw [List.append_nil]
  exact heap_alloc_new w _
theorem RB.alloc {w : World} {A : Option Addr} {l : List F} (h : RB w A l) (o : Obj) : RB (w.alloc o) A l := h.mono (below_alloc w o)

/-! ### append, whatever the source is (nil too) -/
theorem run_append_none {P : Program} (w : World) (base : Nat) (t ty e : TypeId) (i : TypeInfo) (size : Nat) (ht : P.underlying t = some (.slice e)) (hi : P.info? e = some i)
    (v : Value) (n : Nat) (xs : List Value) (hown : w.ownsRow base e size v n xs) (c : Nat) :
    (Builtin.append_ #[t, t] ty #[v, .slice none 0 c]).run P w = .ok v w := by
  rcases hown.2 with ⟨rfl, rfl⟩ | ⟨g, cap, cur, rfl, _, _, hnc, _⟩
  · simp [Builtin.append_, run_underlying ht, sizeOf, typeInfo, hi, Builtin.lenOf, Builtin.firstCells]
  · simp [Builtin.append_, run_underlying ht, sizeOf, typeInfo, hi, Builtin.lenOf, Builtin.firstCells, hnc, storeCells]
/-- 'append(s, x...)' to a row of one's own (cells of size 1), from any cells. -/
theorem wpList_append_src {P : Program} {w : World} {ops : Array Oper} {rest : List Oper} {o : Oper} {a : Act} {Q : Exit → Act → World → Prop} (hgd : o.guard = none) (s x : Operand) (t : TypeId)
    (ho : o.op = .call { callee := .builtin .append, args := #[s, x], argTypes := #[t, t] })
    (base : Nat) (e : TypeId) (i : TypeInfo) (z : Value) (bytes : Nat) (ht : P.underlying t = some (.slice e)) (hi : P.info? e = some i) (hz : i.zero = some z)
    (hsize : i.size = 1) (hby : i.bytes = bytes) (hzs : z.cells.size = 1)
    (v : Value) (n : Nat) (xs : List Value) (hs : a.eval s = v) (hown : w.ownsRow base e 1 v n xs)
    (ao : Option Addr) (m c : Nat) (news : List Value) (hx : a.eval x = .slice ao m c) (hl : news.length = m) (hnews : Cs w ao news) (h1 : ∀ u ∈ news, u.oneCell' = true)
    (h63 : n + m ≤ maxLen) (hbytes : (n + m) * bytes ≤ 140737488355328) (hbase : base ≤ w.heap.size)
    (h : ∀ v' w', w'.ownsRow base e 1 v' (n + m) (xs ++ news) → w.grownBy w' v.ownBlock → wpList P ops Q rest (a.put o.dst v') w') : wpList P ops Q (o :: rest) a w := by
  by_cases hm : m = 0
  · subst hm
    obtain rfl : news = [] := List.eq_nil_of_length_eq_zero hl
    cases ao with
    | none =>
      refine wpList_plain hgd fun K hK' => ?_
      have hrun := run_append_none (P := P) w base t o.type e i 1 ht hi v n xs hown c
      unfold Oper.wp
      simp [execOp, ho, resolve, invoke, builtin, hs, hx, hrun, Result.andThen]
      exact hK' _ _ (h v w (by simpa using hown) (World.grownBy.refl _ _))
    | some ad =>
      exact wpList_append_own w hgd s x t ho base e i z 1 bytes ht hi hz hsize hby hzs (by decide) v n xs hs hown ad 0 c [] hx rfl (fun j u hj => by simp at hj) h1 h63 hbytes hbase (fun v' w' a1 a2 _ => h v' w' a1 a2)
  · obtain ⟨ad, rfl, hc⟩ := hnews.some (by omega)
    exact wpList_append_own w hgd s x t ho base e i z 1 bytes ht hi hz hsize hby hzs (by decide) v n xs hs hown ad m c news hx (by omega) hc h1 h63 hbytes hbase (fun v' w' a1 a2 _ => h v' w' a1 a2)
/-- The same where it fits: the value stays. -/
theorem wpList_append_fit {P : Program} {w : World} {ops : Array Oper} {rest : List Oper} {o : Oper} {a : Act} {Q : Exit → Act → World → Prop} (hgd : o.guard = none) (s x : Operand) (t : TypeId)
    (ho : o.op = .call { callee := .builtin .append, args := #[s, x], argTypes := #[t, t] })
    (base : Nat) (e : TypeId) (i : TypeInfo) (ht : P.underlying t = some (.slice e)) (hi : P.info? e = some i) (hsize : i.size = 1)
    (g n cap : Nat) (xs : List Value) (hs : a.eval s = .slice (some ⟨g, 0, none⟩) n cap) (hown : w.ownsRow base e 1 (.slice (some ⟨g, 0, none⟩) n cap) n xs)
    (ao : Option Addr) (m c : Nat) (news : List Value) (hx : a.eval x = .slice ao m c) (hl : news.length = m) (hnews : Cs w ao news) (h1 : ∀ u ∈ news, u.oneCell' = true) (hfit : n + m ≤ cap)
    (h : ∀ w', w'.ownsRow base e 1 (.slice (some ⟨g, 0, none⟩) (n + m) cap) (n + m) (xs ++ news) → w.grownBy w' (some g) → wpList P ops Q rest (a.put o.dst (.slice (some ⟨g, 0, none⟩) (n + m) cap)) w') : wpList P ops Q (o :: rest) a w := by
  by_cases hm : m = 0
  · subst hm
    obtain rfl : news = [] := List.eq_nil_of_length_eq_zero hl
    cases ao with
    | none =>
      refine wpList_plain hgd fun K hK' => ?_
      have hrun := run_append_none (P := P) w base t o.type e i 1 ht hi _ n xs hown c
      unfold Oper.wp
      simp [execOp, ho, resolve, invoke, builtin, hs, hx, hrun, Result.andThen]
      exact hK' _ _ (by simpa using h w (by simpa using hown) (World.grownBy.refl _ _))
    | some ad =>
      exact wpList_append_fits w hgd s x t ho base e i 1 ht hi hsize g n cap xs hs hown ad 0 c [] hx rfl (fun j u hj => by simp at hj) h1 hfit h
  · obtain ⟨ad, rfl, hc⟩ := hnews.some (by omega)
    exact wpList_append_fits w hgd s x t ho base e i 1 ht hi hsize g n cap xs hs hown ad m c news hx (by omega) hc h1 hfit h

/-! ### a piece of a block: cells pre, then the piece, then post -/
theorem run_append_room_at {P : Program} (w : World) (t ty e : TypeId) (i : TypeInfo) (ht : P.underlying t = some (.slice e)) (hi : P.info? e = some i) (h1s : i.size = 1)
    (g off sLen sCap : Nat) (cur : Array Value) (hg : w.heap[g]? = some (.cells cur e (0, 0)))
    (a : Addr) (m c : Nat) (news : List Value) (hl : news.length = m) (hnews : ∀ j u, news[j]? = some u → w.cell? (a.add j) = some u) (h1 : ∀ u ∈ news, u.oneCell' = true)
    (hroom : sLen + m ≤ sCap) (hfit : off + sLen + news.length ≤ cur.size) :
    (Builtin.append_ #[t, t] ty #[.slice (some ⟨g, off, none⟩) sLen sCap, .slice (some a) m c]).run P w =
      .ok (.slice (some ⟨g, off, none⟩) (sLen + m) sCap) (w.setRow g (cur.toList.take (off + sLen) ++ news ++ cur.toList.drop (off + sLen + news.length)).toArray) := by
  have hf := run_firstCells_some (P := P) w i.size m a m c news (by rw [h1s]; omega) hnews
  have hst := run_storeCells_at P g (off + sLen) e news 0 cur w hg (by simpa using hfit) h1
  simp only [Nat.add_zero] at hst
  rw [h1s] at hf
  simp [Builtin.append_, run_underlying ht, sizeOf, typeInfo, hi, h1s, Builtin.lenOf, hroom, hf, Addr.add_lit, hst]
/-- 'append(s, x...)' to a piece of a block: it is written behind the piece, or a row of its own is made. -/
theorem wpList_append_piece {P : Program} {w : World} {ops : Array Oper} {rest : List Oper} {o : Oper} {a : Act} {Q : Exit → Act → World → Prop} (hgd : o.guard = none) (s x : Operand) (t : TypeId)
    (ho : o.op = .call { callee := .builtin .append, args := #[s, x], argTypes := #[t, t] })
    (e : TypeId) (i : TypeInfo) (z : Value) (bytes : Nat) (ht : P.underlying t = some (.slice e)) (hi : P.info? e = some i) (hz : i.zero = some z) (hsize : i.size = 1) (hby : i.bytes = bytes) (hzs : z.cells.size = 1)
    (g n cap : Nat) (pre xs post : List Value) (hs : a.eval s = .slice (some ⟨g, pre.length, none⟩) n cap) (hn : xs.length = n) (hg : w.heap[g]? = some (.cells (pre ++ xs ++ post).toArray e (0, 0)))
    (ad : Addr) (m c : Nat) (news : List Value) (hx : a.eval x = .slice (some ad) m c) (hm : news.length = m) (hnews : ∀ j u, news[j]? = some u → w.cell? (ad.add j) = some u) (h1 : ∀ u ∈ news, u.oneCell' = true)
    (hcap : cap ≤ n + post.length) (h63 : n + m ≤ maxLen) (hbytes : (n + m) * bytes ≤ 140737488355328)
    (hroom : n + m ≤ cap → ∀ w', w'.heap[g]? = some (.cells (pre ++ (xs ++ news) ++ post.drop m).toArray e (0, 0)) → w.grownBy w' (some g) → wpList P ops Q rest (a.put o.dst (.slice (some ⟨g, pre.length, none⟩) (n + m) cap)) w')
    (hgrow : cap < n + m → ∀ v' w', w'.ownsRow w.heap.size e 1 v' (n + m) (xs ++ news) → w.grownBy w' none → wpList P ops Q rest (a.put o.dst v') w') : wpList P ops Q (o :: rest) a w := by
  refine wpList_plain hgd fun K hK' => ?_
  by_cases hr : n + m ≤ cap
  · have hrun := run_append_room_at (P := P) w t o.type e i ht hi hsize g pre.length n cap _ hg ad m c news hm hnews h1 hr (by simp; omega)
    unfold Oper.wp
    simp only [execOp, ho, resolve, invoke, builtin, Sem.run_bind, Sem.run_pure, Result.andThen_ok, List.map_toArray, List.map_cons, List.map_nil, hs, hx, hrun]
    refine hK' _ _ (hroom hr _ ?_ ⟨rfl, rfl, rfl, by simp [World.setRow], fun k _ hk => setRow_other w g k _ (fun e => hk (by simp [e]))⟩)
    rw [setRow_heap w g _ _ e _ hg]
    congr 3
    have e1 : List.take (pre.length + n) (pre ++ xs ++ post) = pre ++ xs := by
      rw [← hn, ← List.length_append]; exact List.take_left
    have e2 : List.drop (pre.length + n + news.length) (pre ++ xs ++ post) = post.drop m := by
      rw [← List.drop_drop, ← hn, ← List.length_append, List.drop_left, hm]
    rw [e1, e2]
    simp
  · obtain ⟨v', w', hrun, r1, r2⟩ := run_append_arg_grows (P := P) w t o.type e i z 1 bytes ht hi hz hsize hby hzs (by decide) ⟨g, pre.length, none⟩ n cap xs (by omega) (fun j u hj => by
      rw [Addr.add_lit]
      have hjl : j < xs.length := by
        rcases Nat.lt_or_ge j xs.length with h | h
        · exact h
        · rw [List.getElem?_eq_none h] at hj; cases hj
      rw [cell_of_row w g _ _ _ _ hg]
      simp only [List.getElem?_toArray]
      rw [List.append_assoc, List.getElem?_append_right (by omega), List.getElem?_append_left (by omega)]
      simpa using hj) ad m c news (by omega) hnews (by omega) h63 hbytes
    unfold Oper.wp
    simp only [execOp, ho, resolve, invoke, builtin, Sem.run_bind, Sem.run_pure, Result.andThen_ok, List.map_toArray, List.map_cons, List.map_nil, hs, hx, hrun]
    exact hK' _ _ (hgrow (by omega) v' w' r1 r2)
theorem piece_get {pre xs post : List Value} {j : Nat} (hj : j < xs.length) : (pre ++ xs ++ post)[pre.length + j]? = xs[j]? := by
  rw [List.append_assoc, List.getElem?_append_right (by omega), List.getElem?_append_left (by omega)]
  simp
theorem piece_set {pre xs post : List Value} {j : Nat} (hj : j < xs.length) (u : Value) : (pre ++ xs ++ post).set (pre.length + j) u = pre ++ xs.set j u ++ post := by
  rw [List.append_assoc, List.set_append_right _ _ (by omega), List.set_append_left _ _ (by omega)]
  simp
theorem piece_cell {w : World} {g : Nat} {e : TypeId} {pre post : List Value} {l : List F} (h : w.heap[g]? = some (.cells (pre ++ bvs l ++ post).toArray e (0, 0))) {j : Nat} (hj : j < l.length) :
    w.cell? ⟨g, pre.length + j, none⟩ = some (.int .u8 (i l[j])) := by
  rw [cell_of_row w g _ _ _ _ h, List.getElem?_toArray, piece_get (by rw [bvs_length]; exact hj), bvs_get, List.getElem?_eq_getElem hj]
  rfl
theorem piece_free {w : World} {g : Nat} {e : TypeId} {cs : Array Value} (h : w.heap[g]? = some (.cells cs e (0, 0))) (j : Nat) : w.frozen? ⟨g, j, none⟩ = false := frozen_of_row w g j _ _ h
theorem piece_put {w : World} {g : Nat} {e : TypeId} {pre post : List Value} {l : List F} (h : w.heap[g]? = some (.cells (pre ++ bvs l ++ post).toArray e (0, 0))) {j : Nat} (hj : j < l.length) (x : F) :
    (w.setCell ⟨g, pre.length + j, none⟩ (.int .u8 (i x))).heap[g]? = some (.cells (pre ++ bvs (l.set j x) ++ post).toArray e (0, 0)) := by
  rw [heap_setCell_same w g _ _ _ (.int .u8 (i x)) h]
  congr 2
  rw [List.setIfInBounds_toArray, piece_set (by rw [bvs_length]; exact hj), ← bv_def, bvs_set]
theorem grown_set {w0 w : World} {g : Nat} (h : w0.grownBy w (some g)) (j : Nat) (u : Value) : w0.grownBy (w.setCell ⟨g, j, none⟩ u) (some g) :=
  ⟨h.os, h.tape, h.output, by simpa [World.setCell] using h.size, fun k hk hne => (heap_setCell_other w ⟨g, j, none⟩ k u (fun e => hne (by simp [e]))).trans (h.block k hk hne)⟩
theorem grown_trans {a b c : World} {row : Option Nat} (h : a.grownBy b row) (k : b.grownBy c row) : a.grownBy c row :=
  ⟨k.os.trans h.os, k.tape.trans h.tape, k.output.trans h.output, Nat.le_trans h.size k.size, fun j hj hne => (k.block j (Nat.lt_of_lt_of_le hj h.size) hne).trans (h.block j hj hne)⟩
theorem grown_made {a b : World} (row : Option Nat) (h : a.grownBy b none) : a.grownBy b row := ⟨h.os, h.tape, h.output, h.size, fun j hj _ => h.block j hj (by simp)⟩
theorem grown_new {a b c : World} {g : Nat} {row : Option Nat} (h : a.grownBy b row) (k : b.grownBy c (some g)) (hg : a.heap.size ≤ g) : a.grownBy c row :=
  ⟨k.os.trans h.os, k.tape.trans h.tape, k.output.trans h.output, Nat.le_trans h.size k.size, fun j hj hne => (k.block j (Nat.lt_of_lt_of_le hj h.size) (fun e => by cases e; omega)).trans (h.block j hj hne)⟩
end Go.Proofs.YtdnmfgpladgjhaaDoor
