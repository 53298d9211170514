/- Lists of lists of bytes. -/
import Derived.Test.YtdnmfgpladgjhaaDoorGen
namespace Go.Proofs.YtdnmfgpladgjhaaDoor
open Go Go.RowKit Go.Proofs.YtdnmfgpladgjhaaDoor.Gf
set_option linter.unusedVariables false
set_option linter.unusedSimpArgs false

/-- A header and its bytes. -/
abbrev Sh := Option Addr × Nat × List F
def hdr (x : Sh) : Value := .slice x.1 x.2.2.length x.2.1
def rbs (w : World) (H : List Sh) : Prop := ∀ x ∈ H, RB w x.1 x.2.2
theorem rbs.mono {w w' : World} {H : List Sh} (h : rbs w H) (hb : Below w.heap.size w w') : rbs w' H := fun x hx => (h x hx).mono hb
def joined (H : List Sh) (t : Nat) : List F := (H.take t).flatMap (·.2.2)
theorem joined_zero (H : List Sh) : joined H 0 = [] := by simp [joined]
theorem joined_succ (H : List Sh) (t : Nat) (h : t < H.length) : joined H (t + 1) = joined H t ++ H[t].2.2 := by
  rw [joined, joined, List.take_succ_eq_append_getElem h, List.flatMap_append, List.flatMap_singleton]
theorem joined_length (H : List Sh) (n : Nat) (hl : ∀ x ∈ H, x.2.2.length = n) : ∀ t, t ≤ H.length → (joined H t).length = t * n
  | 0, _ => by simp [joined_zero]
  | t + 1, h => by
    rw [joined_succ H t (by omega), List.length_append, joined_length H n hl t (by omega), hl _ (List.getElem_mem _), Nat.add_mul, Nat.one_mul]
/-- A list of lists, as it is read. -/
def LL (w : World) (A : Option Addr) (H : List Sh) : Prop := Cs w A (H.map hdr) ∧ rbs w H
theorem LL.mono {w w' : World} {A : Option Addr} {H : List Sh} (h : LL w A H) (hb : Below w.heap.size w w') : LL w' A H := ⟨h.1.mono hb, h.2.mono hb⟩
theorem LL.at {w : World} {A : Option Addr} {H : List Sh} (h : LL w A H) {t : Nat} (ht : t < H.length) : ∃ a, A = some a ∧ w.cell? (a.add t) = some (hdr H[t]) ∧ RB w H[t].1 H[t].2.2 := by
  obtain ⟨a, ha, hc⟩ := h.1.at (j := t) (u := hdr H[t]) (by rw [List.getElem?_map, List.getElem?_eq_getElem ht]; rfl)
  exact ⟨a, ha, hc, h.2 _ (List.getElem_mem _)⟩
theorem LL.nil (w : World) : LL w none [] := And.intro (Cs.nil _ _) (fun x hx => by simp at hx)
def lists (H : List Sh) : List (List F) := H.map (·.2.2)
theorem lists_length (H : List Sh) : (lists H).length = H.length := by simp [lists]
theorem lists_get {H K : List Sh} (h : lists H = lists K) {t : Nat} (h1 : t < H.length) (h2 : t < K.length) : H[t].2.2 = K[t].2.2 := by
  have : (lists H)[t]? = (lists K)[t]? := by rw [h]
  simpa [lists, List.getElem?_eq_getElem h1, List.getElem?_eq_getElem h2] using this
/-- Lists that lie in whole blocks of bytes. -/
def BBs (w : World) (K : List Sh) : Prop := ∀ x ∈ K, ∃ g, x.1 = some ⟨g, 0, none⟩ ∧ BB w g x.2.2
theorem BBs.rbs {w : World} {K : List Sh} (h : BBs w K) : rbs w K := fun x hx => by
  obtain ⟨g, hg, hB⟩ := h x hx
  rw [hg]; exact hB.rb
theorem BBs.nil (w : World) : BBs w [] := fun x hx => by simp at hx
theorem BBs.mono {w w' : World} {K : List Sh} (h : BBs w K) (hb : Below w.heap.size w w') : BBs w' K := fun x hx => by
  obtain ⟨g, hg, hB⟩ := h x hx
  exact ⟨g, hg, hB.below hb⟩
theorem infoLB : ∃ i, Tryd.prog.info? 26 = some i ∧ i.zero = some (.slice none 0 0) ∧ i.size = 1 ∧ i.bytes = 24 := by
  have h : (Tryd.prog.info? 26).map (fun i => (i.zero, i.size, i.bytes)) = some (some (.slice none 0 0), 1, 24) := by kernel_rfl
  cases e : Tryd.prog.info? 26 with
  | none => rw [e] at h; cases h
  | some i => rw [e] at h; simp at h; exact ⟨i, rfl, h.1, h.2.1, h.2.2⟩
theorem own_ne {w : World} {base n g : Nat} {v : Value} {xs : List Value} {l : List F} (h : w.ownsRow base 26 1 v n xs) (hB : BB w g l) : v.ownBlock ≠ some g := by
  rcases h.2 with ⟨rfl, _⟩ | ⟨g', cap, cur, rfl, _, hh, _⟩
  · simp [Value.ownBlock]
  · intro e
    simp only [Value.ownBlock, Option.some.injEq] at e
    subst e
    have := hh.symm.trans hB
    simp at this
theorem BBs.keep {w w' : World} {K : List Sh} {base n : Nat} {v : Value} {xs : List Value} (h : BBs w K) (ho : w.ownsRow base 26 1 v n xs) (hk : ∀ k, k < w.heap.size → v.ownBlock ≠ some k → w'.heap[k]? = w.heap[k]?) : BBs w' K := fun x hx => by
  obtain ⟨g, hg, hB⟩ := h x hx
  exact ⟨g, hg, (hk g hB.lt (own_ne ho hB)).trans hB⟩
theorem BBs.snoc {w : World} {K : List Sh} {g c : Nat} {l : List F} (h : BBs w K) (hB : BB w g l) : BBs w (K ++ [(some ⟨g, 0, none⟩, c, l)]) := fun x hx => by
  rcases List.mem_append.1 hx with hx | hx
  · exact h x hx
  · rw [List.mem_singleton.1 hx]; exact ⟨g, rfl, hB⟩
theorem blk_ne {w : World} {g g2 : Nat} {p : List F} {c : Array Value} (hB : Blk w g2 (.cells c 26 (0, 0))) (hg : BB w g p) : g2 ≠ g := by
  rintro rfl
  have := hB.symm.trans hg
  simp at this
section
variable {w : World} {ops : Array Oper} {rest : List Oper} {o : Oper} {a : Act} {Q : Exit → Act → World → Prop}
/-- append(s, x) of one list of bytes, whose header lies in a block just made. -/
theorem push_list (base : Nat) (v : Value) (n : Nat) (l : List Value) (hown : w.ownsRow base 26 1 v n l) (hbase : base ≤ w.heap.size) (A : Option Addr) (hn hc : Nat) (hb : n + 1 ≤ 5864062014805)
    (hgd : o.guard = none) {s x : Operand} (ho : o.op = .call { callee := .builtin .append, args := #[s, x], argTypes := #[84, 84] }) (hs : a.eval s = v) (hx : a.eval x = .slice (some ⟨w.heap.size, 0, none⟩) 1 1)
    (h : ∀ v' w', w'.ownsRow base 26 1 v' (n + 1) (l ++ [.slice A hn hc]) → Below base w w' → (∀ k, k < w.heap.size → v.ownBlock ≠ some k → w'.heap[k]? = w.heap[k]?) → wpList Tryd.prog ops Q rest (a.put o.dst v') w') :
    wpList Tryd.prog ops Q (o :: rest) a (w.alloc (.cells #[.slice A hn hc] 26)) := by
  obtain ⟨i8, hi, hz0, hz1, hz2⟩ := infoLB
  refine wpList_append_src (w := w.alloc (.cells #[.slice A hn hc] 26)) hgd s x 84 ho base 26 i8 (.slice none 0 0) 24 Tryd.underlying84 hi hz0 hz1 hz2 rfl v n l hs (own_below hown (below_alloc _ _)) _ 1 1 [.slice A hn hc] hx rfl (Cs.of_blk (ex := []) (heap_alloc_new _ _)) (by intro u hu; simp only [List.mem_singleton] at hu; subst hu; rfl) (by unfold maxLen; omega) (by omega) (Nat.le_trans hbase (by simp)) ?_
  intro v' w' h1 h2
  refine h v' w' h1 (((below_alloc w _).mono hbase).trans (grown_base h2 (own_below hown (below_alloc _ _)) (Nat.le_trans hbase (by simp)))) (fun k hk hne => ?_)
  rw [h2.block k (by simp; omega) (fun e => hne (by first | exact e | exact e.symm)), Below.heap_alloc _ _ _ hk]
end
end Go.Proofs.YtdnmfgpladgjhaaDoor
