/- The verifier's small words on lists: SameBytes, Bytes, Kept, Apart: what each call answers. -/
import Derived.Test.YtdnmfgpladgjhaaDoorMem
import Derived.Laws.BytesArg
import Derived.Laws.CopyOwn
import Derived.Deep.LoopGhost
import Derived.Deep.QuietTactic
import Derived.BigQuiet
import Derived.WalkSpells
namespace Go.Proofs.YtdnmfgpladgjhaaDoor
open Go Go.RowKit Go.Proofs.YtdnmfgpladgjhaaDoor.Gf
set_option linter.unusedSimpArgs false
set_option linter.unusedVariables false

/-- A list of bytes as a text. -/
def bs (l : List F) : ByteArray := ⟨l.toArray⟩
theorem bs_inj {l m : List F} (h : bs l = bs m) : l = m := by
  have : l.toArray = m.toArray := congrArg ByteArray.data h
  simpa using this
theorem bs_size (l : List F) : (bs l).size = l.length := by simp [bs, ByteArray.size]
theorem nums_bs (l : List F) : strOfNums (l.map i) = bs l := by
  simp only [strOfNums, bs, List.map_map]
  congr 2
  conv => rhs; rw [← List.map_id l]
  refine List.map_congr_left fun x _ => ?_
  show UInt8.ofNat (i x).toNat = x
  simp [i]
theorem conv_bytes {w : World} {A : Option Addr} {l : List F} (c : Nat) (h : RB w A l) :
    (convert 26 9 (.slice A l.length c)).run Tryd.prog w = .ok (.string (bs l)) w := by
  cases A with
  | none =>
    have hl : l = [] := by
      cases l with
      | nil => rfl
      | cons x l =>
        obtain ⟨a, ha, _⟩ := RB.at h (j := 0) (by simp)
        cases ha
    subst hl
    exact run_convert_bytes_nil w _ _ Tryd.underlying26 Tryd.underlying5 _ _ _ Tryd.underlying9
  | some a =>
    have hl : (loadCells a l.length).run Tryd.prog w = .ok ((l.map i).map (Value.int .u8)).toArray w := by
      have := run_loadCells_list (P := Tryd.prog) w a ((l.map i).map (Value.int .u8)) (fun j v hj => by
        obtain ⟨a', ha, hc⟩ := h j v (by rw [← hj]; simp [bvs, bv]; rfl)
        cases ha
        exact hc)
      simpa using this
    rw [run_convert_bytes_string w _ _ _ _ _ _ Tryd.underlying26 Tryd.underlying5 Tryd.underlying9, run_bytesToString w _ _ c (l.map i) hl, foldl_push_bytes]
    rw [← nums_bs]
    simp [strOfNums, ByteArray.empty, ByteArray.emptyWithCapacity]
    rfl

/-- Are two lists the same? -/
def sameB (l m : List F) : Bool := decide (l = m)
theorem bs_toList (l : List F) : (bs l).toList = l := by rw [ByteArray.toList_eq]; rfl
theorem bs_beq (l m : List F) : ((bs l).toList == (bs m).toList) = sameB l m := by
  rw [bs_toList, bs_toList]
  unfold sameB
  by_cases h : l = m
  · subst h; simp
  · simp [h]
theorem sameB_self (l : List F) : sameB l l = true := by simp [sameB]
theorem same_calls (A : Option Addr) (ca : Nat) (la : List F) (B : Option Addr) (cb : Nat) (lb : List F) (w : World) (ha : RB w A la) (hb : RB w B lb) :
    Calls Tryd.prog 14 #[.slice A la.length ca, .slice B lb.length cb] w fun e w' => e = .returned (.bool (sameB la lb)) ∧ w' = w := by
  have h1 := conv_bytes ca ha
  have h2 := conv_bytes cb hb
  have h3 := bs_beq la lb
  clear ha hb
  go_enter Tryd.func14, Tryd.ntmps14
  go_wp2
  go_ret
  exact ⟨rfl, rfl⟩

/-- The marks behind a list. -/
def marks : List F := [201, 202, 203, 204, 205, 206]
theorem marks_bvs : bvs marks = [.int .u8 201, .int .u8 202, .int .u8 203, .int .u8 204, .int .u8 205, .int .u8 206] := rfl
/-- A copy with marked room behind it. -/
def Marked (w : World) (g : Nat) (l : List F) : Prop := BB w g (l ++ marks)
set_option maxRecDepth 100000 in
set_option maxHeartbeats 1000000 in
theorem bytes_calls (A : Option Addr) (ca : Nat) (la : List F) (w : World) (ha : RB w A la) (hca : la.length ≤ 140737488351232) :
    Calls Tryd.prog 18 #[.slice A la.length ca] w fun e w' => ∃ g, e = .returned (.slice (some ⟨g, 0, none⟩) la.length (la.length + 6)) ∧ w.heap.size ≤ g ∧ BB w' g (la ++ marks) ∧ Below w.heap.size w w' := by
  obtain ⟨i8, hi, hz0, hz1, hz2⟩ := info_parts info8
  have HA := Pk.mk ha
  clear ha
  go_enter Tryd.func18, Tryd.ntmps18
  go_wp2_with (first
    | (at_make; go_loud (refine wpList_make_own _ rfl _ _ 26 rfl w.heap.size 5 i8 (.int .u8 0) 1 Tryd.underlying26 hi hz0 hz1 .i64 .i64 _ (la.length + 6) rfl rfl (by omega) (by rw [hz2]; omega) (by unfold maxLen; omega) (Nat.le_refl _) ?_; intro w1 hown hgr; have HO := Pk.mk hown; have Hb := Pk.mk (below_made hgr); clear hown hgr))
    | ((with_reducible refine gate_b (b := .append) (xs := #[.tmp 7, .tmp 8]) rfl ?_); go_loud (refine wpList_append_fit rfl (.tmp 7) (.tmp 8) 26 rfl w.heap.size 5 i8 Tryd.underlying26 hi hz1 w.heap.size 0 (la.length + 6) [] rfl HO.out A la.length ca (bvs la) rfl (bvs_length _) (HA.out.mono Hb.out) (bvs_one _) (by omega) ?_; intro w2 hown hgr; rw [Nat.zero_add, List.nil_append] at hown; have HO2 := Pk.mk hown; have Hb2 := Pk.mk (Hb.out.grown hgr Hb.out.size (fun k hk => by cases hk; exact Nat.le_refl _)); clear hown hgr HO Hb))
    | ((with_reducible refine gate_b (b := .append) (xs := #[.tmp 9, .tmp 10]) rfl ?_); go_loud (refine wpList_append_fit rfl (.tmp 9) (.tmp 10) 26 rfl w.heap.size 5 i8 Tryd.underlying26 hi hz1 w.heap.size _ (la.length + 6) _ rfl (HO2.out.alloc _) (some ⟨w2.heap.size, 0, none⟩) 6 6 (bvs marks) rfl rfl (RB.lit marks _ rfl rfl) (bvs_one _) (by omega) ?_; intro w3 hown hgr; have HO3 := Pk.mk hown; have Hb3 := Pk.mk ((Hb2.out.alloc (below_le Hb2.out (Nat.le_refl _)) _).grown hgr (Nat.le_trans Hb2.out.size (by simp)) (fun k hk => by cases hk; exact Nat.le_refl _)); clear hown hgr HO2 Hb2)))
  go_ret
  refine ⟨w.heap.size, rfl, Nat.le_refl _, ?_, Hb3.out⟩
  have h := HO3.out
  rw [← bvs_append] at h
  exact (BB.of_made (l := la ++ marks) (by simpa [marks] using h)).1

theorem marks_at (k : Nat) (hk : k < 6) : i (marks[k]'hk) = 201 + (k : Int) := by
  have : k = 0 ∨ k = 1 ∨ k = 2 ∨ k = 3 ∨ k = 4 ∨ k = 5 := by omega
  rcases this with rfl | rfl | rfl | rfl | rfl | rfl <;> rfl
theorem BB.mark {w : World} {g : Nat} {l : List F} (h : BB w g (l ++ marks)) {k : Nat} (hk : k < 6) : w.cell? ⟨g, l.length + k, none⟩ = some (.int .u8 (201 + (k : Int))) := by
  have hl : l.length + k < (l ++ marks).length := by simp [marks]; omega
  have := BB.cell h hl
  rw [this, ← marks_at k hk]
  congr 3
  rw [List.getElem_append_right (by omega)]
  congr 1
  omega
theorem BB.front {w : World} {g : Nat} {l m : List F} (h : BB w g (l ++ m)) : RB w (some ⟨g, 0, none⟩) l := by
  refine Cs.of_blk (ex := bvs m) (e := 5) (fr := (0, 0)) ?_
  rw [← bvs_append]; exact h
set_option maxRecDepth 100000 in
set_option maxHeartbeats 1000000 in
theorem kept_calls (g : Nat) (l : List F) (A : Option Addr) (c : Nat) (w : World) (hg : BB w g (l ++ marks)) (ha : RB w A l) (hl : l.length ≤ 140737488351232) :
    Calls Tryd.prog 20 #[.slice (some ⟨g, 0, none⟩) l.length (l.length + 6), .slice A l.length c] w fun e w' => e = .returned (.bool true) ∧ ∃ n, w' = w.drewN n := by
  have hc1 := fun n => conv_bytes (w := w.drewN n) (l.length + 6) (hg.front)
  have hc2 := fun n => conv_bytes (w := w.drewN n) c ha
  have HG := Pk.mk hg
  clear hg ha
  go_enter Tryd.func20, Tryd.ntmps20
  go_wp2
  go_quiet (fail)
  go_wp2
  go_loop [6] (fun n => ∃ k : Nat, k ≤ 6 ∧ n = .int .i64 (k : Int)) (fun n => 6 - (intOf n).toNat)
  case atStart => exact ⟨0, by omega, rfl⟩
  case round =>
    obtain ⟨k, hk, rfl⟩ := hrel
    by_cases hlt : k < 6
    · have hcell : (w.drewN nq).cell? ⟨g, l.length + k, none⟩ = some (.int .u8 (201 + (k : Int))) := HG.out.mark hlt
      go_wp2
      exact ⟨⟨k + 1, by omega, by go_num⟩, by simp [intOf]; omega⟩
    · go_wp2
      go_ret
      exact ⟨rfl, nq, rfl⟩

/-- The first t bytes written over. -/
def xorN (c : F) (l : List F) (t : Nat) : List F := (l.take t).map (· ^^^ c) ++ l.drop t
theorem xorN_zero (c : F) (l : List F) : xorN c l 0 = l := by simp [xorN]
theorem xorN_length (c : F) (l : List F) (t : Nat) : (xorN c l t).length = l.length := by simp [xorN]; omega
theorem xorN_get (c : F) (l : List F) (t : Nat) (h : t < l.length) (h2 : t < (xorN c l t).length) : (xorN c l t)[t] = l[t] := by
  simp only [xorN]
  rw [List.getElem_append_right (by simp; omega)]
  simp [Nat.min_eq_left (Nat.le_of_lt h)]
theorem xorN_set (c : F) (l : List F) (t : Nat) (h : t < l.length) : (xorN c l t).set t (l[t] ^^^ c) = xorN c l (t + 1) := by
  simp only [xorN]
  rw [List.set_append_right _ _ (by simp; omega)]
  have hm : t - ((l.take t).map (· ^^^ c)).length = 0 := by simp; omega
  rw [hm, List.drop_eq_getElem_cons h, List.set_cons_zero, List.take_succ_eq_append_getElem h, List.map_append]
  simp only [List.map_cons, List.map_nil, List.append_assoc, List.cons_append, List.nil_append]
/-- From n on, up to t. -/
def xorM (c : F) (l : List F) (n t : Nat) : List F := l.take n ++ xorN c (l.drop n) (t - n)
theorem xorM_start (c : F) (l : List F) (n : Nat) : xorM c l n n = l := by simp [xorM, xorN_zero]
theorem xorM_length (c : F) (l : List F) (n t : Nat) : (xorM c l n t).length = l.length := by simp [xorM, xorN_length]; omega
theorem xorM_get (c : F) (l : List F) (n t : Nat) (hn : n ≤ t) (h : t < l.length) (h2 : t < (xorM c l n t).length) : (xorM c l n t)[t] = l[t] := by
  simp only [xorM]
  rw [List.getElem_append_right (by simp; omega)]
  have : t - (l.take n).length = t - n := by simp; omega
  simp only [this]
  rw [xorN_get _ _ _ (by simp; omega)]
  simp only [List.getElem_drop]
  congr 1
  omega
theorem xorM_set (c : F) (l : List F) (n t : Nat) (hn : n ≤ t) (h : t < l.length) : (xorM c l n t).set t (l[t] ^^^ c) = xorM c l n (t + 1) := by
  simp only [xorM]
  rw [List.set_append_right _ _ (by simp; omega)]
  congr 1
  have : t - (l.take n).length = t - n := by simp; omega
  rw [this, show t + 1 - n = t - n + 1 by omega, ← xorN_set _ _ _ (by simp; omega)]
  congr 2
  simp only [List.getElem_drop]
  congr 1
  omega
def sevens : List F := [7, 7, 7, 7, 7, 7, 7, 7]

set_option maxRecDepth 100000 in
set_option maxHeartbeats 2000000 in
theorem apart_calls (A : Option Addr) (ca : Nat) (la : List F) (gb cb : Nat) (pre post ex : List Value) (lb : List F) (w : World)
    (hg : w.heap[gb]? = some (.cells (pre ++ (bvs lb ++ ex) ++ post).toArray 5 (0, 0))) (hcb : lb.length + ex.length = cb)
    (haK : ∀ (w' : World) (mid : List Value), mid.length = cb → w'.heap[gb]? = some (.cells (pre ++ mid ++ post).toArray 5 (0, 0)) → w.grownBy w' (some gb) → RB w' A la)
    (hcl : lb.length ≤ 140737488355000) :
    Calls Tryd.prog 37 #[.slice A la.length ca, .slice (some ⟨gb, pre.length, none⟩) lb.length cb] w
      fun e w' => e = .returned (.bool true) ∧ (∃ (qs : List F) (ex' : List Value), qs.length = lb.length ∧ ex'.length = ex.length ∧ w'.heap[gb]? = some (.cells (pre ++ (bvs qs ++ ex') ++ post).toArray 5 (0, 0))) ∧ w.grownBy w' (some gb) := by
  obtain ⟨i8, hi, hz0, hz1, hz2⟩ := info_parts info8
  have hc1 := conv_bytes ca (haK w (bvs lb ++ ex) (by simpa [bvs_length] using hcb) hg (World.grownBy.refl _ _))
  have hbb : ((bs la).toList == (bs la).toList) = true := by rw [bs_beq, sameB_self]
  have HG := Pk.mk (show w.heap[gb]? = some (.cells (pre ++ bvs (xorN 85 lb 0) ++ (ex ++ post)).toArray 5 (0, 0)) by rw [xorN_zero, hg]; simp)
  have HK := Pk.mk haK
  have HC := Pk.mk hcb
  clear haK hg hcb
  go_enter Tryd.func37, Tryd.ntmps37
  go_wp2
  go_loopw [13] (fun n wr => ∃ t : Nat, t ≤ lb.length ∧ n = .int .i64 (t : Int) ∧ Pk (wr.heap[gb]? = some (.cells (pre ++ bvs (xorN 85 lb t) ++ (ex ++ post)).toArray 5 (0, 0))) ∧ Pk (w.grownBy wr (some gb))) (fun n _ => lb.length - (intOf n).toNat)
  case atStart => exact ⟨0, Nat.zero_le _, rfl, HG, ⟨World.grownBy.refl _ _⟩⟩
  case round =>
    clear HG hc1
    obtain ⟨t, ht, rfl, HG, HW⟩ := hrel
    by_cases hl : t < lb.length
    · have hlx : t < (xorN 85 lb t).length := by rw [xorN_length]; exact hl
      have hcc := piece_cell HG.out hlx
      have hcf := piece_free HG.out (pre.length + t)
      rw [xorN_get _ _ _ hl] at hcc
      have Hs := Pk.mk (xorN_set 85 lb t hl)
      generalize hx : lb[t] = x at hcc Hs
      have Hx := Pk.mk (show bits .xor .u8 (i x) 85 = i (x ^^^ 85) from xor_u8 x 85)
      clear hx
      go_wp2
      go_roundw
      case rel =>
        refine ⟨t + 1, by omega, by go_num, ⟨?_⟩, ⟨grown_set HW.out _ _⟩⟩
        rw [← Hs.out]
        rw [Hx.out]
        exact piece_put HG.out hlx _
      case measure => simp [intOf]; omega
    · have hall : t = lb.length := by omega
      subst hall
      obtain ⟨ys, Hy, hyl⟩ : ∃ ys, Pk (xorN 85 lb lb.length = ys) ∧ ys.length = lb.length := ⟨_, ⟨rfl⟩, xorN_length _ _ _⟩
      have HGy := Pk.mk (show wr.heap[gb]? = some (.cells (pre ++ bvs ys ++ (ex ++ post)).toArray 5 (0, 0)) by rw [← Hy.out]; exact HG.out)
      have hc2 := conv_bytes ca (HK.out wr (bvs ys ++ ex) (by have := HC.out; simp [bvs_length]; omega) (by rw [HGy.out]; simp) HW.out)
      clear HG Hy ht hl
      have Hyl := Pk.mk hyl
      clear hyl
      go_wp2_with (first | ((with_reducible refine gate_b (b := .append) (xs := #[.tmp 29, .tmp 30]) rfl ?_); refine Pk.out ?_))
      refine ⟨?_⟩
      refine wpList_append_piece rfl (.tmp 29) (.tmp 30) 26 rfl 5 i8 (.int .u8 0) 1 Tryd.underlying26 hi hz0 hz1 hz2 rfl gb lb.length cb pre (bvs ys) (ex ++ post) rfl (by rw [bvs_length]; exact Hyl.out) ?_ ⟨wr.heap.size, 0, none⟩ 8 8 (bvs sevens) rfl rfl ?_ (bvs_one _) (by have := HC.out; simp; omega) (by unfold maxLen; omega) (by omega) ?_ ?_
      · exact (Below.heap_alloc wr _ gb (Array.getElem?_eq_some_iff.1 HGy.out).1).trans HGy.out
      · intro j u hj
        obtain ⟨a', ha, hc⟩ := RB.lit (w := wr) (e := 5) sevens _ rfl rfl j u hj
        cases ha
        exact hc
      · intro hroom w2 hg2 hgr
        obtain ⟨zs, Hz, hzl⟩ : ∃ zs, Pk (ys ++ sevens = zs) ∧ zs.length = lb.length + 8 := ⟨_, ⟨rfl⟩, by have := Hyl.out; simp [sevens]; omega⟩
        obtain ⟨post2, HP⟩ : ∃ p, Pk (p = ex.drop 8 ++ post) := ⟨_, ⟨rfl⟩⟩
        have HZ := Pk.mk (show w2.heap[gb]? = some (.cells (pre ++ bvs zs ++ post2).toArray 5 (0, 0)) by
          rw [hg2, ← Hz.out, bvs_append, HP.out, List.drop_append_of_le_length (by have := HC.out; omega)])
        have HW2 := Pk.mk (grown_trans HW.out (grown_trans (World.grownBy_alloc _ _ _) hgr))
        have Hzl := Pk.mk hzl
        clear hg2 hgr hzl HGy HW
        go_wp2
        go_loopw [8] (fun n wr => ∃ t : Nat, lb.length ≤ t ∧ t ≤ lb.length + 8 ∧ n = .int .i64 (t : Int) ∧ Pk (wr.heap[gb]? = some (.cells (pre ++ bvs (xorM 85 zs lb.length t) ++ post2).toArray 5 (0, 0))) ∧ Pk (w.grownBy wr (some gb))) (fun n _ => lb.length + 8 - (intOf n).toNat)
        case atStart => exact ⟨lb.length, Nat.le_refl _, by omega, rfl, ⟨by rw [xorM_start]; exact HZ.out⟩, HW2⟩
        case round =>
          clear HZ HW2
          obtain ⟨t, ht, ht2, rfl, HZ, HW2⟩ := hrel
          by_cases hl : t < lb.length + 8
          · have hlz : t < zs.length := by have := Hzl.out; omega
            have hlx : t < (xorM 85 zs lb.length t).length := by rw [xorM_length]; exact hlz
            have hcc := piece_cell HZ.out hlx
            have hcf := piece_free HZ.out (pre.length + t)
            rw [xorM_get _ _ _ _ ht hlz] at hcc
            have Hs := Pk.mk (xorM_set 85 zs lb.length t ht hlz)
            generalize hx : zs[t] = x at hcc Hs
            have Hx := Pk.mk (show bits .xor .u8 (i x) 85 = i (x ^^^ 85) from xor_u8 x 85)
            clear hx
            go_wp2
            go_roundw
            case rel =>
              refine ⟨t + 1, by omega, by omega, by go_num, ⟨?_⟩, ⟨grown_set HW2.out _ _⟩⟩
              rw [← Hs.out, Hx.out]
              exact piece_put HZ.out hlx _
            case measure => simp [intOf]; omega
          · obtain ⟨qs, Hq, hql⟩ : ∃ qs, Pk (xorM 85 zs lb.length t = qs) ∧ qs.length = lb.length + 8 := ⟨_, ⟨rfl⟩, by rw [xorM_length]; exact Hzl.out⟩
            have Hql := Pk.mk hql
            have HF : (bvs qs ++ ex.drop 8).length = cb ∧ wr.heap[gb]? = some (.cells (pre ++ (bvs qs ++ ex.drop 8) ++ post).toArray 5 (0, 0)) := ⟨by have := HC.out; simp [bvs_length]; omega, by rw [HZ.out, Hq.out, HP.out]; simp⟩
            have hc3 := conv_bytes ca (HK.out wr _ HF.1 HF.2 HW2.out)
            have HF := Pk.mk HF
            clear Hq hql HZ
            go_wp2
            go_ret
            refine ⟨rfl, ⟨qs.take lb.length, bvs (qs.drop lb.length) ++ ex.drop 8, by have := Hql.out; simp; omega, ?_, ?_⟩, HW2.out⟩
            · have := HC.out; have := Hql.out; simp [bvs_length]; omega
            · rw [HF.out.2, ← List.append_assoc (bvs (qs.take lb.length)), ← bvs_append, List.take_append_drop]
      · intro hgrow v2 w2 hown hgr
        rw [← bvs_append] at hown
        obtain ⟨zs, Hz, hzl⟩ : ∃ zs, Pk (ys ++ sevens = zs) ∧ zs.length = lb.length + 8 := ⟨_, ⟨rfl⟩, by have := Hyl.out; simp [sevens]; omega⟩
        rw [Hz.out] at hown
        obtain ⟨g2, ex2, rfl, hg2, hblk, _, _⟩ := own_blk hown (Or.inl (by omega))
        have HZ := Pk.mk (show w2.heap[g2]? = some (.cells (([] : List Value) ++ bvs zs ++ ex2).toArray 5 (0, 0)) by rw [List.nil_append]; exact hblk)
        have hlt := (Array.getElem?_eq_some_iff.1 HGy.out).1
        have HW2 := Pk.mk (grown_trans HW.out (grown_made (some gb) ⟨hgr.os, hgr.tape, hgr.output, Nat.le_trans (by simp) hgr.size, fun k hk hne => (hgr.block k (by simp; omega) hne).trans (Below.heap_alloc _ _ _ hk)⟩))
        have HY2 := Pk.mk (((hgr.block gb (by simp; omega) (by simp)).trans (Below.heap_alloc _ _ _ hlt)).trans HGy.out)
        have hg3 : wr.heap.size + 1 ≤ g2 := by simpa using hg2
        have Hg2 := Pk.mk (show w.heap.size ≤ g2 from Nat.le_trans HW.out.size (by omega))
        have Hne := Pk.mk (show gb ≠ g2 by omega)
        have Hzl := Pk.mk hzl
        clear hg2 hgr hzl HGy HW hblk hown hlt hg3
        go_wp2
        go_loopw [8] (fun n wr => ∃ t : Nat, lb.length ≤ t ∧ t ≤ lb.length + 8 ∧ n = .int .i64 (t : Int) ∧ Pk (wr.heap[g2]? = some (.cells (([] : List Value) ++ bvs (xorM 85 zs lb.length t) ++ ex2).toArray 5 (0, 0))) ∧ Pk (wr.heap[gb]? = some (.cells (pre ++ bvs ys ++ (ex ++ post)).toArray 5 (0, 0))) ∧ Pk (w.grownBy wr (some gb))) (fun n _ => lb.length + 8 - (intOf n).toNat)
        case atStart => exact ⟨lb.length, Nat.le_refl _, by omega, rfl, ⟨by rw [xorM_start]; exact HZ.out⟩, HY2, HW2⟩
        case round =>
          clear HZ HW2
          obtain ⟨t, ht, ht2, rfl, HZ, HY2, HW2⟩ := hrel
          by_cases hl : t < lb.length + 8
          · have hlz : t < zs.length := by have := Hzl.out; omega
            have hlx : t < (xorM 85 zs lb.length t).length := by rw [xorM_length]; exact hlz
            have hcc := piece_cell HZ.out hlx
            have hcf := piece_free HZ.out (0 + t)
            rw [xorM_get _ _ _ _ ht hlz] at hcc
            have Hs := Pk.mk (xorM_set 85 zs lb.length t ht hlz)
            generalize hx : zs[t] = x at hcc Hs
            have Hx := Pk.mk (show bits .xor .u8 (i x) 85 = i (x ^^^ 85) from xor_u8 x 85)
            clear hx
            simp only [List.length_nil, Nat.zero_add] at hcc hcf
            go_wp2
            go_roundw
            case rel =>
              refine ⟨t + 1, by omega, by omega, by go_num, ⟨?_⟩, ⟨by rw [heap_setCell_other _ ⟨g2, t, none⟩ _ _ (fun e => Hne.out e)]; exact HY2.out⟩, ⟨grown_new HW2.out (grown_set (World.grownBy.refl _ _) t _) Hg2.out⟩⟩
              rw [← Hs.out, Hx.out]
              have h := piece_put HZ.out hlx (x ^^^ 85); rw [List.length_nil, Nat.zero_add] at h; exact h
            case measure => simp [intOf]; omega
          · obtain ⟨qs, Hq, hql⟩ : ∃ qs, Pk (xorM 85 zs lb.length t = qs) ∧ qs.length = lb.length + 8 := ⟨_, ⟨rfl⟩, by rw [xorM_length]; exact Hzl.out⟩
            have Hql := Pk.mk hql
            have HF : (bvs ys ++ ex).length = cb ∧ wr.heap[gb]? = some (.cells (pre ++ (bvs ys ++ ex) ++ post).toArray 5 (0, 0)) := ⟨by have := HC.out; have := Hyl.out; simp [bvs_length]; omega, by rw [HY2.out]; simp⟩
            have hc3 := conv_bytes ca (HK.out wr _ HF.1 HF.2 HW2.out)
            have HF := Pk.mk HF
            clear Hq hql HZ
            go_wp2
            go_ret
            exact ⟨rfl, ⟨ys, ex, Hyl.out, rfl, HF.out.2⟩, HW2.out⟩

/-- The second list is nil. -/
theorem apart_nil_calls (A : Option Addr) (ca : Nat) (la : List F) (w : World) (ha : RB w A la) :
    Calls Tryd.prog 37 #[.slice A la.length ca, .slice none 0 0] w fun e w' => e = .returned (.bool true) ∧ Below w.heap.size w w' := by
  obtain ⟨i8, hi, hz0, hz1, hz2⟩ := info_parts info8
  have hc1 := conv_bytes ca ha
  have hbb : ((bs la).toList == (bs la).toList) = true := by rw [bs_beq, sameB_self]
  have HA := Pk.mk ha
  clear ha
  go_enter Tryd.func37, Tryd.ntmps37
  go_wp2
  go_loop [13] (fun n => n = .int .i64 0) (fun n => 0)
  case atStart => rfl
  case round =>
    obtain rfl := hrel
    go_wp2_with (first | ((with_reducible refine gate_b (b := .append) (xs := #[.tmp 29, .tmp 30]) rfl ?_); refine Pk.out ?_))
    refine ⟨?_⟩
    refine wpList_append_own _ rfl (.tmp 29) (.tmp 30) 26 rfl w.heap.size 5 i8 (.int .u8 0) 1 1 Tryd.underlying26 hi hz0 hz1 hz2 rfl (by decide) (.slice none 0 0) 0 [] rfl (World.ownsRow_nil _ _ _ _) ⟨w.heap.size, 0, none⟩ 8 8 (bvs sevens) rfl rfl ?_ (bvs_one _) (by decide) (by decide) (by simp) ?_
    · intro j u hj
      obtain ⟨a', ha, hc⟩ := RB.lit (w := w) (e := 5) sevens _ rfl rfl j u hj
      cases ha
      exact hc
    · intro v2 w2 hown hgr _
      rw [List.nil_append, Nat.zero_add] at hown
      obtain ⟨g2, ex2, rfl, hg2, hblk, _, _⟩ := own_blk hown (Or.inl (by omega))
      have HZ := Pk.mk (show w2.heap[g2]? = some (.cells (([] : List Value) ++ bvs sevens ++ ex2).toArray 5 (0, 0)) by rw [List.nil_append]; exact hblk)
      have HW2 := Pk.mk (show Below w.heap.size w w2 from (below_alloc w _).grown hgr (by simp) (fun k hk => by cases hk))
      have Hg2 := Pk.mk hg2
      have Hzl := Pk.mk (show sevens.length = 8 from rfl)
      generalize hzs : sevens = zs at HZ Hzl
      clear hzs hg2 hgr hblk hown hc1
      go_wp2
      go_loopw [8] (fun n wr => ∃ t : Nat, 0 ≤ t ∧ t ≤ 8 ∧ n = .int .i64 (t : Int) ∧ Pk (wr.heap[g2]? = some (.cells (([] : List Value) ++ bvs (xorM 85 zs 0 t) ++ ex2).toArray 5 (0, 0))) ∧ Pk (Below w.heap.size w wr)) (fun n _ => 8 - (intOf n).toNat)
      case atStart => exact ⟨0, Nat.le_refl _, by omega, rfl, ⟨by rw [xorM_start]; exact HZ.out⟩, HW2⟩
      case round =>
        clear HZ HW2
        obtain ⟨t, ht, ht2, rfl, HZ, HW2⟩ := hrel
        by_cases hl : t < 8
        · have hlz : t < zs.length := by have := Hzl.out; omega
          have hlx : t < (xorM 85 zs 0 t).length := by rw [xorM_length]; exact hlz
          have hcc := piece_cell HZ.out hlx
          have hcf := piece_free HZ.out (0 + t)
          rw [xorM_get _ _ _ _ ht hlz] at hcc
          have Hs := Pk.mk (xorM_set 85 zs 0 t ht hlz)
          generalize hx : zs[t] = x at hcc Hs
          have Hx := Pk.mk (show bits .xor .u8 (i x) 85 = i (x ^^^ 85) from xor_u8 x 85)
          clear hx
          simp only [List.length_nil, Nat.zero_add] at hcc hcf
          go_wp2
          go_roundw
          case rel =>
            refine ⟨t + 1, by omega, by omega, by go_num, ⟨?_⟩, ⟨HW2.out.setCell Hg2.out _⟩⟩
            rw [← Hs.out, Hx.out]
            have h := piece_put HZ.out hlx (x ^^^ 85); rw [List.length_nil, Nat.zero_add] at h; exact h
          case measure => simp [intOf]; omega
        · have hc3 := conv_bytes ca (HA.out.mono HW2.out)
          clear HZ
          go_wp2
          go_ret
          exact ⟨rfl, HW2.out⟩
/-- A row of one's own as the second list: what is held apart from its block stays; the row stays one's own, with other bytes. -/
theorem apart_own_calls (A : Option Addr) (ca : Nat) (la : List F) (g : Nat) (ex : List Value) (lb : List F) (w : World)
    (hg : w.heap[g]? = some (.cells (bvs lb ++ ex).toArray 5 (0, 0))) (ha : RB w A la) (hA : ∀ a, A = some a → 0 < la.length → a.block ≠ g) (hcl : lb.length ≤ 140737488355000) :
    Calls Tryd.prog 37 #[.slice A la.length ca, .slice (some ⟨g, 0, none⟩) lb.length (lb.length + ex.length)] w
      fun e w' => e = .returned (.bool true) ∧ (∃ (qs : List F) (ex' : List Value), qs.length = lb.length ∧ ex'.length = ex.length ∧ w'.heap[g]? = some (.cells (bvs qs ++ ex').toArray 5 (0, 0))) ∧ w.grownBy w' (some g) := by
  refine (apart_calls A ca la g (lb.length + ex.length) [] [] ex lb w (by simpa using hg) rfl ?_ hcl).mono ?_
  · intro w' mid _ _ hgr j u hu
    obtain ⟨a, rfl, hc⟩ := ha j u hu
    refine ⟨a, rfl, ?_⟩
    have hl : 0 < la.length := by
      rcases Nat.lt_or_ge j (bvs la).length with h | h
      · rw [bvs_length] at h; omega
      · rw [List.getElem?_eq_none h] at hu; cases hu
    have hb : (a.add j).block = a.block := by unfold Addr.add; split <;> rfl
    exact hgr.cell hc (by rw [hb]; simpa using hA a rfl hl)
  · rintro e w' ⟨rfl, ⟨qs, ex', h1, h2, h3⟩, hgr⟩
    exact ⟨rfl, ⟨qs, ex', h1, h2, by simpa using h3⟩, hgr⟩
end Go.Proofs.YtdnmfgpladgjhaaDoor
