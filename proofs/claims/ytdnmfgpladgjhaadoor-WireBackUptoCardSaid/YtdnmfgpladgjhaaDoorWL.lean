/- The reader. -/
import Derived.Test.YtdnmfgpladgjhaaDoorWE
import Derived.OpenShut
import Derived.OwnWalk
namespace Go.Proofs.YtdnmfgpladgjhaaDoor
open Go Go.RowKit Go.Proofs.YtdnmfgpladgjhaaDoor.Gf
set_option linter.unusedVariables false
set_option linter.unusedSimpArgs false

/-- The number at the beginning of a list of bytes, and how many bytes it has. -/
def rd : List F → Nat → Nat → Option (Nat × Nat)
  | [], _, _ => none
  | c :: l, i, n => if 9 ≤ i then none else if c.toNat < 128 then (if c = 0 ∧ i ≠ 0 then none else some (n + c.toNat * 128 ^ i, i + 1)) else rd l (i + 1) (n + (c.toNat - 128) * 128 ^ i)
theorem and127_u8 : ∀ k : Fin 256, bits .and .u8 ((k.val : Nat) : Int) 127 = ((k.val % 128 : Nat) : Int) := by decide +kernel
theorem or_i64n (a b : Nat) (ha : a < 2 ^ 63) (hb : b < 2 ^ 63) : bits .or .i64 a b = ((a ||| b : Nat) : Int) := by
  have hp : (2 : Nat) ^ 63 ≤ 2 ^ IntKind.i64.bits := Nat.pow_le_pow_right (by decide) (by decide)
  have ha' : a % 2 ^ IntKind.i64.bits = a := Nat.mod_eq_of_lt (Nat.lt_of_lt_of_le ha hp)
  have hb' : b % 2 ^ IntKind.i64.bits = b := Nat.mod_eq_of_lt (Nat.lt_of_lt_of_le hb hp)
  simp only [bits, BitVec.ofInt_natCast, BitVec.toNat_or, BitVec.toNat_ofNat, ha', hb']
  exact wraps_i64 _ (Int.natCast_nonneg _) (by have := Nat.or_lt_two_pow ha hb; exact_mod_cast this)
theorem rd_step0 (z t m P : Nat) (hP : P = 2 ^ (7 * t)) (hP2 : 128 * P ≤ 9223372036854775808) (hz : z < P) (hm : m < 128) : bits .or .i64 (z : Int) (wrap64 (wrap64 (m : Int) * 2 ^ (7 * t))) = ((z + m * P : Nat) : Int) ∧ z + m * P < 128 * P := by
  have h2 : wrap64 (m : Int) = (m : Int) := by unfold wrap64; omega
  have h3 : ((m : Int) * 2 ^ (7 * t)) = ((m * P : Nat) : Int) := by rw [hP]; push_cast; rfl
  have h6 : (m + 1) * P ≤ 128 * P := Nat.mul_le_mul_right _ (by omega)
  rw [Nat.add_mul, Nat.one_mul] at h6
  rw [h2, h3]
  have h5 : z ||| m * P = z + m * P := by
    have := Nat.two_pow_add_eq_or_of_lt (i := 7 * t) (b := z) (by rw [← hP]; exact hz) m
    rw [← hP] at this
    rw [Nat.or_comm, Nat.mul_comm m, ← this, Nat.add_comm]
  generalize m * P = q at *
  have h4 : wrap64 (q : Int) = (q : Int) := by unfold wrap64; omega
  rw [h4, or_i64n z q (by omega) (by omega), h5]
  exact ⟨rfl, by omega⟩
theorem rd_step (z t : Nat) (c : F) (hz : z < 128 ^ t) (ht : t < 9) : bits .or .i64 (z : Int) (wrap64 (wrap64 (bits .and .u8 (i c) 127) * 2 ^ (7 * t))) = ((z + c.toNat % 128 * 128 ^ t : Nat) : Int) ∧ z + c.toNat % 128 * 128 ^ t < 128 ^ (t + 1) := by
  have h1 : bits .and .u8 (i c) 127 = ((c.toNat % 128 : Nat) : Int) := and127_u8 ⟨c.toNat, c.toNat_lt⟩
  have hle : 128 ^ (t + 1) ≤ 128 ^ 9 := Nat.pow_le_pow_right (by omega) (by omega)
  rw [h1, Nat.pow_succ, Nat.mul_comm (128 ^ t) 128]
  rw [Nat.pow_succ, Nat.mul_comm (128 ^ t) 128] at hle
  exact rd_step0 z t _ (128 ^ t) (by rw [Nat.pow_mul]) (Nat.le_trans hle (Nat.le_of_eq (by decide +kernel))) hz (Nat.mod_lt _ (by omega))
/-- A reader's two blocks. -/
structure Rd (B : Nat) (w : World) (g : Nat) (X : Option Addr) (cx : Nat) (l : List F) (p : Nat) : Prop where
  base : B ≤ g
  cell : w.heap[g]? = some (.cells #[.slice X l.length cx, .int .i64 (p : Int)] 77 (0, 0))
  rb : RB w X l
  cap : l.length ≤ cx
  off : ∀ a, X = some a → B ≤ a.block ∧ a.block ≠ g
  len : l.length ≤ 140737488355328
  pos : p ≤ l.length
theorem Rd.mono {B : Nat} {w w' : World} {g : Nat} {X : Option Addr} {cx : Nat} {l : List F} {p : Nat} (h : Rd B w g X cx l p) (hb : Below w.heap.size w w') : Rd B w' g X cx l p :=
  ⟨h.base, (hb.block g (Array.getElem?_eq_some_iff.1 h.cell).1).trans h.cell, h.rb.mono hb, h.cap, h.off, h.len, h.pos⟩
theorem Rd.lt {B : Nat} {w : World} {g : Nat} {X : Option Addr} {cx : Nat} {l : List F} {p : Nat} (h : Rd B w g X cx l p) : g < w.heap.size := (Array.getElem?_eq_some_iff.1 h.cell).1
theorem Rd.set {B : Nat} {w : World} {g : Nat} {X : Option Addr} {cx : Nat} {l : List F} {p : Nat} (h : Rd B w g X cx l p) (q : Nat) (hq : q ≤ l.length) :
    Rd B (w.setCell ⟨g, 1, none⟩ (.int .i64 (q : Int))) g X cx l q ∧ w.grownBy (w.setCell ⟨g, 1, none⟩ (.int .i64 (q : Int))) (some g) := by
  have hg : w.grownBy (w.setCell ⟨g, 1, none⟩ (.int .i64 (q : Int))) (some g) := ⟨rfl, rfl, rfl, by simp [World.setCell], fun k hk hne => heap_setCell_other w ⟨g, 1, none⟩ k _ (fun e => hne (by rw [e]))⟩
  exact ⟨⟨h.base, set1 _ h.cell, h.rb.off hg (fun _ a ha => (h.off a ha).2), h.cap, h.off, h.len, hq⟩, hg⟩
theorem rd_le : ∀ (l : List F) (i n m k : Nat), rd l i n = some (m, k) → i < k ∧ k ≤ l.length + i
  | [], i, n, m, k, h => by simp [rd] at h
  | c :: l, i, n, m, k, h => by
    simp only [rd] at h
    split at h
    · cases h
    · split at h
      · split at h
        · cases h
        · simp only [Option.some.injEq, Prod.mk.injEq] at h
          simp only [List.length_cons]; omega
      · have := rd_le l (i + 1) _ m k h
        simp only [List.length_cons]; omega
/-- What Num answers: the number, the error's number, the place behind. -/
def rNum (l : List F) (p : Nat) (most : Int) : Nat × Nat × Nat := match rd (l.drop p) 0 0 with
  | some (n, k) => if (n : Int) ≤ most then (n, 0, p + k) else (0, 10, p)
  | none => (0, 10, p)
/-- What Bytes answers. -/
def rBytes (l : List F) (p : Nat) (most : Int) : List F × Nat × Nat := match rd (l.drop p) 0 0 with
  | some (n, k) => if (n : Int) ≤ most ∧ n ≤ l.length - (p + k) then ((l.drop (p + k)).take n, 0, p + k + n) else ([], 10, p)
  | none => ([], 10, p)

set_option maxRecDepth 100000 in
set_option maxHeartbeats 4000000 in
theorem number_calls (g : Nat) (X : Option Addr) (cx : Nat) (l : List F) (p : Nat) (w : World) {B : Nat} (hR : Rd B w g X cx l p) :
    Calls Tryd.prog 39 #[.pointer (some ⟨g, 0, none⟩), .int .i64 p] w fun e w' => w = w' ∧
      ((∃ n k, rd (l.drop p) 0 0 = some (n, k) ∧ e = .returned (.tuple #[.int .i64 (n : Nat), .int .i64 (p + k : Nat), .bool true])) ∨ (rd (l.drop p) 0 0 = none ∧ ∃ a b : Int, e = .returned (.tuple #[.int .i64 a, .int .i64 b, .bool false]))) := by
  have HR := Pk.mk hR
  have c0 := cell0 hR.cell
  have hcap := hR.cap
  have hlen := hR.len
  have hpos := hR.pos
  obtain ⟨len, HL⟩ : ∃ len, Pk (l.length = len) := ⟨_, ⟨rfl⟩⟩
  rw [HL.out] at c0 hcap hlen hpos
  clear hR
  go_enter Tryd.func39, Tryd.ntmps39
  go_wp2
  go_loop [10, 7] (fun x s => ∃ t z : Nat, t ≤ 9 ∧ x = .int .i64 (t : Int) ∧ s = .int .i64 (z : Int) ∧ Pk (z < 128 ^ t ∧ rd (l.drop p) 0 0 = rd (l.drop (p + t)) t z)) (fun x _ => 9 - (intOf x).toNat)
  case atStart => exact ⟨0, 0, by omega, rfl, rfl, ⟨by omega, rfl⟩⟩
  case round =>
    obtain ⟨t, z, ht, rfl, rfl, HZ⟩ := hrel
    by_cases hlt : t < 9
    · by_cases hin : p + t < len
      · have hin' : p + t < l.length := by rw [HL.out]; exact hin
        obtain ⟨a, rfl, hc⟩ := RB.at HR.out.rb hin'
        obtain ⟨c, Hc⟩ : ∃ c, Pk (c = l[p + t]) := ⟨_, ⟨rfl⟩⟩
        rw [← Hc.out] at hc
        have hd : l.drop (p + t) = c :: l.drop (p + (t + 1)) := by rw [Hc.out, ← Nat.add_assoc, List.getElem_cons_drop]
        obtain ⟨hb1, hb2⟩ := rd_step z t c HZ.out.1 hlt
        have hr := HZ.out.2
        rw [hd] at hr
        simp only [rd] at hr
        rw [if_neg (by omega)] at hr
        clear hd
        by_cases h128 : c.toNat < 128
        · have hi1 : i c < 128 := by unfold i; omega
          rw [if_pos h128] at hr
          rw [Nat.mod_eq_of_lt h128] at hb1 hb2
          by_cases h0 : c = 0 ∧ t ≠ 0
          · rw [if_pos h0] at hr
            have hz0 : i c = 0 := by rw [h0.1]; rfl
            have hz1 : (i c != 0) = false := by rw [h0.1]; rfl
            have ht0 : ((t : Int) == 0) = false := by rw [beq_eq_false_iff_ne]; omega
            have HRR := Pk.mk hr
            clear hr HZ
            go_wp2
            go_ret3
            exact ⟨rfl, Or.inr ⟨HRR.out, _, _, rfl⟩⟩
          · rw [if_neg h0] at hr
            have HRR := Pk.mk hr
            clear hr HZ
            by_cases hc0 : c = 0
            · have ht0 : t = 0 := by
                rcases Nat.eq_zero_or_pos t with h | h
                · exact h
                · exact absurd ⟨hc0, by omega⟩ h0
              have HT := Pk.mk ht0
              have ht1 : ((t : Int) == 0) = true := by rw [ht0]; rfl
              have HC0 := Pk.mk (show i c = 0 by rw [hc0]; rfl)
              have HC1 := Pk.mk (show c.toNat = 0 by rw [hc0]; rfl)
              have hz0 := HC0.out
              have HB := Pk.mk hb1
              clear ht0 hc0 h0 hb1
              go_wp2
              go_ret3
              refine ⟨rfl, Or.inl ⟨_, _, HRR.out, ?_⟩⟩
              have hh := HB.out
              rw [HC0.out] at hh
              rw [hh]
              simp [HT.out, Nat.add_assoc]
            · have hz0 : ¬ i c = 0 := by intro e; exact hc0 (UInt8.toNat_inj.1 (by unfold i at e; show c.toNat = 0; omega))
              have hz1 : (i c != 0) = true := by simp [hz0]
              go_wp2
              go_ret3
              exact ⟨rfl, Or.inl ⟨_, _, HRR.out, by first | rfl | simp [Nat.add_assoc] | (simp; omega)⟩⟩
        · have hi1 : ¬ i c < 128 := by unfold i; omega
          rw [if_neg h128] at hr
          rw [show c.toNat % 128 = c.toNat - 128 by have := c.toNat_lt; omega] at hb1 hb2
          have HRR := Pk.mk (And.intro hb2 hr)
          clear hr HZ hb2
          generalize z + (c.toNat - 128) * 128 ^ t = z2 at *
          go_wp2
          go_round
          · exact ⟨t + 1, z2, by omega, by go_num, by first | rfl | rw [hb1], HRR⟩
          · simp [intOf]; omega
      · have hd : l.drop (p + t) = [] := List.drop_eq_nil_of_le (by rw [HL.out]; omega)
        have hr := HZ.out.2
        rw [hd] at hr
        have HRR := Pk.mk hr
        clear hr HZ hd
        go_wp2
        go_ret3
        exact ⟨rfl, Or.inr ⟨by rw [HRR.out]; rfl, _, _, rfl⟩⟩
    · obtain rfl : t = 9 := by omega
      have hr : rd (l.drop p) 0 0 = none := by
        rw [HZ.out.2]
        cases l.drop (p + 9) with
        | nil => rfl
        | cons c m => simp [rd]
      have HRR := Pk.mk hr
      clear hr HZ
      go_wp2
      go_ret3
      exact ⟨rfl, Or.inr ⟨HRR.out, _, _, rfl⟩⟩
end Go.Proofs.YtdnmfgpladgjhaaDoor
