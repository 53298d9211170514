/- The reader's Text; what is put is read back: plain Lean. -/
import Derived.Test.YtdnmfgpladgjhaaDoorWM
import Derived.Test.YtdnmfgpladgjhaaDoorOps
namespace Go.Proofs.YtdnmfgpladgjhaaDoor
open Go Go.RowKit Go.Proofs.YtdnmfgpladgjhaaDoor.Gf
set_option linter.unusedVariables false
set_option linter.unusedSimpArgs false

theorem rtext_calls (E : Nat → Addr) (B g : Nat) (X : Option Addr) (cx : Nat) (l : List F) (p : Nat) (most : Int) (w : World) (hE : ErrW w E rdErrs) (hR : Rd B w g X cx l p) :
    Calls Tryd.prog 25 #[.pointer (some ⟨g, 0, none⟩), .int .i64 most] w fun e w' => e = .returned (.tuple #[.string (bs (rBytes l p most).1), errN E (rBytes l p most).2.1]) ∧ Rd B w' g X cx l (rBytes l p most).2.2 ∧ w.grownBy w' (some g) := by
  have HR := Pk.mk hR
  have HE := Pk.mk hE
  clear hR hE
  go_enter Tryd.func25, Tryd.ntmps25
  go_wp2_with fail
  have q := rbytes_calls E B g X cx l p most w HE.out HR.out
  with_reducible refine q.mono ?_
  clear q
  rintro e w1 ⟨v, rfl, ho, hr, hg⟩
  obtain ⟨Y, cy, rfl, _, hcs, _⟩ := own_form ho
  have hc := conv_bytes' (w := w1) cy rfl (show RB w1 Y (rBytes l p most).1 from hcs)
  have HF := Pk.mk (And.intro hr hg)
  clear ho hcs hr hg
  go_wp2
  go_ret2
  exact ⟨rfl, HF.out.1, HF.out.2⟩

theorem rd_numB : ∀ (n : Nat) (s : List F) (i z : Nat), i + (numB n).length ≤ 9 → (i = 0 ∨ n ≠ 0) → rd (numB n ++ s) i z = some (z + n * 128 ^ i, i + (numB n).length) := by
  intro n
  induction n using Nat.strongRecOn with
  | _ n ih =>
    intro s i z h9 h0
    by_cases hn : n < 128
    · rw [numB_lt hn] at h9 ⊢
      simp only [List.cons_append, List.nil_append, rd, List.length_cons, List.length_nil] at h9 ⊢
      rw [if_neg (by omega), toNat_ofNat_lt (by omega), if_pos hn, if_neg]
      rintro ⟨hc, hi⟩
      have := congrArg UInt8.toNat hc
      rw [toNat_ofNat_lt (by omega)] at this
      have : n = 0 := this
      omega
    · rw [numB_ge hn] at h9 ⊢
      simp only [List.cons_append, rd, List.length_cons] at h9 ⊢
      rw [if_neg (by omega), toNat_ofNat_lt (by omega), if_neg (by omega), ih (n / 128) (by omega) s (i + 1) _ (by omega) (Or.inr (by omega))]
      have e1 : n % 128 + 128 - 128 = n % 128 := by omega
      have e2 : n = 128 * (n / 128) + n % 128 := by omega
      have e3 : z + n % 128 * 128 ^ i + n / 128 * 128 ^ (i + 1) = z + n * 128 ^ i := by
        rw [Nat.pow_succ]
        generalize 128 ^ i = P
        have h3 : n * P = 128 * (n / 128) * P + n % 128 * P := by rw [← Nat.add_mul, ← e2]
        rw [h3, Nat.mul_comm 128 (n / 128), Nat.mul_assoc (n / 128), Nat.mul_comm 128 P]
        omega
      rw [e1, e3, show i + 1 + (numB (n / 128)).length = i + ((numB (n / 128)).length + 1) by omega]
theorem rd_cut : ∀ (n m : Nat) (i z : Nat), m < (numB n).length → rd ((numB n).take m) i z = none := by
  intro n
  induction n using Nat.strongRecOn with
  | _ n ih =>
    intro m i z hm
    cases m with
    | zero => rw [List.take_zero]; rfl
    | succ m =>
      by_cases hn : n < 128
      · rw [numB_lt hn] at hm; simp at hm
      · rw [numB_ge hn] at hm ⊢
        simp only [List.length_cons] at hm
        simp only [List.take_succ_cons, rd]
        split
        · rfl
        · rw [toNat_ofNat_lt (by omega), if_neg (by omega)]
          exact ih (n / 128) (by omega) m _ _ (by omega)

/-- What an Op puts. -/
def opPut (x : OpV) (n : Nat) : List F := if x.k = 1 then numB n else if x.k = 2 ∨ x.k = 3 then numB x.l.length ++ x.l else []
theorem rNum_put {l s : List F} {p n : Nat} {most : Int} (hn : n < 9223372036854775808) (h : l.drop p = numB n ++ s) (hm : (n : Int) ≤ most) : rNum l p most = (n, 0, p + (numB n).length) := by
  have := rd_numB n s 0 0 (by have := numB_len9 hn; omega) (Or.inl rfl)
  rw [← h] at this
  simp only [Nat.pow_zero, Nat.mul_one, Nat.zero_add] at this
  exact rNum_some this hm
theorem rNum_cut {l : List F} {p n m : Nat} {most : Int} (hm : m < (numB n).length) (h : l.drop p = (numB n).take m) : rNum l p most = (0, 10, p) := by
  refine rNum_none ?_
  rw [h]; exact rd_cut n m 0 0 hm
theorem rBytes_put {l s t : List F} {p : Nat} {most : Int} (hn : t.length < 9223372036854775808) (h : l.drop p = (numB t.length ++ t) ++ s) (hm : (t.length : Int) ≤ most) (hp : p ≤ l.length) : rBytes l p most = (t, 0, p + (numB t.length ++ t).length) := by
  have h1 := rd_numB t.length (t ++ s) 0 0 (by have := numB_len9 hn; omega) (Or.inl rfl)
  rw [← List.append_assoc, ← h] at h1
  simp only [Nat.pow_zero, Nat.mul_one, Nat.zero_add] at h1
  have hl := congrArg List.length h
  simp only [List.length_drop, List.length_append] at hl
  rw [rBytes_some h1 hm (by omega)]
  have h2 : l.drop (p + (numB t.length).length) = t ++ s := by
    rw [← List.drop_drop, h, List.append_assoc, List.drop_left' rfl]
  rw [h2, List.take_left' rfl, List.length_append, Nat.add_assoc]
theorem rBytes_cut {l t : List F} {p m : Nat} {most : Int} (hn : t.length < 9223372036854775808) (hm : m < (numB t.length ++ t).length) (h : l.drop p = (numB t.length ++ t).take m) (hp : p ≤ l.length) : rBytes l p most = ([], 10, p) := by
  by_cases hc : m < (numB t.length).length
  · refine rBytes_none ?_
    rw [h, List.take_append_of_le_length (by omega)]
    exact rd_cut _ _ 0 0 hc
  · have e : (numB t.length ++ t).take m = numB t.length ++ t.take (m - (numB t.length).length) := by
      rw [List.take_append, List.take_of_length_le (by omega)]
    rw [e] at h
    have h1 := rd_numB t.length (t.take (m - (numB t.length).length)) 0 0 (by have := numB_len9 hn; omega) (Or.inl rfl)
    rw [← h] at h1
    simp only [Nat.pow_zero, Nat.mul_one, Nat.zero_add] at h1
    refine rBytes_more h1 ?_
    rintro ⟨_, h2⟩
    have hl := congrArg List.length h
    simp only [List.length_drop, List.length_append, List.length_take] at hl hm
    omega
end Go.Proofs.YtdnmfgpladgjhaaDoor
