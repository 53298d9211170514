/- The field of 256 elements in plain Lean: multiplication as a bilinear map over bits, its laws, powers of two, logarithms. No program in sight. -/
namespace Go.Proofs.YtdnmfgpladgjhaaDoor.Gf

abbrev B := BitVec 8

/-- Twice x in the field. -/
def xt (a : B) : B := (a <<< 1) ^^^ (if a.getLsbD 7 then 0x1d#8 else 0#8)
def sel (b : Bool) (x : B) : B := if b then x else 0#8
/-- The product: for each bit of b, a doubled so often. -/
def mulB (a b : B) : B :=
  sel (b.getLsbD 0) a ^^^ (sel (b.getLsbD 1) (xt a) ^^^ (sel (b.getLsbD 2) (xt (xt a)) ^^^ (sel (b.getLsbD 3) (xt (xt (xt a))) ^^^
  (sel (b.getLsbD 4) (xt (xt (xt (xt a)))) ^^^ (sel (b.getLsbD 5) (xt (xt (xt (xt (xt a))))) ^^^ (sel (b.getLsbD 6) (xt (xt (xt (xt (xt (xt a)))))) ^^^
  sel (b.getLsbD 7) (xt (xt (xt (xt (xt (xt (xt a)))))))))))))

theorem xlc (a b c : B) : a ^^^ (b ^^^ c) = b ^^^ (a ^^^ c) := by rw [← BitVec.xor_assoc, BitVec.xor_comm a b, BitVec.xor_assoc]
theorem xself (a b : B) : a ^^^ (a ^^^ b) = b := by rw [← BitVec.xor_assoc, BitVec.xor_self, BitVec.zero_xor]
theorem xor4 (a b c d : B) : a ^^^ b ^^^ (c ^^^ d) = a ^^^ c ^^^ (b ^^^ d) := by
  rw [BitVec.xor_assoc, BitVec.xor_assoc, xlc b c d]
theorem xor16 (p0 p1 p2 p3 p4 p5 p6 p7 q0 q1 q2 q3 q4 q5 q6 q7 : B) :
    (p0 ^^^ q0) ^^^ ((p1 ^^^ q1) ^^^ ((p2 ^^^ q2) ^^^ ((p3 ^^^ q3) ^^^ ((p4 ^^^ q4) ^^^ ((p5 ^^^ q5) ^^^ ((p6 ^^^ q6) ^^^ (p7 ^^^ q7)))))))
    = (p0 ^^^ (p1 ^^^ (p2 ^^^ (p3 ^^^ (p4 ^^^ (p5 ^^^ (p6 ^^^ p7))))))) ^^^ (q0 ^^^ (q1 ^^^ (q2 ^^^ (q3 ^^^ (q4 ^^^ (q5 ^^^ (q6 ^^^ q7))))))) := by
  rw [xor4 p6 q6, xor4 p5 q5, xor4 p4 q4, xor4 p3 q3, xor4 p2 q2, xor4 p1 q1, xor4 p0 q0]

theorem xt_xor (a b : B) : xt (a ^^^ b) = xt a ^^^ xt b := by
  unfold xt
  rw [BitVec.shiftLeft_xor_distrib, BitVec.getLsbD_xor]
  cases a.getLsbD 7 <;> cases b.getLsbD 7 <;> simp [BitVec.xor_assoc, BitVec.xor_comm, xlc]

theorem sel_xor (b : Bool) (x y : B) : sel b (x ^^^ y) = sel b x ^^^ sel b y := by cases b <;> simp [sel]
theorem sel_xor_left (b c : Bool) (x : B) : sel (b ^^ c) x = sel b x ^^^ sel c x := by cases b <;> cases c <;> simp [sel]

theorem mulB_xor_left (a a' b : B) : mulB (a ^^^ a') b = mulB a b ^^^ mulB a' b := by
  unfold mulB
  simp only [xt_xor, sel_xor]
  exact xor16 ..

theorem mulB_xor_right (a b b' : B) : mulB a (b ^^^ b') = mulB a b ^^^ mulB a b' := by
  unfold mulB
  simp only [BitVec.getLsbD_xor, sel_xor_left]
  exact xor16 ..

/-- Every element is the sum of its bits. -/
theorem bitsum (a : B) : a = sel (a.getLsbD 0) 1#8 ^^^ (sel (a.getLsbD 1) 2#8 ^^^ (sel (a.getLsbD 2) 4#8 ^^^ (sel (a.getLsbD 3) 8#8 ^^^ (sel (a.getLsbD 4) 16#8 ^^^ (sel (a.getLsbD 5) 32#8 ^^^ (sel (a.getLsbD 6) 64#8 ^^^ sel (a.getLsbD 7) 128#8)))))) := by
  revert a; decide +kernel

/-- Two additive maps that agree at the eight bits agree. -/
theorem ext_bits {f g : B → B} (hf : ∀ x y, f (x ^^^ y) = f x ^^^ f y) (hg : ∀ x y, g (x ^^^ y) = g x ^^^ g y)
    (h : f 1#8 = g 1#8 ∧ f 2#8 = g 2#8 ∧ f 4#8 = g 4#8 ∧ f 8#8 = g 8#8 ∧ f 16#8 = g 16#8 ∧ f 32#8 = g 32#8 ∧ f 64#8 = g 64#8 ∧ f 128#8 = g 128#8) (a : B) : f a = g a := by
  have f0 : f 0#8 = 0#8 := by have := hf 0#8 0#8; simpa using this
  have g0 : g 0#8 = 0#8 := by have := hg 0#8 0#8; simpa using this
  have fs : ∀ b x, f (sel b x) = sel b (f x) := by intro b x; cases b <;> simp [sel, f0]
  have gs : ∀ b x, g (sel b x) = sel b (g x) := by intro b x; cases b <;> simp [sel, g0]
  rw [bitsum a]
  simp only [hf, hg, fs, gs]
  obtain ⟨h0, h1, h2, h3, h4, h5, h6, h7⟩ := h
  rw [h0, h1, h2, h3, h4, h5, h6, h7]

theorem mulB_comm (a b : B) : mulB a b = mulB b a := by
  refine ext_bits (f := fun x => mulB x b) (g := fun x => mulB b x) (fun x y => mulB_xor_left x y b) (fun x y => mulB_xor_right b x y) ?_ a
  refine ⟨?_, ?_, ?_, ?_, ?_, ?_, ?_, ?_⟩
  all_goals
    refine ext_bits (f := fun x => mulB _ x) (g := fun x => mulB x _) (fun x y => mulB_xor_right _ x y) (fun x y => mulB_xor_left x y _) ?_ b
    decide +kernel

theorem mulB_assoc (a b c : B) : mulB (mulB a b) c = mulB a (mulB b c) := by
  refine ext_bits (f := fun x => mulB (mulB x b) c) (g := fun x => mulB x (mulB b c)) (fun x y => by simp only [mulB_xor_left]) (fun x y => mulB_xor_left x y _) ?_ a
  refine ⟨?_, ?_, ?_, ?_, ?_, ?_, ?_, ?_⟩
  all_goals
    refine ext_bits (f := fun x => mulB (mulB _ x) c) (g := fun x => mulB _ (mulB x c)) (fun x y => by simp only [mulB_xor_left, mulB_xor_right]) (fun x y => by simp only [mulB_xor_left, mulB_xor_right]) ?_ b
    refine ⟨?_, ?_, ?_, ?_, ?_, ?_, ?_, ?_⟩
  all_goals
    refine ext_bits (f := fun x => mulB (mulB _ _) x) (g := fun x => mulB _ (mulB _ x)) (fun x y => mulB_xor_right _ x y) (fun x y => by simp only [mulB_xor_right]) ?_ c
    decide +kernel

/-! ### on bytes -/
abbrev F := UInt8
def mul (a b : F) : F := ⟨mulB a.toBitVec b.toBitVec⟩

theorem fext {a b : F} (h : a.toBitVec = b.toBitVec) : a = b := UInt8.toBitVec_inj.1 h
theorem toBitVec_mul (a b : F) : (mul a b).toBitVec = mulB a.toBitVec b.toBitVec := rfl

theorem mul_comm (a b : F) : mul a b = mul b a := fext (mulB_comm _ _)
theorem mul_assoc (a b c : F) : mul (mul a b) c = mul a (mul b c) := fext (mulB_assoc _ _ _)
theorem mul_add (a b c : F) : mul a (b ^^^ c) = mul a b ^^^ mul a c := fext (by simp only [toBitVec_mul, UInt8.toBitVec_xor, mulB_xor_right])
theorem add_mul (a b c : F) : mul (a ^^^ b) c = mul a c ^^^ mul b c := fext (by simp only [toBitVec_mul, UInt8.toBitVec_xor, mulB_xor_left])
theorem mulB_one : ∀ a : B, mulB a 1#8 = a := by decide +kernel
theorem mulB_zero : ∀ a : B, mulB a 0#8 = 0#8 := by decide +kernel
theorem mul_one (a : F) : mul a 1 = a := fext (mulB_one _)
theorem one_mul (a : F) : mul 1 a = a := by rw [mul_comm, mul_one]
theorem mul_zero (a : F) : mul a 0 = 0 := fext (mulB_zero _)
theorem zero_mul (a : F) : mul 0 a = 0 := by rw [mul_comm, mul_zero]
theorem mul_left_comm (a b c : F) : mul a (mul b c) = mul b (mul a c) := by rw [← mul_assoc, mul_comm a b, mul_assoc]

/-- a to the n. -/
def pow (a : F) : Nat → F
  | 0 => 1
  | n + 1 => mul (pow a n) a
theorem pow_add (a : F) (m n : Nat) : pow a (m + n) = mul (pow a m) (pow a n) := by
  induction n with
  | zero => rw [Nat.add_zero]; show _ = mul _ 1; rw [mul_one]
  | succ n ih => show mul (pow a (m + n)) a = mul _ (mul _ _); rw [ih, mul_assoc]
theorem pow_mul (a : F) (m n : Nat) : pow a (m * n) = pow (pow a m) n := by
  induction n with
  | zero => rfl
  | succ n ih => rw [Nat.mul_succ, pow_add, ih]; rfl
theorem pow_one (a : F) : pow a 1 = a := by show mul 1 a = a; exact one_mul a
theorem one_pow (n : Nat) : pow 1 n = 1 := by
  induction n with
  | zero => rfl
  | succ n ih => show mul (pow 1 n) 1 = 1; rw [mul_one, ih]

def sq (a : B) : B := mulB a a
/-- a to the 254, by ten products. -/
def invB (a : B) : B :=
  let a2 := sq a; let a4 := sq a2; let a8 := sq a4; let a16 := sq a8; let a32 := sq a16; let a64 := sq a32; let a128 := sq a64
  mulB a2 (mulB a4 (mulB a8 (mulB a16 (mulB a32 (mulB a64 a128)))))
theorem invB_mul : ∀ a : B, a ≠ 0#8 → mulB a (invB a) = 1#8 := by decide +kernel
theorem invB_zero : invB 0#8 = 0#8 := by decide +kernel
/-- The inverse (0 of 0). -/
def inv (a : F) : F := ⟨invB a.toBitVec⟩
theorem mul_inv {a : F} (h : a ≠ 0) : mul a (inv a) = 1 := fext (invB_mul _ (fun e => h (fext e)))
theorem inv_zero : inv 0 = 0 := fext invB_zero
theorem inv_mul {a : F} (h : a ≠ 0) : mul (inv a) a = 1 := by rw [mul_comm, mul_inv h]
theorem pow_254 (a : F) : pow a 254 = inv a := by
  have s : ∀ n, pow a (2 * n) = mul (pow a n) (pow a n) := fun n => by rw [Nat.two_mul, pow_add]
  have e : (254 : Nat) = 2 + (4 + (8 + (16 + (32 + (64 + 128))))) := rfl
  rw [e]
  simp only [pow_add a 2, pow_add a 4, pow_add a 8, pow_add a 16, pow_add a 32, pow_add a 64]
  rw [show (128 : Nat) = 2 * 64 from rfl, s 64, show (64 : Nat) = 2 * 32 from rfl, s 32, show (32 : Nat) = 2 * 16 from rfl, s 16, show (16 : Nat) = 2 * 8 from rfl, s 8,
    show (8 : Nat) = 2 * 4 from rfl, s 4, show (4 : Nat) = 2 * 2 from rfl, s 2, show (2 : Nat) = 2 * 1 from rfl, s 1, pow_one]
  rfl
theorem pow_255 {a : F} (h : a ≠ 0) : pow a 255 = 1 := by show mul (pow a 254) a = 1; rw [pow_254, inv_mul h]
theorem pow_mod {a : F} (h : a ≠ 0) (n : Nat) : pow a (n % 255) = pow a n := by
  have := Nat.div_add_mod n 255
  conv => rhs; rw [← this, pow_add, pow_mul, pow_255 h, one_pow, one_mul]

theorem eq_zero_of_mul {a b : F} (h : mul a b = 0) (ha : a ≠ 0) : b = 0 := by
  have : mul (inv a) (mul a b) = 0 := by rw [h, mul_zero]
  rwa [← mul_assoc, inv_mul ha, one_mul] at this
theorem mul_ne_zero {a b : F} (ha : a ≠ 0) (hb : b ≠ 0) : mul a b ≠ 0 := fun h => hb (eq_zero_of_mul h ha)
theorem one_ne_zero : (1 : F) ≠ 0 := by decide
theorem inv_ne_zero {a : F} (h : a ≠ 0) : inv a ≠ 0 := fun e => by
  have := mul_inv h
  rw [e, mul_zero] at this
  exact one_ne_zero this.symm
theorem inv_unique {a b : F} (h : mul a b = 1) : b = inv a := by
  have ha : a ≠ 0 := fun e => by rw [e, zero_mul] at h; exact one_ne_zero h.symm
  have : mul (inv a) (mul a b) = inv a := by rw [h, mul_one]
  rwa [← mul_assoc, inv_mul ha, one_mul] at this
theorem add_self (a : F) : a ^^^ a = 0 := UInt8.xor_self
theorem add_eq_zero {a b : F} (h : a ^^^ b = 0) : a = b := by
  have : a ^^^ b ^^^ b = b := by rw [h, UInt8.zero_xor]
  rwa [UInt8.xor_assoc, UInt8.xor_self, UInt8.xor_zero] at this
theorem mul_cancel {a b c : F} (ha : a ≠ 0) (h : mul a b = mul a c) : b = c := by
  have : mul a (b ^^^ c) = 0 := by rw [mul_add, h, add_self]
  exact add_eq_zero (eq_zero_of_mul this ha)

#print axioms mul_assoc
#print axioms pow_254
end Go.Proofs.YtdnmfgpladgjhaaDoor.Gf
