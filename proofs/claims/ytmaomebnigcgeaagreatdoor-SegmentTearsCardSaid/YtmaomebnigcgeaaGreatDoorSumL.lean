/-
  The plain law of the sum: the cyclic check byte by byte, low bit first, is the document's, bit by bit, high bit first. Plain Lean: no program in sight.
-/
namespace Go.Proofs.YtmaomebnigcgeaaGreatDoor

/-- One bit of the program's sum. -/
def cbit (v : Nat) : Nat := if v % 2 = 1 then (v / 2) ^^^ 3988292384 else v / 2
def cbits : Nat → Nat → Nat
  | 0, v => v
  | k + 1, v => cbit (cbits k v)
def cbyte (v : Nat) (c : UInt8) : Nat := cbits 8 (v ^^^ c.toNat)
def crc (l : List UInt8) : Nat := l.foldl cbyte 4294967295
def sumOf (l : List UInt8) : Nat := 4294967295 ^^^ crc l

/-- One bit of the document's sum. -/
def rbit (c v : Nat) (j : Nat) : Nat :=
  if c / 2 ^ j % 2 ≠ v / 2147483648 % 2 then (v * 2 % 4294967296) ^^^ 79764919 else v * 2 % 4294967296
def rbits (c : Nat) : Nat → Nat → Nat
  | 0, v => v
  | k + 1, v => rbit c (rbits c k v) k
def rbyte (v : Nat) (c : UInt8) : Nat := rbits c.toNat 8 v
def rcrc (l : List UInt8) : Nat := l.foldl rbyte 4294967295
def rout (v : Nat) : Nat → Nat
  | 0 => 0
  | m + 1 => if v / 2 ^ m % 2 = 0 then rout v m + 2 ^ (31 - m) else rout v m
def rsumOf (l : List UInt8) : Nat := rout (rcrc l) 32

theorem cbit_lt {v : Nat} (h : v < 4294967296) : cbit v < 4294967296 := by
  unfold cbit
  split
  · exact Nat.xor_lt_two_pow (n := 32) (by omega) (by omega)
  · omega
theorem cbits_lt (k : Nat) {v : Nat} (h : v < 4294967296) : cbits k v < 4294967296 := by
  induction k with
  | zero => exact h
  | succ k ih => exact cbit_lt ih
theorem u8_lt (c : UInt8) : c.toNat < 256 := c.toNat_lt
theorem xor_byte_lt {v : Nat} (c : UInt8) (h : v < 4294967296) : v ^^^ c.toNat < 4294967296 :=
  Nat.xor_lt_two_pow (n := 32) (by omega) (by have := u8_lt c; omega)
theorem cbyte_lt {v : Nat} (c : UInt8) (h : v < 4294967296) : cbyte v c < 4294967296 := cbits_lt 8 (xor_byte_lt c h)
theorem crc_lt (l : List UInt8) : crc l < 4294967296 := by
  unfold crc
  suffices h : ∀ (l : List UInt8) (v : Nat), v < 4294967296 → l.foldl cbyte v < 4294967296 from h l _ (by omega)
  intro l
  induction l with
  | nil => intro v h; exact h
  | cons c l ih => intro v h; exact ih _ (cbyte_lt c h)
theorem crc_snoc (l : List UInt8) (c : UInt8) : crc (l ++ [c]) = cbyte (crc l) c := by simp [crc]
theorem sumOf_lt (l : List UInt8) : sumOf l < 4294967296 := Nat.xor_lt_two_pow (n := 32) (by omega) (crc_lt l)

theorem rbit_lt {c v j : Nat} : rbit c v j < 4294967296 := by
  unfold rbit
  split
  · exact Nat.xor_lt_two_pow (n := 32) (by omega) (by omega)
  · omega
theorem rbits_lt (c k : Nat) {v : Nat} (h : v < 4294967296) : rbits c k v < 4294967296 := by
  cases k with
  | zero => exact h
  | succ k => exact rbit_lt
theorem rcrc_lt (l : List UInt8) : rcrc l < 4294967296 := by
  unfold rcrc
  suffices h : ∀ (l : List UInt8) (v : Nat), v < 4294967296 → l.foldl rbyte v < 4294967296 from h l _ (by omega)
  intro l
  induction l with
  | nil => intro v h; exact h
  | cons c l ih => intro v h; exact ih _ (rbits_lt _ _ h)
theorem rcrc_snoc (l : List UInt8) (c : UInt8) : rcrc (l ++ [c]) = rbyte (rcrc l) c := by simp [rcrc]

/-- The bits turned round. -/
def Rev (v w : Nat) : Prop := v < 4294967296 ∧ w < 4294967296 ∧ ∀ i, i < 32 → v.testBit i = w.testBit (31 - i)

def cstep (v : Nat) (b : Bool) : Nat := if (v.testBit 0 != b) = true then (v / 2) ^^^ 3988292384 else v / 2
def rstep (w : Nat) (b : Bool) : Nat := if (b != w.testBit 31) = true then (w * 2 % 4294967296) ^^^ 79764919 else w * 2 % 4294967296

theorem polys : ∀ i, i < 32 → (3988292384 : Nat).testBit i = (79764919 : Nat).testBit (31 - i) := by decide

theorem half_bit (v i : Nat) : (v / 2).testBit i = v.testBit (i + 1) := by rw [Nat.testBit_succ]
theorem dbl_bit (w i : Nat) (hi : i < 32) : (w * 2 % 4294967296).testBit (31 - i) = if i = 31 then false else w.testBit (30 - i) := by
  have e : (4294967296 : Nat) = 2 ^ 32 := by decide
  rw [e, Nat.testBit_mod_two_pow]
  have h31 : decide (31 - i < 32) = true := by simp; omega
  rw [h31, Bool.true_and]
  split
  · subst i; simp [Nat.testBit_zero]
  · have : 31 - i = (30 - i) + 1 := by omega
    rw [this, Nat.testBit_succ]
    congr 1
    omega

theorem Rev.step {v w : Nat} (h : Rev v w) (b : Bool) : Rev (cstep v b) (rstep w b) := by
  obtain ⟨hv, hw, hb⟩ := h
  have h0 : v.testBit 0 = w.testBit 31 := hb 0 (by omega)
  have half : ∀ i, i < 32 → (v / 2).testBit i = (w * 2 % 4294967296).testBit (31 - i) := by
    intro i hi
    rw [half_bit, dbl_bit w i hi]
    split
    · subst i; exact Nat.testBit_lt_two_pow (by omega)
    · rw [hb (i + 1) (by omega)]
      congr 1
      omega
  unfold cstep rstep
  rw [h0]
  cases hx : (w.testBit 31 != b) with
  | true =>
    have hy : (b != w.testBit 31) = true := by rw [← hx]; cases b <;> cases w.testBit 31 <;> rfl
    rw [if_pos rfl, if_pos hy]
    refine ⟨Nat.xor_lt_two_pow (n := 32) (by omega) (by omega), Nat.xor_lt_two_pow (n := 32) (by omega) (by omega), fun i hi => ?_⟩
    rw [Nat.testBit_xor, Nat.testBit_xor, half i hi, polys i hi]
  | false =>
    have hy : (b != w.testBit 31) = false := by rw [← hx]; cases b <;> cases w.testBit 31 <;> rfl
    rw [if_neg (by simp), if_neg (by rw [hy]; simp)]
    exact ⟨by omega, by omega, half⟩

def csteps (c : Nat) : Nat → Nat → Nat
  | 0, v => v
  | k + 1, v => cstep (csteps c k v) ((c / 2 ^ k).testBit 0)

theorem xor_half (x y : Nat) : (x ^^^ y) / 2 = (x / 2) ^^^ (y / 2) := by
  apply Nat.eq_of_testBit_eq
  intro i
  rw [half_bit, Nat.testBit_xor, Nat.testBit_xor, half_bit, half_bit]
theorem odd_bit (x : Nat) : (x % 2 = 1) ↔ x.testBit 0 = true := by simp [Nat.testBit_zero]

theorem cbits_csteps (v c k : Nat) : cbits k (v ^^^ c) = csteps c k v ^^^ (c / 2 ^ k) := by
  induction k with
  | zero => simp [cbits, csteps]
  | succ k ih =>
    have hd : c / 2 ^ (k + 1) = c / 2 ^ k / 2 := by rw [Nat.pow_succ, Nat.div_div_eq_div_mul]
    rw [cbits, ih, csteps, hd]
    generalize csteps c k v = x
    generalize c / 2 ^ k = y
    unfold cbit cstep
    rw [xor_half]
    by_cases h : (x.testBit 0 != y.testBit 0) = true
    · rw [if_pos h, if_pos (by rw [odd_bit, Nat.testBit_xor]; simpa using h)]
      rw [Nat.xor_assoc, Nat.xor_assoc, Nat.xor_comm (y / 2)]
    · rw [if_neg h, if_neg (by rw [odd_bit, Nat.testBit_xor]; simpa using h)]

theorem rbits_rsteps (c k v w : Nat) (h : Rev v w) : Rev (csteps c k v) (rbits c k w) := by
  induction k with
  | zero => exact h
  | succ k ih =>
    have := ih.step ((c / 2 ^ k).testBit 0)
    have e : rstep (rbits c k w) ((c / 2 ^ k).testBit 0) = rbits c (k + 1) w := by
      rw [rbits]
      generalize rbits c k w = x
      unfold rstep rbit
      have h1 : ((c / 2 ^ k).testBit 0 != x.testBit 31) = true ↔ c / 2 ^ k % 2 ≠ x / 2147483648 % 2 := by
        have hx : x.testBit 31 = (x / 2 ^ 31).testBit 0 := by rw [Nat.testBit_div_two_pow]
        have e31 : (2147483648 : Nat) = 2 ^ 31 := by decide
        rw [hx, e31]
        generalize c / 2 ^ k = a
        generalize x / 2 ^ 31 = b
        simp only [Nat.testBit_zero, bne_iff_ne, ne_eq, decide_eq_decide]
        omega
      by_cases hh : ((c / 2 ^ k).testBit 0 != x.testBit 31) = true
      · rw [if_pos hh, if_pos (h1.1 hh)]
      · rw [if_neg hh, if_neg (fun g => hh (h1.2 g))]
    rw [← e]
    exact this

theorem Rev.byte {v w : Nat} (h : Rev v w) (c : UInt8) : Rev (cbyte v c) (rbyte w c) := by
  have h8 := rbits_rsteps c.toNat 8 v w h
  have e : cbyte v c = csteps c.toNat 8 v := by
    unfold cbyte
    rw [cbits_csteps, Nat.div_eq_of_lt (by have := u8_lt c; omega)]
    simp
  rw [e]
  exact h8

theorem Rev.list (l : List UInt8) : ∀ {v w : Nat}, Rev v w → Rev (l.foldl cbyte v) (l.foldl rbyte w) := by
  induction l with
  | nil => intro v w h; exact h
  | cons c l ih => intro v w h; exact ih (h.byte c)

theorem ones : ∀ i, i < 32 → (4294967295 : Nat).testBit i = true := by decide
theorem Rev.ones : Rev 4294967295 4294967295 :=
  ⟨by omega, by omega, fun i hi => by rw [Proofs.YtmaomebnigcgeaaGreatDoor.ones i hi, Proofs.YtmaomebnigcgeaaGreatDoor.ones (31 - i) (by omega)]⟩

theorem rout_eq {v w : Nat} (h : Rev v w) : ∀ m, m ≤ 32 → rout w m = (4294967295 ^^^ v) / 2 ^ (32 - m) * 2 ^ (32 - m) := by
  obtain ⟨hv, hw, hb⟩ := h
  have hn : 4294967295 ^^^ v < 2 ^ 32 := Nat.xor_lt_two_pow (by omega) (by omega)
  intro m
  induction m with
  | zero => intro _; rw [Nat.sub_zero, Nat.div_eq_of_lt hn]; rfl
  | succ m ih =>
    intro hm
    have ih := ih (by omega)
    have hbit := hb (31 - m) (by omega)
    rw [show 31 - (31 - m) = m by omega] at hbit
    have hnb : (4294967295 ^^^ v).testBit (31 - m) = !w.testBit m := by
      rw [Nat.testBit_xor, Proofs.YtmaomebnigcgeaaGreatDoor.ones _ (by omega), hbit]; simp
    generalize 4294967295 ^^^ v = n at *
    have e1 : 32 - m = (31 - m) + 1 := by omega
    have e2 : 32 - (m + 1) = 31 - m := by omega
    rw [e1] at ih
    rw [e2, rout, ih]
    generalize 31 - m = q at *
    have hq : n / 2 ^ (q + 1) = n / 2 ^ q / 2 := by rw [Nat.pow_succ, Nat.div_div_eq_div_mul]
    rw [hq, Nat.pow_succ]
    have hd : n.testBit q = decide (n / 2 ^ q % 2 = 1) := by rw [Nat.testBit_eq_decide_div_mod_eq]
    have hd2 : w.testBit m = decide (w / 2 ^ m % 2 = 1) := by rw [Nat.testBit_eq_decide_div_mod_eq]
    rw [hd, hd2] at hnb
    generalize 2 ^ q = p at *
    generalize n / p = x at *
    generalize w / 2 ^ m = y at *
    have hx : x = 2 * (x / 2) + x % 2 := by omega
    split
    · rename_i h0
      have : x % 2 = 1 := by
        rw [h0] at hnb; simpa using hnb
      rw [Nat.mul_comm p 2, ← Nat.mul_assoc, ← Nat.succ_mul]
      congr 1
      omega
    · rename_i h0
      have h1 : y % 2 = 1 := by omega
      have : x % 2 = 0 := by
        rw [h1] at hnb
        have : ¬ x % 2 = 1 := by simpa using hnb
        omega
      rw [Nat.mul_comm p 2, ← Nat.mul_assoc]
      congr 1
      omega

/-- THE LAW: the two sums are one. -/
theorem rsumOf_eq (l : List UInt8) : rsumOf l = sumOf l := by
  unfold rsumOf sumOf crc rcrc
  rw [rout_eq (Rev.ones.list l) 32 (Nat.le_refl _)]
  simp
end Go.Proofs.YtmaomebnigcgeaaGreatDoor
