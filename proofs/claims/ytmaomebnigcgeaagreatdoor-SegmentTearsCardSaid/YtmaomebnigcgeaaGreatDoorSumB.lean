/-
  The bits of the two sums as the walk spells them.
-/
import Derived.Test.YtmaomebnigcgeaaGreatDoorBase
import Derived.Test.YtmaomebnigcgeaaGreatDoorSumL
namespace Go.Proofs.YtmaomebnigcgeaaGreatDoor
open Go.RowKit

theorem test_u32 {x : Nat} (hx : x < 4294967296) : (bits .and .u32 (x : Int) 1 == 1) = decide (x % 2 = 1) := by
  rw [u32_and _ _ (by omega) (by omega) (by omega) (by omega)]
  simp only [Int.toNat_natCast, show (1 : Int).toNat = 1 from rfl, Nat.and_one_is_mod]
  rw [Bool.eq_iff_iff]; simp; omega

theorem cbit_yes {x : Nat} (hx : x < 4294967296) (h : (bits .and .u32 (x : Int) 1 == 1) = true) : bits .xor .u32 ((x : Int) / 2) 3988292384 = ((cbit x : Nat) : Int) := by
  rw [test_u32 hx] at h
  have h1 : x % 2 = 1 := by simpa using h
  have e : (x : Int) / 2 = ((x / 2 : Nat) : Int) := by omega
  rw [e, u32_xor _ _ (by omega) (by omega) (by omega) (by omega), Int.toNat_natCast]
  unfold cbit
  rw [if_pos h1]
  rfl
theorem cbit_no {x : Nat} (hx : x < 4294967296) (h : (bits .and .u32 (x : Int) 1 == 1) = false) : (x : Int) / 2 = ((cbit x : Nat) : Int) := by
  rw [test_u32 hx] at h
  have h1 : ¬ x % 2 = 1 := by simpa using h
  unfold cbit
  rw [if_neg h1]
  omega
theorem xor_u32 {x y : Nat} (hx : x < 4294967296) (hy : y < 4294967296) : bits .xor .u32 (x : Int) (y : Int) = ((x ^^^ y : Nat) : Int) := by
  rw [u32_xor _ _ (by omega) (by omega) (by omega) (by omega)]
  simp
theorem not_u32 {x : Nat} (hx : x < 4294967296) : bits .xor .u32 4294967295 (x : Int) = ((4294967295 ^^^ x : Nat) : Int) := by
  rw [u32_xor _ _ (by omega) (by omega) (by omega) (by omega)]
  simp
theorem sum_end (l : List UInt8) : wrap64 (bits .xor .u32 IntKind.u32.max (crc l : Nat)) = ((sumOf l : Nat) : Int) := by
  have e : IntKind.u32.max = 4294967295 := by decide
  rw [e, not_u32 (crc_lt l)]
  have := sumOf_lt l
  unfold sumOf at *
  unfold wrap64
  omega

theorem in_u64 {c m : Nat} (hc : c < 256) : bits .and .u64 (IntKind.u64.wrap ((c : Int) / 2 ^ m)) 1 = ((c / 2 ^ m % 2 : Nat) : Int) := by
  have e : (c : Int) / 2 ^ m = ((c / 2 ^ m : Nat) : Int) := by norm_cast
  have hl : c / 2 ^ m ≤ c := Nat.div_le_self _ _
  have e2 : IntKind.u64.wrap ((c / 2 ^ m : Nat) : Int) = ((c / 2 ^ m : Nat) : Int) := by rw [IntKind.wrap_u64]; generalize c / 2 ^ m = y at *; omega
  rw [e, e2]
  generalize c / 2 ^ m = y at *
  rw [u64_and _ _ (by omega) (by omega) (by omega) (by omega)]
  simp only [Int.toNat_natCast, show (1 : Int).toNat = 1 from rfl, Nat.and_one_is_mod]
theorem top_u64 {x : Nat} (hx : x < 4294967296) : bits .and .u64 ((x : Int) / 2147483648) 1 = ((x / 2147483648 % 2 : Nat) : Int) := by
  have e : (x : Int) / 2147483648 = ((x / 2147483648 : Nat) : Int) := by omega
  rw [e, u64_and _ _ (by omega) (by omega) (by omega) (by omega)]
  simp only [Int.toNat_natCast, show (1 : Int).toNat = 1 from rfl, Nat.and_one_is_mod]
theorem dbl_u64 {x : Nat} (hx : x < 4294967296) : bits .and .u64 ((x : Int) * 2) 4294967295 = ((x * 2 % 4294967296 : Nat) : Int) := by
  have e : (x : Int) * 2 = ((x * 2 : Nat) : Int) := by omega
  rw [e, u64_and _ _ (by omega) (by omega) (by omega) (by omega)]
  have : (4294967295 : Int).toNat = 2 ^ 32 - 1 := by decide
  rw [Int.toNat_natCast, this, Nat.and_two_pow_sub_one_eq_mod]
theorem rbit_yes {c x m : Nat} (hc : c < 256) (hx : x < 4294967296)
    (h : (bits .and .u64 (IntKind.u64.wrap ((c : Int) / 2 ^ m)) 1 != bits .and .u64 ((x : Int) / 2147483648) 1) = true) :
    bits .xor .u64 (bits .and .u64 ((x : Int) * 2) 4294967295) 79764919 = ((rbit c x m : Nat) : Int) := by
  rw [in_u64 hc, top_u64 hx] at h
  have h1 : c / 2 ^ m % 2 ≠ x / 2147483648 % 2 := by
    simp only [bne_iff_ne, ne_eq] at h
    omega
  rw [dbl_u64 hx, u64_xor _ _ (by omega) (by omega) (by omega) (by omega), Int.toNat_natCast]
  unfold rbit
  rw [if_pos h1]
  rfl
theorem rbit_no {c x m : Nat} (hc : c < 256) (hx : x < 4294967296)
    (h : (bits .and .u64 (IntKind.u64.wrap ((c : Int) / 2 ^ m)) 1 != bits .and .u64 ((x : Int) / 2147483648) 1) = false) :
    bits .and .u64 ((x : Int) * 2) 4294967295 = ((rbit c x m : Nat) : Int) := by
  rw [in_u64 hc, top_u64 hx] at h
  have h1 : c / 2 ^ m % 2 = x / 2147483648 % 2 := by
    simp only [bne_eq_false_iff_eq] at h
    omega
  rw [dbl_u64 hx]
  unfold rbit
  rw [if_neg (by omega)]
theorem zero_u64 {x m : Nat} (hx : x < 4294967296) : (bits .and .u64 ((x : Int) / 2 ^ m) 1 == 0) = decide (x / 2 ^ m % 2 = 0) := by
  have e : (x : Int) / 2 ^ m = ((x / 2 ^ m : Nat) : Int) := by norm_cast
  have hl : x / 2 ^ m ≤ x := Nat.div_le_self _ _
  rw [e]
  generalize x / 2 ^ m = y at *
  rw [u64_and _ _ (by omega) (by omega) (by omega) (by omega)]
  simp only [Int.toNat_natCast, show (1 : Int).toNat = 1 from rfl, Nat.and_one_is_mod]
  rw [Bool.eq_iff_iff]; simp; omega
theorem rout_lt (v : Nat) : ∀ m, m ≤ 32 → rout v m < 4294967296 ∧ rout v m % 2 ^ (32 - m) = 0 := by
  suffices h : ∀ m, m ≤ 32 → rout v m + 2 ^ (32 - m) ≤ 4294967296 ∧ rout v m % 2 ^ (32 - m) = 0 from
    fun m hm => ⟨by have := (h m hm).1; have := Nat.two_pow_pos (32 - m); omega, (h m hm).2⟩
  intro m
  induction m with
  | zero => intro _; exact ⟨by simp [rout], by simp [rout]⟩
  | succ m ih =>
    intro hm
    obtain ⟨h1, h2⟩ := ih (by omega)
    have e1 : 32 - m = (31 - m) + 1 := by omega
    have e2 : 32 - (m + 1) = 31 - m := by omega
    rw [e1, Nat.pow_succ] at h1 h2
    rw [e2, rout]
    generalize rout v m = r at *
    generalize 2 ^ (31 - m) = p at *
    have h3 : r % p = 0 := by
      have := Nat.dvd_of_mod_eq_zero h2
      exact Nat.mod_eq_zero_of_dvd (Nat.dvd_trans ⟨2, rfl⟩ this)
    split
    · exact ⟨by omega, by rw [Nat.add_mod_right]; exact h3⟩
    · exact ⟨by omega, h3⟩
theorem pow31 (m : Nat) (hm : m < 32) : (2 : Nat) ^ (31 - m) ≤ 2147483648 := by
  have : (2147483648 : Nat) = 2 ^ 31 := by decide
  rw [this]
  exact Nat.pow_le_pow_right (by omega) (by omega)
theorem rout_yes {v m : Nat} (hv : v < 4294967296) (hm : m < 32) (h : (bits .and .u64 ((v : Int) / 2 ^ m) 1 == 0) = true) :
    wrap64 (((rout v m : Nat) : Int) + wrap64 (2 ^ (31 - m))) = ((rout v (m + 1) : Nat) : Int) := by
  rw [zero_u64 hv] at h
  have h1 : v / 2 ^ m % 2 = 0 := by simpa using h
  have hp := pow31 m hm
  have hr := (rout_lt v m (by omega)).1
  have hc : (2 : Int) ^ (31 - m) = ((2 ^ (31 - m) : Nat) : Int) := by norm_cast
  rw [rout, if_pos h1, hc]
  generalize 2 ^ (31 - m) = p at *
  unfold wrap64
  omega
theorem rout_no {v m : Nat} (hv : v < 4294967296) (h : (bits .and .u64 ((v : Int) / 2 ^ m) 1 == 0) = false) :
    rout v m = rout v (m + 1) := by
  rw [zero_u64 hv] at h
  have h1 : ¬ v / 2 ^ m % 2 = 0 := by simpa using h
  rw [rout, if_neg h1]
end Go.Proofs.YtmaomebnigcgeaaGreatDoor
