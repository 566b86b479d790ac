/-
  A batch's bytes: plain data.
-/
import Derived.Test.YtdjmifaidgbbaaaGreatDoorLc06
import Derived.Test.YtdjmifaidgbbaaaGreatDoorLc15
import Derived.Test.YtdjmifaidgbbaaaGreatDoorLc16
import Derived.Test.YtdjmifaidgbbaaaGreatDoorLc01
import Derived.Test.YtdjmifaidgbbaaaGreatDoorChecked
namespace Go.Proofs.YtdjmifaidgbbaaaGreatDoor
open Go.RowKit

def Rec.flags (r : Rec) : Nat := (if r.keyed = true then 1 else 0) + (if r.gone = true then 2 else 0)
/-- A record's bytes, its batch beginning at base. -/
def encRec (base : Int) (r : Rec) : List UInt8 :=
  put (r.off - base).toNat ++ put r.time.toNat ++ put r.flags ++ (if r.keyed = true then putText r.key else []) ++ (if r.gone = true then [] else putText r.value)
def encRecs (base : Int) : List Rec → List UInt8
  | [] => []
  | r :: rs => encRec base r ++ encRecs base rs
theorem encRecs_append (base : Int) (a b : List Rec) : encRecs base (a ++ b) = encRecs base a ++ encRecs base b := by
  induction a with
  | nil => rfl
  | cons r a ih => simp only [List.cons_append, encRecs, ih, List.append_assoc]
def encHead (base en : Int) (n : Nat) : List UInt8 := put base.toNat ++ put (en - base).toNat ++ put n
def encBody (base en : Int) (rs : List Rec) : List UInt8 := encHead base en rs.length ++ encRecs base rs
/-- All of a batch's bytes. -/
def encAll (base en : Int) (rs : List Rec) : List UInt8 :=
  four (8 + (encBody base en rs).length) ++ four (sumOf (encBody base en rs)) ++ encBody base en rs
/-- What is wrong with a batch that is to be written: 0: nothing. -/
def encErr (base en : Int) (rs : List Rec) : Nat :=
  if checkB base en rs ≠ 0 then checkB base en rs else if 6000 < 8 + (encBody base en rs).length then 4 else 0

/-- A record of a batch that may be. -/
structure Rec.Fits (base en : Int) (r : Rec) : Prop where
  lo : base ≤ r.off
  hi : r.off < en
  t0 : 0 ≤ r.time
  t1 : r.time ≤ 1099511627776
  key : r.key.size ≤ 60
  value : r.value.size ≤ 500
  nokey : r.keyed = false → r.key.toList = []
  novalue : r.gone = true → r.value.toList = []

theorem fits_of_check {base en : Int} : ∀ {last : Int} {rs : List Rec}, checkRecs en last rs = 0 → base - 1 ≤ last → ∀ r ∈ rs, r.Fits base en
  | last, [], _, _ => by simp
  | last, r :: rs, h, hl => by
    unfold checkRecs at h
    by_cases h1 : badArg last en r = true
    · rw [if_pos h1] at h; cases h
    · rw [if_neg h1] at h
      by_cases h2 : badLen r = true
      · rw [if_pos h2] at h; cases h
      · rw [if_neg h2] at h
        by_cases h3 : badTime r = true
        · rw [if_pos h3] at h; cases h
        · rw [if_neg h3] at h
          simp only [badArg, badLen, badTime, Bool.or_eq_true, decide_eq_true_eq, Bool.and_eq_true, Bool.not_eq_true', not_or, not_and, Bool.not_eq_false] at h1 h2 h3
          obtain ⟨⟨⟨a1, a2⟩, a3⟩, a4⟩ := h1
          have hr : r.Fits base en := ⟨by omega, by omega, by omega, by omega, by omega, by omega,
            fun hk => by simpa using a3 hk, fun hg => by simpa using a4 hg⟩
          intro x hx
          rcases List.mem_cons.1 hx with rfl | hx
          · exact hr
          · exact fits_of_check h (by have := hr.lo; omega) x hx

theorem checkB_zero {base en : Int} {rs : List Rec} (h : checkB base en rs = 0) : 0 ≤ base ∧ en ≤ 1099511627776 ∧ base < en ∧ rs.length ≤ 50 ∧ en - base ≤ 50 ∧ ∀ r ∈ rs, r.Fits base en := by
  unfold checkB at h
  by_cases h1 : base < 0 ∨ 1099511627776 < en
  · rw [if_pos h1] at h; cases h
  · rw [if_neg h1] at h
    by_cases h2 : en ≤ base
    · rw [if_pos h2] at h; cases h
    · rw [if_neg h2] at h
      by_cases h3 : 50 < rs.length ∨ 50 < en - base
      · rw [if_pos h3] at h; cases h
      · rw [if_neg h3] at h
        exact ⟨by omega, by omega, by omega, by omega, by omega, fits_of_check h (by omega)⟩

theorem putText_length {s : ByteArray} (h : s.size ≤ 1000) : (putText s).length ≤ 6 + s.size := by
  unfold putText
  have : (put s.size).length ≤ 6 := put_length (k := 5) (by omega)
  have e : s.data.toList.length = s.size := by rw [Array.length_toList]; rfl
  rw [List.length_append, e]
  omega
theorem encRec_length {base en : Int} {r : Rec} (h : r.Fits base en) (hb : en - base ≤ 50) : (encRec base r).length ≤ 600 := by
  obtain ⟨h1, h2, h3, h4, h5, h6, _, _⟩ := h
  unfold encRec
  have a1 : (put (r.off - base).toNat).length ≤ 6 := put_length (k := 5) (by omega)
  have a2 : (put r.time.toNat).length ≤ 6 := put_length (k := 5) (by omega)
  have a3 : (put r.flags).length ≤ 6 := put_length (k := 5) (by unfold Rec.flags; split <;> split <;> omega)
  have a4 : (if r.keyed = true then putText r.key else []).length ≤ 66 := by
    split
    · have := putText_length (s := r.key) (by omega); omega
    · simp
  have a5 : (if r.gone = true then [] else putText r.value).length ≤ 506 := by
    split
    · simp
    · have := putText_length (s := r.value) (by omega); omega
  simp only [List.length_append]
  omega
theorem encRecs_length {base en : Int} (hb : en - base ≤ 50) : ∀ {rs : List Rec}, (∀ r ∈ rs, r.Fits base en) → (encRecs base rs).length ≤ 600 * rs.length
  | [], _ => by simp [encRecs]
  | r :: rs, h => by
    have h1 := encRec_length (h r (by simp)) hb
    have h2 := encRecs_length hb (rs := rs) fun x hx => h x (by simp [hx])
    simp only [encRecs, List.length_append, List.length_cons]
    omega
end Go.Proofs.YtdjmifaidgbbaaaGreatDoor

/-
  The bits of the two sums as the walk spells them.
-/
namespace Go.Proofs.YtdjmifaidgbbaaaGreatDoor
open Go.RowKit

theorem test_u32 {x : Nat} (hx : x < 4294967296) : (bits .and .u32 (x : Int) 1 == 1) = decide (x % 2 = 1) := by
  rw [u32_and _ _ (by omega) (by omega) (by omega) (by omega)]
  simp only [Int.toNat_natCast, show (1 : Int).toNat = 1 from rfl, Nat.and_one_is_mod]
  rw [Bool.eq_iff_iff]; simp; omega

theorem cbit_yes {x : Nat} (hx : x < 4294967296) (h : (bits .and .u32 (x : Int) 1 == 1) = true) : bits .xor .u32 ((x : Int) / 2) 3988292384 = ((cbit x : Nat) : Int) := by
  rw [test_u32 hx] at h
  have h1 : x % 2 = 1 := by simpa using h
  have e : (x : Int) / 2 = ((x / 2 : Nat) : Int) := by omega
  rw [e, u32_xor _ _ (by omega) (by omega) (by omega) (by omega), Int.toNat_natCast]
  unfold cbit
  rw [if_pos h1]
  rfl
theorem cbit_no {x : Nat} (hx : x < 4294967296) (h : (bits .and .u32 (x : Int) 1 == 1) = false) : (x : Int) / 2 = ((cbit x : Nat) : Int) := by
  rw [test_u32 hx] at h
  have h1 : ¬ x % 2 = 1 := by simpa using h
  unfold cbit
  rw [if_neg h1]
  omega
theorem xor_u32 {x y : Nat} (hx : x < 4294967296) (hy : y < 4294967296) : bits .xor .u32 (x : Int) (y : Int) = ((x ^^^ y : Nat) : Int) := by
  rw [u32_xor _ _ (by omega) (by omega) (by omega) (by omega)]
  simp
theorem not_u32 {x : Nat} (hx : x < 4294967296) : bits .xor .u32 4294967295 (x : Int) = ((4294967295 ^^^ x : Nat) : Int) := by
  rw [u32_xor _ _ (by omega) (by omega) (by omega) (by omega)]
  simp
theorem sum_end (l : List UInt8) : wrap64 (bits .xor .u32 IntKind.u32.max (crc l : Nat)) = ((sumOf l : Nat) : Int) := by
  have e : IntKind.u32.max = 4294967295 := by decide
  rw [e, not_u32 (crc_lt l)]
  have := sumOf_lt l
  unfold sumOf at *
  unfold wrap64
  omega

theorem in_u64 {c m : Nat} (hc : c < 256) : bits .and .u64 (IntKind.u64.wrap ((c : Int) / 2 ^ m)) 1 = ((c / 2 ^ m % 2 : Nat) : Int) := by
  have e : (c : Int) / 2 ^ m = ((c / 2 ^ m : Nat) : Int) := by norm_cast
  have hl : c / 2 ^ m ≤ c := Nat.div_le_self _ _
  have e2 : IntKind.u64.wrap ((c / 2 ^ m : Nat) : Int) = ((c / 2 ^ m : Nat) : Int) := by rw [IntKind.wrap_u64]; generalize c / 2 ^ m = y at *; omega
  rw [e, e2]
  generalize c / 2 ^ m = y at *
  rw [u64_and _ _ (by omega) (by omega) (by omega) (by omega)]
  simp only [Int.toNat_natCast, show (1 : Int).toNat = 1 from rfl, Nat.and_one_is_mod]
theorem top_u64 {x : Nat} (hx : x < 4294967296) : bits .and .u64 ((x : Int) / 2147483648) 1 = ((x / 2147483648 % 2 : Nat) : Int) := by
  have e : (x : Int) / 2147483648 = ((x / 2147483648 : Nat) : Int) := by omega
  rw [e, u64_and _ _ (by omega) (by omega) (by omega) (by omega)]
  simp only [Int.toNat_natCast, show (1 : Int).toNat = 1 from rfl, Nat.and_one_is_mod]
theorem dbl_u64 {x : Nat} (hx : x < 4294967296) : bits .and .u64 ((x : Int) * 2) 4294967295 = ((x * 2 % 4294967296 : Nat) : Int) := by
  have e : (x : Int) * 2 = ((x * 2 : Nat) : Int) := by omega
  rw [e, u64_and _ _ (by omega) (by omega) (by omega) (by omega)]
  have : (4294967295 : Int).toNat = 2 ^ 32 - 1 := by decide
  rw [Int.toNat_natCast, this, Nat.and_two_pow_sub_one_eq_mod]
theorem rbit_yes {c x m : Nat} (hc : c < 256) (hx : x < 4294967296)
    (h : (bits .and .u64 (IntKind.u64.wrap ((c : Int) / 2 ^ m)) 1 != bits .and .u64 ((x : Int) / 2147483648) 1) = true) :
    bits .xor .u64 (bits .and .u64 ((x : Int) * 2) 4294967295) 79764919 = ((rbit c x m : Nat) : Int) := by
  rw [in_u64 hc, top_u64 hx] at h
  have h1 : c / 2 ^ m % 2 ≠ x / 2147483648 % 2 := by
    simp only [bne_iff_ne, ne_eq] at h
    omega
  rw [dbl_u64 hx, u64_xor _ _ (by omega) (by omega) (by omega) (by omega), Int.toNat_natCast]
  unfold rbit
  rw [if_pos h1]
  rfl
theorem rbit_no {c x m : Nat} (hc : c < 256) (hx : x < 4294967296)
    (h : (bits .and .u64 (IntKind.u64.wrap ((c : Int) / 2 ^ m)) 1 != bits .and .u64 ((x : Int) / 2147483648) 1) = false) :
    bits .and .u64 ((x : Int) * 2) 4294967295 = ((rbit c x m : Nat) : Int) := by
  rw [in_u64 hc, top_u64 hx] at h
  have h1 : c / 2 ^ m % 2 = x / 2147483648 % 2 := by
    simp only [bne_eq_false_iff_eq] at h
    omega
  rw [dbl_u64 hx]
  unfold rbit
  rw [if_neg (by omega)]
theorem zero_u64 {x m : Nat} (hx : x < 4294967296) : (bits .and .u64 ((x : Int) / 2 ^ m) 1 == 0) = decide (x / 2 ^ m % 2 = 0) := by
  have e : (x : Int) / 2 ^ m = ((x / 2 ^ m : Nat) : Int) := by norm_cast
  have hl : x / 2 ^ m ≤ x := Nat.div_le_self _ _
  rw [e]
  generalize x / 2 ^ m = y at *
  rw [u64_and _ _ (by omega) (by omega) (by omega) (by omega)]
  simp only [Int.toNat_natCast, show (1 : Int).toNat = 1 from rfl, Nat.and_one_is_mod]
  rw [Bool.eq_iff_iff]; simp; omega
theorem rout_lt (v : Nat) : ∀ m, m ≤ 32 → rout v m < 4294967296 ∧ rout v m % 2 ^ (32 - m) = 0 := by
  suffices h : ∀ m, m ≤ 32 → rout v m + 2 ^ (32 - m) ≤ 4294967296 ∧ rout v m % 2 ^ (32 - m) = 0 from
    fun m hm => ⟨by have := (h m hm).1; have := Nat.two_pow_pos (32 - m); omega, (h m hm).2⟩
  intro m
  induction m with
  | zero => intro _; exact ⟨by simp [rout], by simp [rout]⟩
  | succ m ih =>
    intro hm
    obtain ⟨h1, h2⟩ := ih (by omega)
    have e1 : 32 - m = (31 - m) + 1 := by omega
    have e2 : 32 - (m + 1) = 31 - m := by omega
    rw [e1, Nat.pow_succ] at h1 h2
    rw [e2, rout]
    generalize rout v m = r at *
    generalize 2 ^ (31 - m) = p at *
    have h3 : r % p = 0 := by
      have := Nat.dvd_of_mod_eq_zero h2
      exact Nat.mod_eq_zero_of_dvd (Nat.dvd_trans ⟨2, rfl⟩ this)
    split
    · exact ⟨by omega, by rw [Nat.add_mod_right]; exact h3⟩
    · exact ⟨by omega, h3⟩
theorem pow31 (m : Nat) (hm : m < 32) : (2 : Nat) ^ (31 - m) ≤ 2147483648 := by
  have : (2147483648 : Nat) = 2 ^ 31 := by decide
  rw [this]
  exact Nat.pow_le_pow_right (by omega) (by omega)
theorem rout_yes {v m : Nat} (hv : v < 4294967296) (hm : m < 32) (h : (bits .and .u64 ((v : Int) / 2 ^ m) 1 == 0) = true) :
    wrap64 (((rout v m : Nat) : Int) + wrap64 (2 ^ (31 - m))) = ((rout v (m + 1) : Nat) : Int) := by
  rw [zero_u64 hv] at h
  have h1 : v / 2 ^ m % 2 = 0 := by simpa using h
  have hp := pow31 m hm
  have hr := (rout_lt v m (by omega)).1
  have hc : (2 : Int) ^ (31 - m) = ((2 ^ (31 - m) : Nat) : Int) := by norm_cast
  rw [rout, if_pos h1, hc]
  generalize 2 ^ (31 - m) = p at *
  unfold wrap64
  omega
theorem rout_no {v m : Nat} (hv : v < 4294967296) (h : (bits .and .u64 ((v : Int) / 2 ^ m) 1 == 0) = false) :
    rout v m = rout v (m + 1) := by
  rw [zero_u64 hv] at h
  have h1 : ¬ v / 2 ^ m % 2 = 0 := by simpa using h
  rw [rout, if_neg h1]
end Go.Proofs.YtdjmifaidgbbaaaGreatDoor

/-
  The walks of the two sums: what the Go texts return.
-/
namespace Go.Proofs.YtdjmifaidgbbaaaGreatDoor
open Go.RowKit

theorem sum_any (a : Option Addr) (l : List UInt8) (cap : Nat) (w : World) (hl : l.length ≤ maxLen) (hc : BytesAt w a l) :
    Calls Tryz.prog 100 #[.slice a l.length cap] w fun e w' => e = .returned (.int .i64 (sumOf l : Nat)) ∧ w = w' := by
  unfold maxLen at hl
  go_enter Tryz.func100, Tryz.ntmps100
  go_wp2
  go_loop [3, 9] (fun v i => ∃ k : Nat, k ≤ l.length ∧ i = .int .i64 k ∧ v = .int .u32 (crc (l.take k) : Nat)) (fun _ i => l.length - (intOf i).toNat)
  case atStart => exact ⟨0, Nat.zero_le _, rfl, rfl⟩
  case round =>
    obtain ⟨k, hk, rfl, rfl⟩ := hrel
    by_cases hlt : k < l.length
    · have hsn := crc_snoc (l.take k) l[k]
      have hts := take_snoc l k hlt
      obtain ⟨b, off, rfl, hcell⟩ := hc k hlt
      have HS : Hid (crc (l.take (k + 1)) = cbyte (crc (l.take k)) l[k]) := by rw [hts]; exact hsn
      have hx := crc_lt (l.take k)
      clear hc hsn hts
      unfold bval at hcell
      have hc8 := u8_lt l[k]
      generalize l[k] = c at *
      generalize crc (l.take k) = x at *
      have hxc := xor_byte_lt c hx
      have hxor : bits .xor .u32 (x : Int) (c.toNat : Int) = ((x ^^^ c.toNat : Nat) : Int) := xor_u32 hx (by omega)
      go_wp2
      go_loop [3, 17] (fun v i => ∃ m : Nat, m ≤ 8 ∧ i = .int .i64 m ∧ v = .int .u32 (cbits m (x ^^^ c.toNat) : Nat)) (fun _ i => 8 - (intOf i).toNat)
      case atStart => exact ⟨0, by omega, rfl, rfl⟩
      case round =>
        obtain ⟨m, hm, rfl, rfl⟩ := hrel
        have hy := cbits_lt m hxc
        have HY : Hid (cbits (m + 1) (x ^^^ c.toNat) = cbit (cbits m (x ^^^ c.toNat))) := rfl
        clear hxor
        by_cases hlt2 : m < 8
        · generalize cbits m (x ^^^ c.toNat) = y at *
          go_wp2
          all_goals
            go_round
            case rel => exact ⟨m + 1, by omega, by go_num, by rw [HY.out]; first | rw [cbit_yes hy ‹_›] | rw [cbit_no hy ‹_›]⟩
            case measure => simp [intOf]; omega
        · have : m = 8 := by omega
          subst this
          go_wp2
          go_round
          case rel => exact ⟨k + 1, by omega, by go_num, by rw [HS.out]; rfl⟩
          case measure => simp [intOf]; omega
    · have hkl : k = l.length := by omega
      have hx := crc_lt (l.take k)
      have HT : Hid (l.take k = l) := List.take_of_length_le (by omega)
      clear hkl
      go_wp2
      go_ret
      exact ⟨ret_int (by rw [HT.out, sum_end]), rfl⟩

theorem refSum_any (a : Option Addr) (l : List UInt8) (cap : Nat) (w : World) (hl : l.length ≤ maxLen) (hc : BytesAt w a l) :
    Calls Tryz.prog 115 #[.slice a l.length cap] w fun e w' => e = .returned (.int .i64 (rsumOf l : Nat)) ∧ w = w' := by
  unfold maxLen at hl
  go_enter Tryz.func115, Tryz.ntmps115
  go_wp2
  go_loop [3, 13] (fun v i => ∃ k : Nat, k ≤ l.length ∧ i = .int .i64 k ∧ v = .int .u64 (rcrc (l.take k) : Nat)) (fun _ i => l.length - (intOf i).toNat)
  case atStart => exact ⟨0, Nat.zero_le _, rfl, rfl⟩
  case round =>
    obtain ⟨k, hk, rfl, rfl⟩ := hrel
    by_cases hlt : k < l.length
    · have hsn := rcrc_snoc (l.take k) l[k]
      have hts := take_snoc l k hlt
      obtain ⟨b, off, rfl, hcell⟩ := hc k hlt
      have HS : Hid (rcrc (l.take (k + 1)) = rbyte (rcrc (l.take k)) l[k]) := by rw [hts]; exact hsn
      have hx := rcrc_lt (l.take k)
      clear hc hsn hts
      unfold bval at hcell
      have hc8 := u8_lt l[k]
      generalize l[k] = c at *
      generalize rcrc (l.take k) = x at *
      go_wp2
      go_loop [3, 17] (fun v i => ∃ m : Nat, m ≤ 8 ∧ i = .int .i64 m ∧ v = .int .u64 (rbits c.toNat m x : Nat)) (fun _ i => 8 - (intOf i).toNat)
      case atStart => exact ⟨0, by omega, rfl, rfl⟩
      case round =>
        obtain ⟨m, hm, rfl, rfl⟩ := hrel
        have hy := rbits_lt c.toNat m hx
        have HY : Hid (rbits c.toNat (m + 1) x = rbit c.toNat (rbits c.toNat m x) m) := rfl
        by_cases hlt2 : m < 8
        · generalize rbits c.toNat m x = y at *
          go_wp2
          all_goals
            go_round
            case rel => exact ⟨m + 1, by omega, by go_num, by rw [HY.out]; first | rw [rbit_yes hc8 hy ‹_›] | rw [rbit_no hc8 hy ‹_›]⟩
            case measure => simp [intOf]; omega
        · have : m = 8 := by omega
          subst this
          go_wp2
          go_round
          case rel => exact ⟨k + 1, by omega, by go_num, by rw [HS.out]; rfl⟩
          case measure => simp [intOf]; omega
    · have hkl : k = l.length := by omega
      have hx := rcrc_lt (l.take k)
      have HT : Hid (l.take k = l) := List.take_of_length_le (by omega)
      have HS : Hid (rsumOf l = rout (rcrc (l.take k)) 32) := by rw [HT.out]; rfl
      clear hkl HT
      generalize rcrc (l.take k) = x at *
      go_wp2
      go_loop [9, 38] (fun v i => ∃ m : Nat, m ≤ 32 ∧ i = .int .i64 m ∧ v = .int .i64 (rout x m : Nat)) (fun _ i => 32 - (intOf i).toNat)
      case atStart => exact ⟨0, by omega, rfl, rfl⟩
      case round =>
        obtain ⟨m, hm, rfl, rfl⟩ := hrel
        by_cases hlt2 : m < 32
        · go_wp2
          all_goals
            go_round
            case rel => exact ⟨m + 1, by omega, by go_num, by first | rw [rout_yes hx hlt2 ‹_›] | rw [rout_no hx ‹_›]⟩
            case measure => simp [intOf]; omega
        · have : m = 32 := by omega
          subst this
          go_wp2
          go_ret
          exact ⟨ret_int (by rw [HS.out]), rfl⟩
end Go.Proofs.YtdjmifaidgbbaaaGreatDoor
