/-
  The walks of the two sums: what the Go texts return.
-/
import Derived.Test.YtmaomebnigcgeaaGreatDoorChecked
import Derived.Test.YtmaomebnigcgeaaGreatDoorSumB
namespace Go.Proofs.YtmaomebnigcgeaaGreatDoor
open Go.RowKit

theorem sum_any (a : Option Addr) (l : List UInt8) (cap : Nat) (w : World) (hl : l.length ≤ maxLen) (hc : BytesAt w a l) :
    Calls Tryz.prog 63 #[.slice a l.length cap] w fun e w' => e = .returned (.int .i64 (sumOf l : Nat)) ∧ w = w' := by
  unfold maxLen at hl
  go_enter Tryz.func63, Tryz.ntmps63
  go_wp2
  go_loop [3, 9] (fun v i => ∃ k : Nat, k ≤ l.length ∧ i = .int .i64 k ∧ v = .int .u32 (crc (l.take k) : Nat)) (fun _ i => l.length - (intOf i).toNat)
  case atStart => exact ⟨0, Nat.zero_le _, rfl, rfl⟩
  case round =>
    obtain ⟨k, hk, rfl, rfl⟩ := hrel
    by_cases hlt : k < l.length
    · have hsn := crc_snoc (l.take k) l[k]
      have hts := take_snoc l k hlt
      obtain ⟨b, off, rfl, hcell⟩ := hc k hlt
      have HS : Hid (crc (l.take (k + 1)) = cbyte (crc (l.take k)) l[k]) := by rw [hts]; exact hsn
      have hx := crc_lt (l.take k)
      clear hc hsn hts
      unfold bval at hcell
      have hc8 := u8_lt l[k]
      generalize l[k] = c at *
      generalize crc (l.take k) = x at *
      have hxc := xor_byte_lt c hx
      have hxor : bits .xor .u32 (x : Int) (c.toNat : Int) = ((x ^^^ c.toNat : Nat) : Int) := xor_u32 hx (by omega)
      go_wp2
      go_loop [3, 17] (fun v i => ∃ m : Nat, m ≤ 8 ∧ i = .int .i64 m ∧ v = .int .u32 (cbits m (x ^^^ c.toNat) : Nat)) (fun _ i => 8 - (intOf i).toNat)
      case atStart => exact ⟨0, by omega, rfl, rfl⟩
      case round =>
        obtain ⟨m, hm, rfl, rfl⟩ := hrel
        have hy := cbits_lt m hxc
        have HY : Hid (cbits (m + 1) (x ^^^ c.toNat) = cbit (cbits m (x ^^^ c.toNat))) := rfl
        clear hxor
        by_cases hlt2 : m < 8
        · generalize cbits m (x ^^^ c.toNat) = y at *
          go_wp2
          all_goals
            go_round
            case rel => exact ⟨m + 1, by omega, by go_num, by rw [HY.out]; first | rw [cbit_yes hy ‹_›] | rw [cbit_no hy ‹_›]⟩
            case measure => simp [intOf]; omega
        · have : m = 8 := by omega
          subst this
          go_wp2
          go_round
          case rel => exact ⟨k + 1, by omega, by go_num, by rw [HS.out]; rfl⟩
          case measure => simp [intOf]; omega
    · have hkl : k = l.length := by omega
      have hx := crc_lt (l.take k)
      have HT : Hid (l.take k = l) := List.take_of_length_le (by omega)
      clear hkl
      go_wp2
      go_ret
      exact ⟨ret_int (by rw [HT.out, sum_end]), rfl⟩

theorem refSum_any (a : Option Addr) (l : List UInt8) (cap : Nat) (w : World) (hl : l.length ≤ maxLen) (hc : BytesAt w a l) :
    Calls Tryz.prog 45 #[.slice a l.length cap] w fun e w' => e = .returned (.int .i64 (rsumOf l : Nat)) ∧ w = w' := by
  unfold maxLen at hl
  go_enter Tryz.func45, Tryz.ntmps45
  go_wp2
  go_loop [3, 13] (fun v i => ∃ k : Nat, k ≤ l.length ∧ i = .int .i64 k ∧ v = .int .u64 (rcrc (l.take k) : Nat)) (fun _ i => l.length - (intOf i).toNat)
  case atStart => exact ⟨0, Nat.zero_le _, rfl, rfl⟩
  case round =>
    obtain ⟨k, hk, rfl, rfl⟩ := hrel
    by_cases hlt : k < l.length
    · have hsn := rcrc_snoc (l.take k) l[k]
      have hts := take_snoc l k hlt
      obtain ⟨b, off, rfl, hcell⟩ := hc k hlt
      have HS : Hid (rcrc (l.take (k + 1)) = rbyte (rcrc (l.take k)) l[k]) := by rw [hts]; exact hsn
      have hx := rcrc_lt (l.take k)
      clear hc hsn hts
      unfold bval at hcell
      have hc8 := u8_lt l[k]
      generalize l[k] = c at *
      generalize rcrc (l.take k) = x at *
      go_wp2
      go_loop [3, 17] (fun v i => ∃ m : Nat, m ≤ 8 ∧ i = .int .i64 m ∧ v = .int .u64 (rbits c.toNat m x : Nat)) (fun _ i => 8 - (intOf i).toNat)
      case atStart => exact ⟨0, by omega, rfl, rfl⟩
      case round =>
        obtain ⟨m, hm, rfl, rfl⟩ := hrel
        have hy := rbits_lt c.toNat m hx
        have HY : Hid (rbits c.toNat (m + 1) x = rbit c.toNat (rbits c.toNat m x) m) := rfl
        by_cases hlt2 : m < 8
        · generalize rbits c.toNat m x = y at *
          go_wp2
          all_goals
            go_round
            case rel => exact ⟨m + 1, by omega, by go_num, by rw [HY.out]; first | rw [rbit_yes hc8 hy ‹_›] | rw [rbit_no hc8 hy ‹_›]⟩
            case measure => simp [intOf]; omega
        · have : m = 8 := by omega
          subst this
          go_wp2
          go_round
          case rel => exact ⟨k + 1, by omega, by go_num, by rw [HS.out]; rfl⟩
          case measure => simp [intOf]; omega
    · have hkl : k = l.length := by omega
      have hx := rcrc_lt (l.take k)
      have HT : Hid (l.take k = l) := List.take_of_length_le (by omega)
      have HS : Hid (rsumOf l = rout (rcrc (l.take k)) 32) := by rw [HT.out]; rfl
      clear hkl HT
      generalize rcrc (l.take k) = x at *
      go_wp2
      go_loop [9, 38] (fun v i => ∃ m : Nat, m ≤ 32 ∧ i = .int .i64 m ∧ v = .int .i64 (rout x m : Nat)) (fun _ i => 32 - (intOf i).toNat)
      case atStart => exact ⟨0, by omega, rfl, rfl⟩
      case round =>
        obtain ⟨m, hm, rfl, rfl⟩ := hrel
        by_cases hlt2 : m < 32
        · go_wp2
          all_goals
            go_round
            case rel => exact ⟨m + 1, by omega, by go_num, by first | rw [rout_yes hx hlt2 ‹_›] | rw [rout_no hx ‹_›]⟩
            case measure => simp [intOf]; omega
        · have : m = 32 := by omega
          subst this
          go_wp2
          go_ret
          exact ⟨ret_int (by rw [HS.out]), rfl⟩
end Go.Proofs.YtmaomebnigcgeaaGreatDoor
