/-
  The walks of Get (the program's and the document's).
-/
import Derived.Test.YtmaomebnigcgeaaGreatDoorNumW
import Derived.Test.YtmaomebnigcgeaaGreatDoorMono
import Derived.BigQuiet
import Derived.Deep.QuietTactic
import Derived.Outline
import Derived.Deep.RegionWith
import Derived.RegionTactic
namespace Go.Proofs.YtmaomebnigcgeaaGreatDoor
open Go.RowKit

theorem i64_or_nat (a b : Nat) (ha : a < 4611686018427387904) (hb : b < 4611686018427387904) : bits .or .i64 (a : Int) (b : Int) = ((a ||| b : Nat) : Int) := by
  have hor : a ||| b < 2 ^ 62 := Nat.or_lt_two_pow (by omega) (by omega)
  show IntKind.i64.wrap ((BitVec.ofInt 64 (a : Int) ||| BitVec.ofInt 64 (b : Int)).toNat : Nat) = _
  rw [BitVec.toNat_or, BitVec.ofInt_natCast, BitVec.ofInt_natCast, BitVec.toNat_ofNat, BitVec.toNat_ofNat, Nat.mod_eq_of_lt (by omega), Nat.mod_eq_of_lt (by omega)]
  generalize a ||| b = x at *
  rw [IntKind.wrap_i64]
  omega

theorem wrap64_nat {x : Nat} (h : x < 9223372036854775808) : wrap64 (x : Int) = (x : Int) := by
  unfold wrap64; omega

theorem or7 {n c k : Nat} (hn : n < 128 ^ k) (hc : c < 256) (hk : k ≤ 5) :
    bits .or .i64 (n : Int) (wrap64 (wrap64 (bits .and .u8 (c : Int) 127) * 2 ^ (7 * k))) = ((n + c % 128 * 128 ^ k : Nat) : Int) := by
  have h1 : bits .and .u8 (c : Int) 127 = ((c % 128 : Nat) : Int) := by
    rw [u8_and _ _ (by omega) (by omega) (by omega) (by omega), Int.toNat_natCast]
    have : (127 : Int).toNat = 2 ^ 7 - 1 := by decide
    rw [this, Nat.and_two_pow_sub_one_eq_mod]
  have e7 : (128 : Nat) ^ k = 2 ^ (7 * k) := by rw [Nat.pow_mul]
  have e7i : (2 : Int) ^ (7 * k) = ((128 ^ k : Nat) : Int) := by rw [e7]; norm_cast
  have hor : n ||| (c % 128 * 128 ^ k) = n + c % 128 * 128 ^ k := by
    rw [Nat.or_comm, Nat.add_comm, Nat.mul_comm, e7, ← Nat.two_pow_add_eq_or_of_lt (by rw [← e7]; exact hn)]
  have hp : (128 : Nat) ^ k ≤ 34359738368 := Nat.le_trans (Nat.pow_le_pow_right (by omega) hk) (by decide)
  rw [h1, e7i]
  clear e7 e7i h1
  generalize 128 ^ k = p at *
  have hx : c % 128 < 128 := Nat.mod_lt _ (by omega)
  generalize c % 128 = x at *
  have hm : x * p ≤ 127 * 34359738368 := Nat.mul_le_mul (by omega) hp
  rw [wrap64_nat (by omega), ← Int.natCast_mul, wrap64_nat (by omega), ← hor]
  exact i64_or_nat _ _ (by omega) (by omega)

set_option maxRecDepth 100000 in
theorem get_any (a : Option Addr) (l : List UInt8) (cap : Nat) (w : World) (hl : l.length ≤ maxLen) (hc : BytesAt w a l) :
    Calls Tryz.prog 86 #[.slice a l.length cap] w fun e w' => e = .returned (.tuple #[.int .i64 (get l).1, .int .i64 (get l).2]) ∧ w = w' := by
  unfold maxLen at hl
  go_enter Tryz.func86, Tryz.ntmps86
  go_wp2
  go_loop [2, 8] (fun v i => ∃ k : Nat, k ≤ l.length ∧ k ≤ 6 ∧ i = .int .i64 k ∧ v = .int .i64 (val (l.take k) : Nat) ∧ Hid (getAt l (6 - k) k = get l) ∧ Hid (∀ x ∈ l.take k, 128 ≤ x.toNat)) (fun _ i => l.length - (intOf i).toNat)
  case atStart => exact ⟨0, by omega, by omega, rfl, rfl, rfl, by intro x hx; simp at hx⟩
  case round =>
    obtain ⟨k, hk, hk6, rfl, rfl, HG, HH⟩ := hrel
    by_cases hlt : k < l.length
    · obtain ⟨b, off, rfl, hcell⟩ := hc k hlt
      clear hc
      unfold bval at hcell
      by_cases h5 : 5 < k
      · have HZ : Hid (get l = (0, 0)) := by
          have : 6 - k = 0 := by omega
          rw [← HG.out, this]; rfl
        go_wp2_with fail
        go_ret2
        exact ⟨by rw [HZ.out]; rfl, rfl⟩
      · have hc8 := u8_lt' l[k]
        have hv := val_lt (l.take k)
        rw [List.length_take, Nat.min_eq_left hk] at hv
        have hor := or7 hv hc8 (by omega)
        have hs : l.take (k + 1) = l.take k ++ [l[k]] := take_snoc l k hlt
        have hvs := val_snoc (l.take k) l[k]
        rw [← hs, List.length_take, Nat.min_eq_left hk] at hvs
        rw [← hvs] at hor
        have HE : Hid (∀ (_ : l[k].toNat < 128) (_ : l[k] = 0 ∧ 0 < k ∨ 1099511627776 < val (l.take (k + 1))), get l = (0, 0)) := by
          intro h1 h2
          rw [← HG.out, show 6 - k = (5 - k) + 1 by omega, getAt_end hlt h1 h2]
        have HO : Hid (∀ (_ : l[k].toNat < 128) (_ : ¬ (l[k] = 0 ∧ 0 < k ∨ 1099511627776 < val (l.take (k + 1)))), get l = (val (l.take (k + 1)), k + 1)) := by
          intro h1 h2
          rw [← HG.out, show 6 - k = (5 - k) + 1 by omega, getAt_ok hlt h1 h2]
        have HN : Hid (¬ l[k].toNat < 128 → getAt l (6 - (k + 1)) (k + 1) = get l) := by
          intro h1
          rw [← HG.out, show 6 - k = (5 - k) + 1 by omega, getAt_on hlt h1, show 6 - (k + 1) = 5 - k by omega]
        have HS : Hid (l.take (k + 1) = l.take k ++ [l[k]]) := hs
        clear hvs hs
        have hz : (l[k] = 0) ↔ l[k].toNat = 0 := by rw [← UInt8.toNat_inj]; rfl
        have HZ := Lib.hid hz
        clear hz
        generalize l[k] = c at *
        by_cases hc1 : c.toNat < 128
        · generalize val (l.take (k + 1)) = m at *
          generalize val (l.take k) = n at *
          by_cases h0 : c.toNat = 0
          · have hb : ((c.toNat : Int) == 0) = true := by rw [h0]; rfl
            have H0 := Lib.hid h0
            clear h0
            by_cases hk0 : 0 < k
            · have HR : Hid (get l = (0, 0)) := HE.out hc1 (.inl ⟨HZ.out.2 H0.out, hk0⟩)
              go_wp2_with fail
              go_ret2
              exact ⟨by rw [HR.out]; rfl, rfl⟩
            · by_cases hm : 1099511627776 < m
              · have HR : Hid (get l = (0, 0)) := HE.out hc1 (.inr hm)
                go_wp2_with fail
                go_ret2
                exact ⟨by rw [HR.out]; rfl, rfl⟩
              · have HR : Hid (get l = (m, k + 1)) := HO.out hc1 (fun h => h.elim (fun h => hk0 h.2) hm)
                go_wp2_with fail
                go_ret2
                exact ⟨by rw [HR.out]; rfl, rfl⟩
          · have hb : ((c.toNat : Int) == 0) = false := by simp; omega
            by_cases hm : 1099511627776 < m
            · have HR : Hid (get l = (0, 0)) := HE.out hc1 (.inr hm)
              go_wp2_with fail
              go_ret2
              exact ⟨by rw [HR.out]; rfl, rfl⟩
            · have HR : Hid (get l = (m, k + 1)) := HO.out hc1 (fun h => h.elim (fun h => h0 (HZ.out.1 h.1)) hm)
              go_wp2_with fail
              go_ret2
              exact ⟨by rw [HR.out]; rfl, rfl⟩
        · go_wp2_with fail
          all_goals
            go_round
            case rel => exact ⟨k + 1, by omega, by omega, by go_num, rfl, HN.out hc1, by
              intro x hx
              rw [HS.out] at hx
              rcases List.mem_append.1 hx with hx | hx
              · exact HH.out x hx
              · simp only [List.mem_singleton] at hx; subst hx; omega⟩
            case measure => simp [intOf]; omega
    · have HZ : Hid (get l = (0, 0)) := by rw [← HG.out, getAt_none (by omega)]; rfl
      go_wp2
      go_ret2
      exact ⟨by rw [HZ.out]; rfl, rfl⟩

theorem sum7 {n c k : Nat} (hn : n < 128 ^ k) (hk : k ≤ 5) :
    wrap64 ((n : Int) + wrap64 ((c : Int) % 128 * ((128 ^ k : Nat) : Int))) = ((n + c % 128 * 128 ^ k : Nat) : Int) := by
  have hp : (128 : Nat) ^ k ≤ 34359738368 := Nat.le_trans (Nat.pow_le_pow_right (by omega) hk) (by decide)
  generalize 128 ^ k = p at *
  have e : (c : Int) % 128 = ((c % 128 : Nat) : Int) := by omega
  have hx : c % 128 < 128 := Nat.mod_lt _ (by omega)
  rw [e]
  generalize c % 128 = x at *
  have hm : x * p ≤ 127 * 34359738368 := Nat.mul_le_mul (by omega) hp
  rw [← Int.natCast_mul, wrap64_nat (by omega), ← Int.natCast_add, wrap64_nat (by omega)]
theorem pow7 {k : Nat} (hk : k ≤ 5) : wrap64 (((128 ^ k : Nat) : Int) * 128) = ((128 ^ (k + 1) : Nat) : Int) := by
  have hp : (128 : Nat) ^ k ≤ 34359738368 := Nat.le_trans (Nat.pow_le_pow_right (by omega) hk) (by decide)
  rw [Nat.pow_succ]
  generalize 128 ^ k = p at *
  unfold wrap64
  omega


end Go.Proofs.YtmaomebnigcgeaaGreatDoor
