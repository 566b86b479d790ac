/-
  The walk of Check.
-/
import Derived.Test.YtdjmifaidgbbaaaGreatDoorChecked
import Derived.Test.YtdjmifaidgbbaaaGreatDoorLc06
import Derived.Deep.LoopGhost
import Derived.Deep.CutRange
namespace Go.Proofs.YtdjmifaidgbbaaaGreatDoor
open Go.RowKit

set_option maxHeartbeats 4000000 in
set_option maxRecDepth 100000 in
theorem check_any (base en : Int) (a : Option Addr) (rs : List Rec) (cap : Nat) (w : World) (hb : -9223372036854775808 ≤ base ∧ base ≤ 9223372036854775807) (he : -9223372036854775808 ≤ en ∧ en ≤ 9223372036854775807) (hl : rs.length ≤ maxLen) (hok : ∀ r ∈ rs, Rec.Ok r) (hc : RecsAt w a rs) :
    Calls Tryz.prog 96 #[.agg #[.int .i64 base, .int .i64 en, .slice a rs.length cap]] w fun e w' => e = .returned (errV 65 (checkB base en rs)) ∧ Chg Nil w w' := by
  unfold maxLen at hl
  by_cases h0 : base < 0
  · have HR : Hid (checkB base en rs = 2) := by unfold Hid checkB; rw [if_pos (.inl h0)]
    go_enter Tryz.func96, Tryz.ntmps96
    go_wp2
    go_ret
    exact ⟨by rw [HR.out]; rfl, (Chg.refl _ _).alloc _⟩
  · by_cases h1 : 1099511627776 < en
    · have HR : Hid (checkB base en rs = 2) := by unfold Hid checkB; rw [if_pos (.inr h1)]
      go_enter Tryz.func96, Tryz.ntmps96
      go_wp2
      go_ret
      exact ⟨by rw [HR.out]; rfl, (Chg.refl _ _).alloc _⟩
    · by_cases h2 : en ≤ base
      · have HR : Hid (checkB base en rs = 1) := by unfold Hid checkB; rw [if_neg (by omega), if_pos h2]
        go_enter Tryz.func96, Tryz.ntmps96
        go_wp2
        go_ret
        exact ⟨by rw [HR.out]; rfl, (Chg.refl _ _).alloc _⟩
      · by_cases h3 : 50 < rs.length
        · have HR : Hid (checkB base en rs = 4) := by unfold Hid checkB; rw [if_neg (by omega), if_neg (by omega), if_pos (.inl h3)]
          go_enter Tryz.func96, Tryz.ntmps96
          go_wp2
          go_ret
          exact ⟨by rw [HR.out]; rfl, (Chg.refl _ _).alloc _⟩
        · by_cases h4 : 50 < en - base
          · have HR : Hid (checkB base en rs = 4) := by unfold Hid checkB; rw [if_neg (by omega), if_neg (by omega), if_pos (.inr h4)]
            go_enter Tryz.func96, Tryz.ntmps96
            go_wp2
            go_ret
            exact ⟨by rw [HR.out]; rfl, (Chg.refl _ _).alloc _⟩
          · go_enter Tryz.func96, Tryz.ntmps96
            go_wp2
            have hc0 : BoxAt (w.alloc (.cells #[.int .i64 base, .int .i64 en, .slice a rs.length cap] 112)) w.heap.size [.int .i64 base, .int .i64 en, .slice a rs.length cap] := BoxAt.new _ _ _
            have hch0 : Chg Nil w (w.alloc (.cells #[.int .i64 base, .int .i64 en, .slice a rs.length cap] 112)) := (Chg.refl _ _).alloc _
            have hsz : w.heap.size < (w.alloc (.cells #[.int .i64 base, .int .i64 en, .slice a rs.length cap] 112)).heap.size := by simp
            generalize hbase : w.alloc (.cells #[.int .i64 base, .int .i64 en, .slice a rs.length cap] 112) = w1 at *
            clear hbase
            go_loopw [3, 40] (fun v i wr => ∃ (k : Nat) (last : Int), k ≤ rs.length ∧ i = .int .i64 k ∧ v = .int .i64 last ∧ Hid (checkRecs en last (rs.drop k) = checkB base en rs) ∧ Chg Nil w1 wr ∧ -9223372036854775808 ≤ last ∧ last ≤ 9223372036854775807) (fun _ i _ => rs.length - (intOf i).toNat)
            case atStart => exact ⟨0, base - 1, Nat.zero_le _, rfl, rfl, by unfold checkB; rw [if_neg (by omega), if_neg (by omega), if_neg (by omega)]; rfl, Chg.refl _ _, by omega, by omega⟩
            case round =>
              obtain ⟨k, last, hk, rfl, rfl, HC, hch, hla, hlb⟩ := hrel
              by_cases hlt : k < rs.length
              · obtain ⟨b, off, rfl, hcell⟩ := RecsAt.chg hch (RecsAt.chg hch0 hc (fun _ _ h => h)) (fun _ _ h => h) k hlt
                have hen : wr.cell? ⟨w.heap.size, 1, none⟩ = some (.int .i64 en) := hch.cell (hc0 1 _ rfl) (fun h => h)
                have g0 : wr.cell? ⟨b, off + k * 6, none⟩ = _ := hcell 0 _ rfl
                have g1 := hcell 1 _ rfl
                have g2 := hcell 2 _ rfl
                have g3 := hcell 3 _ rfl
                have g4 := hcell 4 _ rfl
                have g5 := hcell 5 _ rfl
                have hlt1 : w.heap.size < wr.heap.size := Nat.lt_of_lt_of_le hsz hch.size
                have HD : Hid (checkRecs en last (rs.drop k) = if badArg last en rs[k] = true then 1 else if badLen rs[k] = true then 4 else if badTime rs[k] = true then 2 else checkRecs en rs[k].off (rs.drop (k + 1))) := by
                  unfold Hid
                  rw [← List.getElem_cons_drop hlt]
                  rfl
                have hrk := hok _ (List.getElem_mem hlt)
                clear hcell hc0 hc
                generalize rs[k] = r at *
                obtain ⟨ro, rt, rk, rkey, rg, rval⟩ := r
                simp only at g0 g1 g2 g3 g4 g5
                have HRK := Lib.hid hrk
                clear hrk
                go_upto_region 11 with fail
                have hbx : BoxAt (wr.alloc (.cells (Rec.cells ⟨ro, rt, rk, rkey, rg, rval⟩).toArray 37)) wr.heap.size (Rec.cells ⟨ro, rt, rk, rkey, rg, rval⟩) := BoxAt.new _ _ _
                have hchx : Chg Nil w1 (wr.alloc (.cells (Rec.cells ⟨ro, rt, rk, rkey, rg, rval⟩).toArray 37)) := hch.alloc _
                go_cut [5, 40, 44] from 41 to 100 (fun s5 s40 s44 wx => ∃ g : Nat, s5 = .pointer (some ⟨g, 0, none⟩) ∧ s40 = .int .i64 k ∧ s44 = .bool (badArg last en ⟨ro, rt, rk, rkey, rg, rval⟩) ∧ BoxAt wx g (Rec.cells ⟨ro, rt, rk, rkey, rg, rval⟩) ∧ Chg Nil w1 wx)
                case first =>
                  clear HC HD g0 g1 g2 g3 g4 g5 h3 hb he
                  by_cases ha1 : ro ≤ last
                  · go_wp2_with fail
                    go_meet
                    case rel => exact ⟨_, rfl, rfl, by simp [badArg, ha1], hbx, hchx⟩
                  · by_cases ha2 : en ≤ ro
                    · go_wp2_with fail
                      go_meet
                      case rel => exact ⟨_, rfl, rfl, by simp [badArg, ha2], hbx, hchx⟩
                    · have hA1 : decide (ro ≤ last) = false := by simp; omega
                      have hA2 : decide (en ≤ ro) = false := by simp; omega
                      have hK : (rk = false ∧ rkey.toList.isEmpty = false) ∨ rk = true ∨ (rk = false ∧ rkey.toList.isEmpty = true) := by
                        cases rk <;> cases rkey.toList.isEmpty <;> simp
                      rcases hK with ⟨rfl, he1⟩ | hK
                      · go_wp2_with fail
                        go_meet
                        case rel => exact ⟨_, rfl, rfl, by simp [badArg, hA1, hA2, he1], hbx, hchx⟩
                      · have hG : (rg = true ∧ rval.toList.isEmpty = false) ∨ rg = false ∨ (rg = true ∧ rval.toList.isEmpty = true) := by
                          cases rg <;> cases rval.toList.isEmpty <;> simp
                        rcases hG with ⟨rfl, he2⟩ | rfl | ⟨rfl, he2⟩
                        · rcases hK with rfl | ⟨rfl, he1⟩
                          · go_wp2_with fail
                            go_meet
                            case rel => exact ⟨_, rfl, rfl, by simp [badArg, hA1, hA2, he2], hbx, hchx⟩
                          · go_wp2_with fail
                            go_meet
                            case rel => exact ⟨_, rfl, rfl, by simp [badArg, hA1, hA2, he1, he2], hbx, hchx⟩
                        · rcases hK with rfl | ⟨rfl, he1⟩
                          · go_wp2_with fail
                            go_meet
                            case rel => exact ⟨_, rfl, rfl, by simp [badArg, hA1, hA2], hbx, hchx⟩
                          · go_wp2_with fail
                            go_meet
                            case rel => exact ⟨_, rfl, rfl, by simp [badArg, hA1, hA2, he1], hbx, hchx⟩
                        · rcases hK with rfl | ⟨rfl, he1⟩
                          · go_wp2_with fail
                            go_meet
                            case rel => exact ⟨_, rfl, rfl, by simp [badArg, hA1, hA2, he2], hbx, hchx⟩
                          · go_wp2_with fail
                            go_meet
                            case rel => exact ⟨_, rfl, rfl, by simp [badArg, hA1, hA2, he1, he2], hbx, hchx⟩
                case rest =>
                  clear hchx hbx hch
                  obtain ⟨g, rfl, rfl, rfl, hbx, hch⟩ := hcut
                  have e0 := hbx 0 _ rfl
                  have e1 := hbx 1 _ rfl
                  have e3 := hbx 3 _ rfl
                  have e5 := hbx 5 _ rfl
                  clear g0 g1 g2 g3 g4 g5 hen hlt1 h3 hb he
                  cases hA : badArg last en ⟨ro, rt, rk, rkey, rg, rval⟩
                  case true =>
                    have HR : Hid (checkB base en rs = 1) := by rw [← HC.out, HD.out, if_pos hA]; rfl
                    clear hA
                    go_wp2_with fail
                    go_ret
                    exact ⟨by rw [HR.out]; rfl, hch0.trans hch (fun _ h => h.elim)⟩
                  case false =>
                    have HA := Lib.hid hA
                    clear hA
                    have hk1 : rkey.size ≤ maxLen := HRK.out.key
                    have hk2 : rval.size ≤ maxLen := HRK.out.value
                    unfold maxLen at hk1 hk2
                    go_upto_region 13 with fail
                    go_cut [5, 40, 76] from 41 to 100 (fun s5 s40 s76 wx => s5 = .pointer (some ⟨g, 0, none⟩) ∧ s40 = .int .i64 k ∧ s76 = .bool (badLen ⟨ro, rt, rk, rkey, rg, rval⟩) ∧ wx = wc)
                    case first =>
                      by_cases hl1 : 60 < rkey.size
                      · have HL : Hid (badLen ⟨ro, rt, rk, rkey, rg, rval⟩ = true) := by simp [badLen, Hid, hl1]
                        go_wp2_with fail
                        go_meet
                        case rel => exact ⟨rfl, rfl, by rw [HL.out], rfl⟩
                      · by_cases hl2 : 500 < rval.size
                        · have HL : Hid (badLen ⟨ro, rt, rk, rkey, rg, rval⟩ = true) := by simp [badLen, Hid, hl2]
                          go_wp2_with fail
                          go_meet
                          case rel => exact ⟨rfl, rfl, by rw [HL.out]; congr 1; simp; omega, rfl⟩
                        · have HL : Hid (badLen ⟨ro, rt, rk, rkey, rg, rval⟩ = false) := by simp only [badLen, Hid, Bool.or_eq_false_iff, decide_eq_false_iff_not]; exact ⟨hl1, hl2⟩
                          go_wp2_with fail
                          go_meet
                          case rel => exact ⟨rfl, rfl, by rw [HL.out]; congr 1; simp; omega, rfl⟩
                    case rest =>
                      obtain ⟨rfl, rfl, rfl, rfl⟩ := hcut
                      cases hB : badLen ⟨ro, rt, rk, rkey, rg, rval⟩
                      case true =>
                        have HR : Hid (checkB base en rs = 4) := by rw [← HC.out, HD.out, if_neg (by rw [HA.out]; simp), if_pos hB]; rfl
                        clear hB
                        go_wp2_with fail
                        go_ret
                        exact ⟨by rw [HR.out]; rfl, hch0.trans hch (fun _ h => h.elim)⟩
                      case false =>
                        have HB := Lib.hid hB
                        clear hB
                        by_cases ht1 : rt < 0
                        · have HR : Hid (checkB base en rs = 2) := by rw [← HC.out, HD.out, if_neg (by rw [HA.out]; simp), if_neg (by rw [HB.out]; simp), if_pos (by simp [badTime, ht1])]; rfl
                          go_wp2_with fail
                          go_ret
                          exact ⟨by rw [HR.out]; rfl, hch0.trans hch (fun _ h => h.elim)⟩
                        · by_cases ht2 : 1099511627776 < rt
                          · have HR : Hid (checkB base en rs = 2) := by rw [← HC.out, HD.out, if_neg (by rw [HA.out]; simp), if_neg (by rw [HB.out]; simp), if_pos (by simp [badTime, ht2])]; rfl
                            go_wp2_with fail
                            go_ret
                            exact ⟨by rw [HR.out]; rfl, hch0.trans hch (fun _ h => h.elim)⟩
                          · have HN : Hid (checkRecs en ro (rs.drop (k + 1)) = checkB base en rs) := by
                              rw [← HC.out, HD.out, if_neg (by rw [HA.out]; simp), if_neg (by rw [HB.out]; simp), if_neg (by simp only [badTime, Bool.or_eq_true, decide_eq_true_eq]; omega)]; rfl
                            have hro := HRK.out.off
                            simp only at hro
                            go_wp2_with fail
                            go_roundw
                            case rel => exact ⟨k + 1, ro, by omega, by go_num, rfl, HN.out, hch, hro.1, hro.2⟩
                            case measure => simp [intOf]; omega
              · have HZ : Hid (checkB base en rs = 0) := by
                  rw [← HC.out, List.drop_of_length_le (by omega)]; rfl
                go_wp2_with fail
                go_ret
                exact ⟨by rw [HZ.out]; rfl, hch0.trans hch (fun _ h => h.elim)⟩
end Go.Proofs.YtdjmifaidgbbaaaGreatDoor

/-
  The plain law of the sum: the cyclic check byte by byte, low bit first, is the document's, bit by bit, high bit first. Plain Lean: no program in sight.
-/
namespace Go.Proofs.YtdjmifaidgbbaaaGreatDoor

/-- One bit of the program's sum. -/
def cbit (v : Nat) : Nat := if v % 2 = 1 then (v / 2) ^^^ 3988292384 else v / 2
def cbits : Nat → Nat → Nat
  | 0, v => v
  | k + 1, v => cbit (cbits k v)
def cbyte (v : Nat) (c : UInt8) : Nat := cbits 8 (v ^^^ c.toNat)
def crc (l : List UInt8) : Nat := l.foldl cbyte 4294967295
def sumOf (l : List UInt8) : Nat := 4294967295 ^^^ crc l

/-- One bit of the document's sum. -/
def rbit (c v : Nat) (j : Nat) : Nat :=
  if c / 2 ^ j % 2 ≠ v / 2147483648 % 2 then (v * 2 % 4294967296) ^^^ 79764919 else v * 2 % 4294967296
def rbits (c : Nat) : Nat → Nat → Nat
  | 0, v => v
  | k + 1, v => rbit c (rbits c k v) k
def rbyte (v : Nat) (c : UInt8) : Nat := rbits c.toNat 8 v
def rcrc (l : List UInt8) : Nat := l.foldl rbyte 4294967295
def rout (v : Nat) : Nat → Nat
  | 0 => 0
  | m + 1 => if v / 2 ^ m % 2 = 0 then rout v m + 2 ^ (31 - m) else rout v m
def rsumOf (l : List UInt8) : Nat := rout (rcrc l) 32

theorem cbit_lt {v : Nat} (h : v < 4294967296) : cbit v < 4294967296 := by
  unfold cbit
  split
  · exact Nat.xor_lt_two_pow (n := 32) (by omega) (by omega)
  · omega
theorem cbits_lt (k : Nat) {v : Nat} (h : v < 4294967296) : cbits k v < 4294967296 := by
  induction k with
  | zero => exact h
  | succ k ih => exact cbit_lt ih
theorem u8_lt (c : UInt8) : c.toNat < 256 := c.toNat_lt
theorem xor_byte_lt {v : Nat} (c : UInt8) (h : v < 4294967296) : v ^^^ c.toNat < 4294967296 :=
  Nat.xor_lt_two_pow (n := 32) (by omega) (by have := u8_lt c; omega)
theorem cbyte_lt {v : Nat} (c : UInt8) (h : v < 4294967296) : cbyte v c < 4294967296 := cbits_lt 8 (xor_byte_lt c h)
theorem crc_lt (l : List UInt8) : crc l < 4294967296 := by
  unfold crc
  suffices h : ∀ (l : List UInt8) (v : Nat), v < 4294967296 → l.foldl cbyte v < 4294967296 from h l _ (by omega)
  intro l
  induction l with
  | nil => intro v h; exact h
  | cons c l ih => intro v h; exact ih _ (cbyte_lt c h)
theorem crc_snoc (l : List UInt8) (c : UInt8) : crc (l ++ [c]) = cbyte (crc l) c := by simp [crc]
theorem sumOf_lt (l : List UInt8) : sumOf l < 4294967296 := Nat.xor_lt_two_pow (n := 32) (by omega) (crc_lt l)

theorem rbit_lt {c v j : Nat} : rbit c v j < 4294967296 := by
  unfold rbit
  split
  · exact Nat.xor_lt_two_pow (n := 32) (by omega) (by omega)
  · omega
theorem rbits_lt (c k : Nat) {v : Nat} (h : v < 4294967296) : rbits c k v < 4294967296 := by
  cases k with
  | zero => exact h
  | succ k => exact rbit_lt
theorem rcrc_lt (l : List UInt8) : rcrc l < 4294967296 := by
  unfold rcrc
  suffices h : ∀ (l : List UInt8) (v : Nat), v < 4294967296 → l.foldl rbyte v < 4294967296 from h l _ (by omega)
  intro l
  induction l with
  | nil => intro v h; exact h
  | cons c l ih => intro v h; exact ih _ (rbits_lt _ _ h)
theorem rcrc_snoc (l : List UInt8) (c : UInt8) : rcrc (l ++ [c]) = rbyte (rcrc l) c := by simp [rcrc]

/-- The bits turned round. -/
def Rev (v w : Nat) : Prop := v < 4294967296 ∧ w < 4294967296 ∧ ∀ i, i < 32 → v.testBit i = w.testBit (31 - i)

def cstep (v : Nat) (b : Bool) : Nat := if (v.testBit 0 != b) = true then (v / 2) ^^^ 3988292384 else v / 2
def rstep (w : Nat) (b : Bool) : Nat := if (b != w.testBit 31) = true then (w * 2 % 4294967296) ^^^ 79764919 else w * 2 % 4294967296

theorem polys : ∀ i, i < 32 → (3988292384 : Nat).testBit i = (79764919 : Nat).testBit (31 - i) := by decide

theorem half_bit (v i : Nat) : (v / 2).testBit i = v.testBit (i + 1) := by rw [Nat.testBit_succ]
theorem dbl_bit (w i : Nat) (hi : i < 32) : (w * 2 % 4294967296).testBit (31 - i) = if i = 31 then false else w.testBit (30 - i) := by
  have e : (4294967296 : Nat) = 2 ^ 32 := by decide
  rw [e, Nat.testBit_mod_two_pow]
  have h31 : decide (31 - i < 32) = true := by simp; omega
  rw [h31, Bool.true_and]
  split
  · subst i; simp [Nat.testBit_zero]
  · have : 31 - i = (30 - i) + 1 := by omega
    rw [this, Nat.testBit_succ]
    congr 1
    omega

theorem Rev.step {v w : Nat} (h : Rev v w) (b : Bool) : Rev (cstep v b) (rstep w b) := by
  obtain ⟨hv, hw, hb⟩ := h
  have h0 : v.testBit 0 = w.testBit 31 := hb 0 (by omega)
  have half : ∀ i, i < 32 → (v / 2).testBit i = (w * 2 % 4294967296).testBit (31 - i) := by
    intro i hi
    rw [half_bit, dbl_bit w i hi]
    split
    · subst i; exact Nat.testBit_lt_two_pow (by omega)
    · rw [hb (i + 1) (by omega)]
      congr 1
      omega
  unfold cstep rstep
  rw [h0]
  cases hx : (w.testBit 31 != b) with
  | true =>
    have hy : (b != w.testBit 31) = true := by rw [← hx]; cases b <;> cases w.testBit 31 <;> rfl
    rw [if_pos rfl, if_pos hy]
    refine ⟨Nat.xor_lt_two_pow (n := 32) (by omega) (by omega), Nat.xor_lt_two_pow (n := 32) (by omega) (by omega), fun i hi => ?_⟩
    rw [Nat.testBit_xor, Nat.testBit_xor, half i hi, polys i hi]
  | false =>
    have hy : (b != w.testBit 31) = false := by rw [← hx]; cases b <;> cases w.testBit 31 <;> rfl
    rw [if_neg (by simp), if_neg (by rw [hy]; simp)]
    exact ⟨by omega, by omega, half⟩

def csteps (c : Nat) : Nat → Nat → Nat
  | 0, v => v
  | k + 1, v => cstep (csteps c k v) ((c / 2 ^ k).testBit 0)

theorem xor_half (x y : Nat) : (x ^^^ y) / 2 = (x / 2) ^^^ (y / 2) := by
  apply Nat.eq_of_testBit_eq
  intro i
  rw [half_bit, Nat.testBit_xor, Nat.testBit_xor, half_bit, half_bit]
theorem odd_bit (x : Nat) : (x % 2 = 1) ↔ x.testBit 0 = true := by simp [Nat.testBit_zero]

theorem cbits_csteps (v c k : Nat) : cbits k (v ^^^ c) = csteps c k v ^^^ (c / 2 ^ k) := by
  induction k with
  | zero => simp [cbits, csteps]
  | succ k ih =>
    have hd : c / 2 ^ (k + 1) = c / 2 ^ k / 2 := by rw [Nat.pow_succ, Nat.div_div_eq_div_mul]
    rw [cbits, ih, csteps, hd]
    generalize csteps c k v = x
    generalize c / 2 ^ k = y
    unfold cbit cstep
    rw [xor_half]
    by_cases h : (x.testBit 0 != y.testBit 0) = true
    · rw [if_pos h, if_pos (by rw [odd_bit, Nat.testBit_xor]; simpa using h)]
      rw [Nat.xor_assoc, Nat.xor_assoc, Nat.xor_comm (y / 2)]
    · rw [if_neg h, if_neg (by rw [odd_bit, Nat.testBit_xor]; simpa using h)]

theorem rbits_rsteps (c k v w : Nat) (h : Rev v w) : Rev (csteps c k v) (rbits c k w) := by
  induction k with
  | zero => exact h
  | succ k ih =>
    have := ih.step ((c / 2 ^ k).testBit 0)
    have e : rstep (rbits c k w) ((c / 2 ^ k).testBit 0) = rbits c (k + 1) w := by
      rw [rbits]
      generalize rbits c k w = x
      unfold rstep rbit
      have h1 : ((c / 2 ^ k).testBit 0 != x.testBit 31) = true ↔ c / 2 ^ k % 2 ≠ x / 2147483648 % 2 := by
        have hx : x.testBit 31 = (x / 2 ^ 31).testBit 0 := by rw [Nat.testBit_div_two_pow]
        have e31 : (2147483648 : Nat) = 2 ^ 31 := by decide
        rw [hx, e31]
        generalize c / 2 ^ k = a
        generalize x / 2 ^ 31 = b
        simp only [Nat.testBit_zero, bne_iff_ne, ne_eq, decide_eq_decide]
        omega
      by_cases hh : ((c / 2 ^ k).testBit 0 != x.testBit 31) = true
      · rw [if_pos hh, if_pos (h1.1 hh)]
      · rw [if_neg hh, if_neg (fun g => hh (h1.2 g))]
    rw [← e]
    exact this

theorem Rev.byte {v w : Nat} (h : Rev v w) (c : UInt8) : Rev (cbyte v c) (rbyte w c) := by
  have h8 := rbits_rsteps c.toNat 8 v w h
  have e : cbyte v c = csteps c.toNat 8 v := by
    unfold cbyte
    rw [cbits_csteps, Nat.div_eq_of_lt (by have := u8_lt c; omega)]
    simp
  rw [e]
  exact h8

theorem Rev.list (l : List UInt8) : ∀ {v w : Nat}, Rev v w → Rev (l.foldl cbyte v) (l.foldl rbyte w) := by
  induction l with
  | nil => intro v w h; exact h
  | cons c l ih => intro v w h; exact ih (h.byte c)

theorem ones : ∀ i, i < 32 → (4294967295 : Nat).testBit i = true := by decide
theorem Rev.ones : Rev 4294967295 4294967295 :=
  ⟨by omega, by omega, fun i hi => by rw [Proofs.YtdjmifaidgbbaaaGreatDoor.ones i hi, Proofs.YtdjmifaidgbbaaaGreatDoor.ones (31 - i) (by omega)]⟩

theorem rout_eq {v w : Nat} (h : Rev v w) : ∀ m, m ≤ 32 → rout w m = (4294967295 ^^^ v) / 2 ^ (32 - m) * 2 ^ (32 - m) := by
  obtain ⟨hv, hw, hb⟩ := h
  have hn : 4294967295 ^^^ v < 2 ^ 32 := Nat.xor_lt_two_pow (by omega) (by omega)
  intro m
  induction m with
  | zero => intro _; rw [Nat.sub_zero, Nat.div_eq_of_lt hn]; rfl
  | succ m ih =>
    intro hm
    have ih := ih (by omega)
    have hbit := hb (31 - m) (by omega)
    rw [show 31 - (31 - m) = m by omega] at hbit
    have hnb : (4294967295 ^^^ v).testBit (31 - m) = !w.testBit m := by
      rw [Nat.testBit_xor, Proofs.YtdjmifaidgbbaaaGreatDoor.ones _ (by omega), hbit]; simp
    generalize 4294967295 ^^^ v = n at *
    have e1 : 32 - m = (31 - m) + 1 := by omega
    have e2 : 32 - (m + 1) = 31 - m := by omega
    rw [e1] at ih
    rw [e2, rout, ih]
    generalize 31 - m = q at *
    have hq : n / 2 ^ (q + 1) = n / 2 ^ q / 2 := by rw [Nat.pow_succ, Nat.div_div_eq_div_mul]
    rw [hq, Nat.pow_succ]
    have hd : n.testBit q = decide (n / 2 ^ q % 2 = 1) := by rw [Nat.testBit_eq_decide_div_mod_eq]
    have hd2 : w.testBit m = decide (w / 2 ^ m % 2 = 1) := by rw [Nat.testBit_eq_decide_div_mod_eq]
    rw [hd, hd2] at hnb
    generalize 2 ^ q = p at *
    generalize n / p = x at *
    generalize w / 2 ^ m = y at *
    have hx : x = 2 * (x / 2) + x % 2 := by omega
    split
    · rename_i h0
      have : x % 2 = 1 := by
        rw [h0] at hnb; simpa using hnb
      rw [Nat.mul_comm p 2, ← Nat.mul_assoc, ← Nat.succ_mul]
      congr 1
      omega
    · rename_i h0
      have h1 : y % 2 = 1 := by omega
      have : x % 2 = 0 := by
        rw [h1] at hnb
        have : ¬ x % 2 = 1 := by simpa using hnb
        omega
      rw [Nat.mul_comm p 2, ← Nat.mul_assoc]
      congr 1
      omega

/-- THE LAW: the two sums are one. -/
theorem rsumOf_eq (l : List UInt8) : rsumOf l = sumOf l := by
  unfold rsumOf sumOf crc rcrc
  rw [rout_eq (Rev.ones.list l) 32 (Nat.le_refl _)]
  simp
end Go.Proofs.YtdjmifaidgbbaaaGreatDoor
