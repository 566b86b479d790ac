/-
  The walks of Four and From.
-/
import Derived.Test.YtmaomebnigcgeaaGreatDoorGetW
namespace Go.Proofs.YtmaomebnigcgeaaGreatDoor
open Go.RowKit

def fourAt (n k : Nat) : UInt8 := UInt8.ofNat (n / 2 ^ (8 * (3 - k)))
/-- A number in four bytes, the greatest one first. -/
def four (n : Nat) : List UInt8 := [fourAt n 0, fourAt n 1, fourAt n 2, fourAt n 3]
def setTo (n o : Nat) : Nat → List UInt8 → List UInt8
  | 0, l => l
  | k + 1, l => (setTo n o k l).set (o + k) (fourAt n k)
theorem setTo_length (n o k : Nat) (l : List UInt8) : (setTo n o k l).length = l.length := by
  induction k with
  | zero => rfl
  | succ k ih => rw [setTo, List.length_set, ih]
theorem setTo_four (n o : Nat) (l : List UInt8) (h : o + 4 ≤ l.length) : setTo n o 4 l = l.take o ++ four n ++ l.drop (o + 4) := by
  apply List.ext_getElem?
  intro i
  simp only [setTo, List.getElem?_set, List.length_set, four]
  by_cases h0 : i < o
  · rw [if_neg (by omega), if_neg (by omega), if_neg (by omega), if_neg (by omega), List.append_assoc, List.getElem?_append_left (by rw [List.length_take]; omega), List.getElem?_take, if_pos h0]
  · have e : ∀ j, i = o + j → (l.take o ++ [fourAt n 0, fourAt n 1, fourAt n 2, fourAt n 3] ++ l.drop (o + 4))[i]? = ([fourAt n 0, fourAt n 1, fourAt n 2, fourAt n 3] ++ l.drop (o + 4))[j]? := by
      intro j hj
      rw [List.append_assoc, List.getElem?_append_right (by rw [List.length_take]; omega), List.length_take, Nat.min_eq_left (by omega)]
      congr 1; omega
    by_cases h1 : i = o
    · rw [e 0 (by omega)]; simp only [h1]; rw [if_neg (by omega), if_neg (by omega), if_neg (by omega), if_pos (by omega), if_pos (by omega)]; rfl
    · by_cases h2 : i = o + 1
      · rw [e 1 h2]; simp only [h2]; rw [if_neg (by omega), if_neg (by omega), if_pos trivial, if_pos (by omega)]; rfl
      · by_cases h3 : i = o + 2
        · rw [e 2 h3]; simp only [h3]; rw [if_neg (by omega), if_pos trivial, if_pos (by omega)]; rfl
        · by_cases h4 : i = o + 3
          · rw [e 3 h4]; simp only [h4]; rw [if_pos trivial, if_pos (by omega)]; rfl
          · rw [if_neg (by omega), if_neg (by omega), if_neg (by omega), if_neg (by omega), e (i - o) (by omega), List.getElem?_append_right (by simp; omega), List.getElem?_drop]
            congr 1; simp; omega

theorem OwnB.set {e : TypeId} {w : World} {g n cap : Nat} {l : List UInt8} (h : OwnB e w (.slice (some ⟨g, 0, none⟩) n cap) l) {i : Nat} (c : UInt8) :
    OwnB e (w.setCell ⟨g, i, none⟩ (bval c)) (.slice (some ⟨g, 0, none⟩) n cap) (l.set i c) := by
  obtain ⟨h1, h2⟩ := h
  refine ⟨by simp, ?_⟩
  rcases h2 with ⟨h2, _⟩ | ⟨g', cap', cur, hv, hb, hg, hn, hm, hs, ht⟩
  · cases h2
  · cases hv
    refine .inr ⟨g, cap, cur.setIfInBounds i (bval c), by rw [List.length_set], hb, ?_, by rw [List.length_set]; exact hn, hm, by simpa using hs, ?_⟩
    · simp only [World.setCell, Array.getElem?_modify, if_true, hg, Option.map_some]
      simp
    · rw [List.length_set, Array.toList_setIfInBounds, Nat.mul_one]
      rw [Nat.mul_one] at ht
      rw [List.take_set, ht, List.map_set]
theorem OwnB.cell {e : TypeId} {w : World} {g n cap : Nat} {l : List UInt8} (h : OwnB e w (.slice (some ⟨g, 0, none⟩) n cap) l) {i : Nat} (hi : i < l.length) :
    w.cell? ⟨g, i, none⟩ = some (bval l[i]) ∧ w.frozen? ⟨g, i, none⟩ = false := by
  obtain ⟨a, cap', hv, hb, _⟩ := h.val
  cases hv
  obtain ⟨b, off, ha, hc⟩ := hb i hi
  cases ha
  refine ⟨by simpa using hc, ?_⟩
  obtain ⟨h1, h2⟩ := h
  rcases h2 with ⟨h2, _⟩ | ⟨g', cap', cur, hv, hb, hg, _⟩
  · cases h2
  · cases hv
    simp [World.frozen?, hg]

theorem OwnB.slice {e : TypeId} {w : World} {v : Value} {l : List UInt8} (h : OwnB e w v l) (hne : l ≠ []) : ∃ g cap, v = .slice (some ⟨g, 0, none⟩) l.length cap ∧ l.length ≤ cap := by
  rcases h.2 with ⟨_, hn⟩ | ⟨g, cap, cur, rfl, _, _, hn, _⟩
  · exact absurd (List.eq_nil_of_length_eq_zero hn) hne
  · exact ⟨g, cap, rfl, hn⟩
theorem BytesAt.drop {w : World} {b off : Nat} {l : List UInt8} (h : BytesAt w (some ⟨b, off, none⟩) l) (k : Nat) : BytesAt w (some ⟨b, off + k, none⟩) (l.drop k) := by
  intro i hi
  rw [List.length_drop] at hi
  obtain ⟨b2, off2, h1, h2⟩ := h (k + i) (by omega)
  cases h1
  exact ⟨b, off + k, rfl, by rw [List.getElem_drop, Nat.add_assoc]; exact h2⟩
theorem BytesAt.take {w : World} {a : Option Addr} {l : List UInt8} (h : BytesAt w a l) (k : Nat) : BytesAt w a (l.take k) := by
  intro i hi
  rw [List.length_take] at hi
  obtain ⟨b2, off2, h1, h2⟩ := h i (by omega)
  exact ⟨b2, off2, h1, by rw [List.getElem_take]; exact h2⟩

set_option maxRecDepth 100000 in
theorem four_any (g n cap o c k0 : Nat) (l : List UInt8) (m : Nat) (w : World) (h4 : 4 ≤ k0) (hl : o + 4 ≤ l.length) (hv : OwnB 5 w (.slice (some ⟨g, 0, none⟩) n cap) l) :
    Calls Tryz.prog 69 #[.slice (some ⟨g, o, none⟩) k0 c, .int .i64 m] w fun e w' => e = .returned (.tuple #[]) ∧ OwnB 5 w' (.slice (some ⟨g, 0, none⟩) n cap) (l.take o ++ four m ++ l.drop (o + 4)) ∧ Chg (fun k => k = g) w w' := by
  go_enter Tryz.func69, Tryz.ntmps69
  go_wp2
  go_loopw [5] (fun i wr => ∃ k : Nat, k ≤ 4 ∧ i = .int .i64 k ∧ OwnB 5 wr (.slice (some ⟨g, 0, none⟩) n cap) (setTo m o k l) ∧ Chg (fun k => k = g) w wr) (fun i _ => 4 - (intOf i).toNat)
  case atStart => exact ⟨0, by omega, rfl, hv, Chg.refl _ _⟩
  case round =>
    obtain ⟨k, hk, rfl, hown, hch⟩ := hrel
    by_cases hlt : k < 4
    · have hlen := setTo_length m o k l
      have hset : setTo m o (k + 1) l = (setTo m o k l).set (o + k) (fourAt m k) := rfl
      have hcell := hown.cell (i := o + k) (by omega)
      have hown' := hown.set (i := o + k) (fourAt m k)
      rw [← hset] at hown'
      obtain ⟨x, hc1, hc2⟩ : ∃ x : Int, wr.cell? ⟨g, o + k, none⟩ = some (.int .u8 x) ∧ wr.frozen? ⟨g, o + k, none⟩ = false := ⟨_, hcell⟩
      have HO := Lib.hid hown'
      clear hset hlen hown' hown hcell
      have hb : bval (fourAt m k) = .int .u8 (((m : Int) / 2 ^ (8 * (3 - k))) % 256) := by
        unfold fourAt bval
        rw [UInt8.toNat_ofNat']
        congr 1
      have HB := Lib.hid hb
      clear hb
      go_wp2
      go_roundw
      case rel => exact ⟨k + 1, by omega, by go_num, by rw [← HB.out]; exact HO.out, hch.setCell (.inl rfl) _⟩
      case measure => simp [intOf]; omega
    · have : k = 4 := by omega
      subst this
      go_wp2
      go_end0
      exact ⟨rfl, by rw [← setTo_four m o l hl]; exact hown, hch⟩

/-- The number in four bytes. -/
def fromTo (l : List UInt8) : Nat → Nat
  | 0 => 0
  | k + 1 => fromTo l k * 256 + (l.getD k 0).toNat
def fromB (l : List UInt8) : Nat := fromTo l 4
theorem fromTo_lt (l : List UInt8) (k : Nat) : fromTo l k < 256 ^ k := by
  induction k with
  | zero => simp [fromTo]
  | succ k ih =>
    rw [fromTo, Nat.pow_succ]
    have := u8_lt' (l.getD k 0)
    omega
theorem or8 {n c : Nat} (hn : n < 16777216) (hc : c < 256) : bits .or .i64 ((n : Int) * 256) (c : Int) = ((n * 256 + c : Nat) : Int) := by
  have e1 : (n : Int) * 256 = ((n * 256 : Nat) : Int) := by omega
  have hor : n * 256 ||| c = n * 256 + c := by
    rw [Nat.mul_comm]
    exact (Nat.two_pow_add_eq_or_of_lt (i := 8) (b := c) (by omega) n).symm
  rw [e1, ← hor]
  exact i64_or_nat _ _ (by omega) (by omega)

set_option maxRecDepth 100000 in
theorem from_any (a : Option Addr) (l : List UInt8) (cap : Nat) (w : World) (hl : l.length ≤ maxLen) (h4 : 4 ≤ l.length) (hc : BytesAt w a l) :
    Calls Tryz.prog 62 #[.slice a l.length cap] w fun e w' => e = .returned (.int .i64 (fromB l : Nat)) ∧ w = w' := by
  unfold maxLen at hl
  go_enter Tryz.func62, Tryz.ntmps62
  go_wp2
  go_loop [3, 5] (fun v i => ∃ k : Nat, k ≤ 4 ∧ i = .int .i64 k ∧ v = .int .i64 (fromTo l k : Nat)) (fun _ i => 4 - (intOf i).toNat)
  case atStart => exact ⟨0, by omega, rfl, rfl⟩
  case round =>
    obtain ⟨k, hk, rfl, rfl⟩ := hrel
    by_cases hlt : k < 4
    · obtain ⟨b, off, rfl, hcell⟩ := hc k (by omega)
      unfold bval at hcell
      have hn : fromTo l k < 16777216 := Nat.lt_of_lt_of_le (fromTo_lt l k) (Nat.le_trans (Nat.pow_le_pow_right (n := 256) (by omega) (show k ≤ 3 by omega)) (by decide))
      have HS : Hid (fromTo l (k + 1) = fromTo l k * 256 + (l[k]'(by omega)).toNat) := by
        unfold Hid
        rw [fromTo, List.getD_eq_getElem?_getD, List.getElem?_eq_getElem (by omega)]
        rfl
      have hc8 := u8_lt' (l[k]'(by omega))
      clear hc
      have hkl : (k : Int) < (l.length : Int) := by omega
      generalize l[k]'(by omega) = c at *
      generalize fromTo l k = x at *
      have HO := Lib.hid (or8 hn hc8)
      go_wp2
      go_round
      case rel => exact ⟨k + 1, by omega, by go_num, by rw [HS.out, ← HO.out]⟩
      case measure => simp [intOf]; omega
    · have : k = 4 := by omega
      subst this
      go_wp2
      go_ret
      exact ⟨rfl, rfl⟩
end Go.Proofs.YtmaomebnigcgeaaGreatDoor
