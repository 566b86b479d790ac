/-
  The walks of Put (the program's and the document's).
-/
import Derived.Test.YtdjmifaidgbbaaaGreatDoorChecked
import Derived.Test.YtdjmifaidgbbaaaGreatDoorLc01
import Derived.Test.YtdjmifaidgbbaaaGreatDoorLc06
import Derived.Test.YtdjmifaidgbbaaaGreatDoorLc07
import Derived.BigQuiet
import Derived.Deep.QuietTactic
import Derived.Outline
import Derived.Deep.RegionWith
import Derived.RegionTactic
namespace Go.Proofs.YtdjmifaidgbbaaaGreatDoor
open Go.RowKit

theorem bytesT : SliceT Tryz.prog 57 5 1 1 :=
  ⟨Tryz.underlying57, by
    have h : (Tryz.prog.info? 5).map (fun i => (i.zero, i.size, i.bytes)) = some (some (.int .u8 0), 1, 1) := by kernel_rfl
    obtain ⟨i, hi, hz, h1, h2⟩ := info_parts h
    exact ⟨i, _, hi, hz, rfl, h1, h2⟩⟩

/-- A number's bytes, as the walk spells them. -/
theorem byte_hi {k : Nat} : bits .or .u8 ((k : Int) % 256) 128 = ((UInt8.ofNat (k % 128 + 128)).toNat : Int) := by
  have e : (k : Int) % 256 = ((k % 256 : Nat) : Int) := by omega
  rw [e, u8_or _ _ (by omega) (by omega) (by omega) (by omega)]
  have h1 : (128 : Int).toNat = 2 ^ 7 := by decide
  rw [Int.toNat_natCast, h1]
  rw [toNat_small (by omega)]
  have key : ∀ x, x < 256 → (x ||| 2 ^ 7) = x % 128 + 128 := by decide +kernel
  have hm : k % 128 = k % 256 % 128 := by omega
  rw [key _ (Nat.mod_lt _ (by omega)), ← hm]

set_option maxRecDepth 100000 in
theorem put_any (v : Value) (l : List UInt8) (n : Nat) (w : World) (hn : n ≤ 1099511627776) (hl : l.length ≤ 140737488355000) (hv : OwnB 5 w v l) :
    Calls Tryz.prog 97 #[v, .int .i64 n] w fun e w' => ∃ v', e = .returned v' ∧ OwnB 5 w' v' (l ++ put n) ∧ Grew w w' v v' := by
  have hlen : (put n).length ≤ 6 := put_length (k := 5) (by omega)
  go_enter Tryz.func97, Tryz.ntmps97
  go_wp2
  go_loopw [0, 1] (fun b m wr => ∃ (k : Nat) (q : List UInt8), m = .int .i64 k ∧ k ≤ 1099511627776 ∧ Hid (q ++ put k = put n) ∧ OwnB 5 wr b (l ++ q) ∧ Grew w wr v b) (fun _ m _ => (intOf m).toNat)
  case atStart => exact ⟨n, [], rfl, hn, rfl, by simpa using hv, Grew.refl _ _⟩
  case round =>
    rename_i b m wr
    obtain ⟨k, q, rfl, hk, HQ, hown, hg⟩ := hrel
    have hq : (l ++ q).length + [(0 : UInt8)].length ≤ 140737488355328 := by
      have := congrArg List.length HQ.out
      simp at this ⊢
      omega
    clear hn hl
    by_cases h : 128 ≤ k
    · have HB : Hid (Value.int .u8 (bits .or .u8 ((k : Int) % 256) 128) = bval (UInt8.ofNat (k % 128 + 128))) := by unfold Hid; rw [byte_hi]; rfl
      have HP : Hid (put k = UInt8.ofNat (k % 128 + 128) :: put (k / 128)) := put_hi h
      generalize UInt8.ofNat (k % 128 + 128) = c at *
      go_wp2_with (at_builtin; go_must (refine wpList_append_bytes rfl (.tmp 7) (.tmp 11) 57 57 rfl bytesT _ Tryz.underlying57 (by intro _; simp) _ _ rfl (hown.alloc _) _ [c] rfl (Source.one_new c HB.out) hq ?_); intro v2 w2 hown2 hg2 _)
      go_wp2
      go_roundw
      case rel => exact ⟨k / 128, q ++ [c], by go_num, by omega, by rw [← HQ.out, HP.out]; show _ = _; simp, by rw [← List.append_assoc]; exact hown2, hg.trans hg2.alloc⟩
      case measure => simp [intOf]; omega
    · have HB : Hid (Value.int .u8 (k : Int) = bval (UInt8.ofNat k)) := (bval_nat (by omega)).symm
      have HP : Hid (put k = [UInt8.ofNat k]) := put_lo (by omega)
      generalize UInt8.ofNat k = c at *
      go_wp2_with (at_builtin; go_must (refine wpList_append_bytes rfl (.tmp 15) (.tmp 18) 57 57 rfl bytesT _ Tryz.underlying57 (by intro _; simp) _ _ rfl (hown.alloc _) _ [c] rfl (Source.one_new c HB.out) hq ?_); intro v2 w2 hown2 hg2 _)
      go_wp2
      go_ret
      exact ⟨_, rfl, by rw [← HQ.out, HP.out, ← List.append_assoc]; exact hown2, hg.trans hg2.alloc⟩

/-- A new slice of bytes: nothing that was there has turned. -/
def FreshB (w w' : World) (v : Value) (l : List UInt8) : Prop := OwnB 5 w' v l ∧ Chg Nil w w' ∧ ∀ k, v.ownBlock = some k → w.heap.size ≤ k

set_option maxRecDepth 100000 in
theorem refPut_any (f : Nat) : ∀ (n : Nat) (w : World), n < 128 ^ (f + 1) → n ≤ 1099511627776 →
    Calls Tryz.prog 112 #[.int .i64 n] w fun e w' => ∃ v', e = .returned v' ∧ FreshB w w' v' (put n) := by
  induction f with
  | zero =>
    intro n w hn hm
    have hlo : n < 128 := by simpa using hn
    have HB : Hid (Value.int .u8 (n : Int) = bval (UInt8.ofNat n)) := (bval_nat (by omega)).symm
    have HP : Hid (put n = [UInt8.ofNat n]) := put_lo hlo
    clear hn
    go_enter Tryz.func112, Tryz.ntmps112
    go_wp2
    go_ret
    refine ⟨_, rfl, ?_, (Chg.refl _ _).alloc _, fun k hk => by simp [Value.ownBlock] at hk; omega⟩
    rw [HP.out, HB.out]
    exact OwnB.new (l := [UInt8.ofNat n]) (by simp [maxLen])
  | succ f ih =>
    intro n w hn hm
    by_cases hlo : n < 128
    · have HB : Hid (Value.int .u8 (n : Int) = bval (UInt8.ofNat n)) := (bval_nat (by omega)).symm
      have HP : Hid (put n = [UInt8.ofNat n]) := put_lo hlo
      clear hn ih
      go_enter Tryz.func112, Tryz.ntmps112
      go_wp2
      go_ret
      refine ⟨_, rfl, ?_, (Chg.refl _ _).alloc _, fun k hk => by simp [Value.ownBlock] at hk; omega⟩
      rw [HP.out, HB.out]
      exact OwnB.new (l := [UInt8.ofNat n]) (by simp [maxLen])
    · have HP : Hid (put n = UInt8.ofNat (n % 128 + 128) :: put (n / 128)) := put_hi (by omega)
      have IH := Lib.hid (ih (n / 128))
      have h1 : n / 128 < 128 ^ (f + 1) := by rw [Nat.pow_succ] at hn; omega
      have H1 := Lib.hid h1
      clear hn ih h1
      have hlen : (put (n / 128)).length ≤ 6 := put_length (k := 5) (by omega)
      have HB : Hid (Value.int .u8 ((n : Int) % 128 + 128) = bval (UInt8.ofNat (n % 128 + 128))) := by unfold Hid; rw [bval_nat (by omega)]; congr 1
      go_enter Tryz.func112, Tryz.ntmps112
      go_wp2_with fail
      rw [show ((n : Int) / 128) = ((n / 128 : Nat) : Int) from by omega]
      refine (IH.out _ H1.out (by omega)).mono ?_
      rintro e w1 ⟨v1, rfl, hown, hchg, hnew⟩
      have hone : OwnB 5 w1 (.slice (some ⟨w.heap.size, 0, none⟩) 1 1) [UInt8.ofNat (n % 128 + 128)] := (OwnB.one_new _ HB.out).chg hchg (fun _ _ h => h)
      have hle : [UInt8.ofNat (n % 128 + 128)].length + (put (n / 128)).length ≤ 140737488355328 := by simp; omega
      go_wp2_with (at_builtin; go_must (refine wpList_append_bytes rfl (.tmp 12) (.tmp 15) 57 57 rfl bytesT _ Tryz.underlying57 (by intro _; simp) _ _ rfl hone _ _ rfl (Source.own hown) hle ?_); intro v2 w2 hown2 hg2 _)
      go_wp2
      go_ret
      refine ⟨_, rfl, by rw [HP.out]; exact hown2, (((Chg.refl _ _).alloc _).trans hchg (fun _ h => h.elim)).trans hg2.chg (fun i hi => .inr (by have h : w.heap.size = i := Option.some.inj hi; omega)), fun k hk => ?_⟩
      rcases hg2.own k hk with h | h
      · have h : w.heap.size = k := Option.some.inj h
        omega
      · have := hchg.size; simp at this; omega
end Go.Proofs.YtdjmifaidgbbaaaGreatDoor

/-
  The walks of text and Four.
-/
namespace Go.Proofs.YtdjmifaidgbbaaaGreatDoor
open Go.RowKit

/-- A text's bytes, behind how many they are. -/
def putText (s : ByteArray) : List UInt8 := put s.size ++ s.data.toList

set_option maxRecDepth 100000 in
theorem text_any (v : Value) (l : List UInt8) (s : ByteArray) (w : World) (hs : s.size ≤ 1000000) (hl : l.length ≤ 140737480000000) (hv : OwnB 5 w v l) :
    Calls Tryz.prog 98 #[v, .string s] w fun e w' => ∃ v', e = .returned v' ∧ OwnB 5 w' v' (l ++ putText s) ∧ Grew w w' v v' := by
  have hlen : (put s.size).length ≤ 6 := put_length (k := 5) (by omega)
  have hsrc : Source Tryz.prog w 1 (.string s) s.data.toList.length (s.data.toList.map bval) := Source.string s
  have hsl : s.data.toList.length = s.size := by rw [Array.length_toList]; rfl
  have HL := Lib.hid hsl
  clear hsl
  go_enter Tryz.func98, Tryz.ntmps98
  go_wp2_with fail
  refine (put_any v l s.size _ (by omega) (by omega) hv).mono ?_
  rintro e w1 ⟨v1, rfl, hown, hg⟩
  have hq : (l ++ put s.size).length + s.data.toList.length ≤ 140737488355328 := by rw [HL.out, List.length_append]; omega
  have hsrc1 : Source Tryz.prog w1 1 (.string s) s.data.toList.length (s.data.toList.map bval) := Source.string s
  go_wp2_with (at_builtin; go_must (refine wpList_append_bytes rfl (.tmp 8) (.tmp 9) 57 9 rfl bytesT _ Tryz.underlying9 (by intro _; simp) _ _ rfl hown _ s.data.toList rfl hsrc1 hq ?_); intro v2 w2 hown2 hg2 _)
  go_wp2
  go_ret
  exact ⟨_, rfl, by unfold putText; rw [← List.append_assoc]; exact hown2, hg.trans hg2⟩
end Go.Proofs.YtdjmifaidgbbaaaGreatDoor

/-
  The walks of Get (the program's and the document's).
-/
namespace Go.Proofs.YtdjmifaidgbbaaaGreatDoor
open Go.RowKit

theorem i64_or_nat (a b : Nat) (ha : a < 4611686018427387904) (hb : b < 4611686018427387904) : bits .or .i64 (a : Int) (b : Int) = ((a ||| b : Nat) : Int) := by
  have hor : a ||| b < 2 ^ 62 := Nat.or_lt_two_pow (by omega) (by omega)
  show IntKind.i64.wrap ((BitVec.ofInt 64 (a : Int) ||| BitVec.ofInt 64 (b : Int)).toNat : Nat) = _
  rw [BitVec.toNat_or, BitVec.ofInt_natCast, BitVec.ofInt_natCast, BitVec.toNat_ofNat, BitVec.toNat_ofNat, Nat.mod_eq_of_lt (by omega), Nat.mod_eq_of_lt (by omega)]
  generalize a ||| b = x at *
  rw [IntKind.wrap_i64]
  omega

theorem wrap64_nat {x : Nat} (h : x < 9223372036854775808) : wrap64 (x : Int) = (x : Int) := by
  unfold wrap64; omega

theorem or7 {n c k : Nat} (hn : n < 128 ^ k) (hc : c < 256) (hk : k ≤ 5) :
    bits .or .i64 (n : Int) (wrap64 (wrap64 (bits .and .u8 (c : Int) 127) * 2 ^ (7 * k))) = ((n + c % 128 * 128 ^ k : Nat) : Int) := by
  have h1 : bits .and .u8 (c : Int) 127 = ((c % 128 : Nat) : Int) := by
    rw [u8_and _ _ (by omega) (by omega) (by omega) (by omega), Int.toNat_natCast]
    have : (127 : Int).toNat = 2 ^ 7 - 1 := by decide
    rw [this, Nat.and_two_pow_sub_one_eq_mod]
  have e7 : (128 : Nat) ^ k = 2 ^ (7 * k) := by rw [Nat.pow_mul]
  have e7i : (2 : Int) ^ (7 * k) = ((128 ^ k : Nat) : Int) := by rw [e7]; norm_cast
  have hor : n ||| (c % 128 * 128 ^ k) = n + c % 128 * 128 ^ k := by
    rw [Nat.or_comm, Nat.add_comm, Nat.mul_comm, e7, ← Nat.two_pow_add_eq_or_of_lt (by rw [← e7]; exact hn)]
  have hp : (128 : Nat) ^ k ≤ 34359738368 := Nat.le_trans (Nat.pow_le_pow_right (by omega) hk) (by decide)
  rw [h1, e7i]
  clear e7 e7i h1
  generalize 128 ^ k = p at *
  have hx : c % 128 < 128 := Nat.mod_lt _ (by omega)
  generalize c % 128 = x at *
  have hm : x * p ≤ 127 * 34359738368 := Nat.mul_le_mul (by omega) hp
  rw [wrap64_nat (by omega), ← Int.natCast_mul, wrap64_nat (by omega), ← hor]
  exact i64_or_nat _ _ (by omega) (by omega)

set_option maxRecDepth 100000 in
theorem get_any (a : Option Addr) (l : List UInt8) (cap : Nat) (w : World) (hl : l.length ≤ maxLen) (hc : BytesAt w a l) :
    Calls Tryz.prog 160 #[.slice a l.length cap] w fun e w' => e = .returned (.tuple #[.int .i64 (get l).1, .int .i64 (get l).2]) ∧ w = w' := by
  unfold maxLen at hl
  go_enter Tryz.func160, Tryz.ntmps160
  go_wp2
  go_loop [2, 8] (fun v i => ∃ k : Nat, k ≤ l.length ∧ k ≤ 6 ∧ i = .int .i64 k ∧ v = .int .i64 (val (l.take k) : Nat) ∧ Hid (getAt l (6 - k) k = get l) ∧ Hid (∀ x ∈ l.take k, 128 ≤ x.toNat)) (fun _ i => l.length - (intOf i).toNat)
  case atStart => exact ⟨0, by omega, by omega, rfl, rfl, rfl, by intro x hx; simp at hx⟩
  case round =>
    obtain ⟨k, hk, hk6, rfl, rfl, HG, HH⟩ := hrel
    by_cases hlt : k < l.length
    · obtain ⟨b, off, rfl, hcell⟩ := hc k hlt
      clear hc
      unfold bval at hcell
      by_cases h5 : 5 < k
      · have HZ : Hid (get l = (0, 0)) := by
          have : 6 - k = 0 := by omega
          rw [← HG.out, this]; rfl
        go_wp2_with fail
        go_ret2
        exact ⟨by rw [HZ.out]; rfl, rfl⟩
      · have hc8 := u8_lt' l[k]
        have hv := val_lt (l.take k)
        rw [List.length_take, Nat.min_eq_left hk] at hv
        have hor := or7 hv hc8 (by omega)
        have hs : l.take (k + 1) = l.take k ++ [l[k]] := take_snoc l k hlt
        have hvs := val_snoc (l.take k) l[k]
        rw [← hs, List.length_take, Nat.min_eq_left hk] at hvs
        rw [← hvs] at hor
        have HE : Hid (∀ (_ : l[k].toNat < 128) (_ : l[k] = 0 ∧ 0 < k ∨ 1099511627776 < val (l.take (k + 1))), get l = (0, 0)) := by
          intro h1 h2
          rw [← HG.out, show 6 - k = (5 - k) + 1 by omega, getAt_end hlt h1 h2]
        have HO : Hid (∀ (_ : l[k].toNat < 128) (_ : ¬ (l[k] = 0 ∧ 0 < k ∨ 1099511627776 < val (l.take (k + 1)))), get l = (val (l.take (k + 1)), k + 1)) := by
          intro h1 h2
          rw [← HG.out, show 6 - k = (5 - k) + 1 by omega, getAt_ok hlt h1 h2]
        have HN : Hid (¬ l[k].toNat < 128 → getAt l (6 - (k + 1)) (k + 1) = get l) := by
          intro h1
          rw [← HG.out, show 6 - k = (5 - k) + 1 by omega, getAt_on hlt h1, show 6 - (k + 1) = 5 - k by omega]
        have HS : Hid (l.take (k + 1) = l.take k ++ [l[k]]) := hs
        clear hvs hs
        have hz : (l[k] = 0) ↔ l[k].toNat = 0 := by rw [← UInt8.toNat_inj]; rfl
        have HZ := Lib.hid hz
        clear hz
        generalize l[k] = c at *
        by_cases hc1 : c.toNat < 128
        · generalize val (l.take (k + 1)) = m at *
          generalize val (l.take k) = n at *
          by_cases h0 : c.toNat = 0
          · have hb : ((c.toNat : Int) == 0) = true := by rw [h0]; rfl
            have H0 := Lib.hid h0
            clear h0
            by_cases hk0 : 0 < k
            · have HR : Hid (get l = (0, 0)) := HE.out hc1 (.inl ⟨HZ.out.2 H0.out, hk0⟩)
              go_wp2_with fail
              go_ret2
              exact ⟨by rw [HR.out]; rfl, rfl⟩
            · by_cases hm : 1099511627776 < m
              · have HR : Hid (get l = (0, 0)) := HE.out hc1 (.inr hm)
                go_wp2_with fail
                go_ret2
                exact ⟨by rw [HR.out]; rfl, rfl⟩
              · have HR : Hid (get l = (m, k + 1)) := HO.out hc1 (fun h => h.elim (fun h => hk0 h.2) hm)
                go_wp2_with fail
                go_ret2
                exact ⟨by rw [HR.out]; rfl, rfl⟩
          · have hb : ((c.toNat : Int) == 0) = false := by simp; omega
            by_cases hm : 1099511627776 < m
            · have HR : Hid (get l = (0, 0)) := HE.out hc1 (.inr hm)
              go_wp2_with fail
              go_ret2
              exact ⟨by rw [HR.out]; rfl, rfl⟩
            · have HR : Hid (get l = (m, k + 1)) := HO.out hc1 (fun h => h.elim (fun h => h0 (HZ.out.1 h.1)) hm)
              go_wp2_with fail
              go_ret2
              exact ⟨by rw [HR.out]; rfl, rfl⟩
        · go_wp2_with fail
          all_goals
            go_round
            case rel => exact ⟨k + 1, by omega, by omega, by go_num, rfl, HN.out hc1, by
              intro x hx
              rw [HS.out] at hx
              rcases List.mem_append.1 hx with hx | hx
              · exact HH.out x hx
              · simp only [List.mem_singleton] at hx; subst hx; omega⟩
            case measure => simp [intOf]; omega
    · have HZ : Hid (get l = (0, 0)) := by rw [← HG.out, getAt_none (by omega)]; rfl
      go_wp2
      go_ret2
      exact ⟨by rw [HZ.out]; rfl, rfl⟩

theorem sum7 {n c k : Nat} (hn : n < 128 ^ k) (hk : k ≤ 5) :
    wrap64 ((n : Int) + wrap64 ((c : Int) % 128 * ((128 ^ k : Nat) : Int))) = ((n + c % 128 * 128 ^ k : Nat) : Int) := by
  have hp : (128 : Nat) ^ k ≤ 34359738368 := Nat.le_trans (Nat.pow_le_pow_right (by omega) hk) (by decide)
  generalize 128 ^ k = p at *
  have e : (c : Int) % 128 = ((c % 128 : Nat) : Int) := by omega
  have hx : c % 128 < 128 := Nat.mod_lt _ (by omega)
  rw [e]
  generalize c % 128 = x at *
  have hm : x * p ≤ 127 * 34359738368 := Nat.mul_le_mul (by omega) hp
  rw [← Int.natCast_mul, wrap64_nat (by omega), ← Int.natCast_add, wrap64_nat (by omega)]
theorem pow7 {k : Nat} (hk : k ≤ 5) : wrap64 (((128 ^ k : Nat) : Int) * 128) = ((128 ^ (k + 1) : Nat) : Int) := by
  have hp : (128 : Nat) ^ k ≤ 34359738368 := Nat.le_trans (Nat.pow_le_pow_right (by omega) hk) (by decide)
  rw [Nat.pow_succ]
  generalize 128 ^ k = p at *
  unfold wrap64
  omega


end Go.Proofs.YtdjmifaidgbbaaaGreatDoor

/-
  The walks of Four and From.
-/
namespace Go.Proofs.YtdjmifaidgbbaaaGreatDoor
open Go.RowKit

def fourAt (n k : Nat) : UInt8 := UInt8.ofNat (n / 2 ^ (8 * (3 - k)))
/-- A number in four bytes, the greatest one first. -/
def four (n : Nat) : List UInt8 := [fourAt n 0, fourAt n 1, fourAt n 2, fourAt n 3]
def setTo (n o : Nat) : Nat → List UInt8 → List UInt8
  | 0, l => l
  | k + 1, l => (setTo n o k l).set (o + k) (fourAt n k)
theorem setTo_length (n o k : Nat) (l : List UInt8) : (setTo n o k l).length = l.length := by
  induction k with
  | zero => rfl
  | succ k ih => rw [setTo, List.length_set, ih]
theorem setTo_four (n o : Nat) (l : List UInt8) (h : o + 4 ≤ l.length) : setTo n o 4 l = l.take o ++ four n ++ l.drop (o + 4) := by
  apply List.ext_getElem?
  intro i
  simp only [setTo, List.getElem?_set, List.length_set, four]
  by_cases h0 : i < o
  · rw [if_neg (by omega), if_neg (by omega), if_neg (by omega), if_neg (by omega), List.append_assoc, List.getElem?_append_left (by rw [List.length_take]; omega), List.getElem?_take, if_pos h0]
  · have e : ∀ j, i = o + j → (l.take o ++ [fourAt n 0, fourAt n 1, fourAt n 2, fourAt n 3] ++ l.drop (o + 4))[i]? = ([fourAt n 0, fourAt n 1, fourAt n 2, fourAt n 3] ++ l.drop (o + 4))[j]? := by
      intro j hj
      rw [List.append_assoc, List.getElem?_append_right (by rw [List.length_take]; omega), List.length_take, Nat.min_eq_left (by omega)]
      congr 1; omega
    by_cases h1 : i = o
    · rw [e 0 (by omega)]; simp only [h1]; rw [if_neg (by omega), if_neg (by omega), if_neg (by omega), if_pos (by omega), if_pos (by omega)]; rfl
    · by_cases h2 : i = o + 1
      · rw [e 1 h2]; simp only [h2]; rw [if_neg (by omega), if_neg (by omega), if_pos trivial, if_pos (by omega)]; rfl
      · by_cases h3 : i = o + 2
        · rw [e 2 h3]; simp only [h3]; rw [if_neg (by omega), if_pos trivial, if_pos (by omega)]; rfl
        · by_cases h4 : i = o + 3
          · rw [e 3 h4]; simp only [h4]; rw [if_pos trivial, if_pos (by omega)]; rfl
          · rw [if_neg (by omega), if_neg (by omega), if_neg (by omega), if_neg (by omega), e (i - o) (by omega), List.getElem?_append_right (by simp; omega), List.getElem?_drop]
            congr 1; simp; omega

theorem OwnB.set {e : TypeId} {w : World} {g n cap : Nat} {l : List UInt8} (h : OwnB e w (.slice (some ⟨g, 0, none⟩) n cap) l) {i : Nat} (c : UInt8) :
    OwnB e (w.setCell ⟨g, i, none⟩ (bval c)) (.slice (some ⟨g, 0, none⟩) n cap) (l.set i c) := by
  obtain ⟨h1, h2⟩ := h
  refine ⟨by simp, ?_⟩
  rcases h2 with ⟨h2, _⟩ | ⟨g', cap', cur, hv, hb, hg, hn, hm, hs, ht⟩
  · cases h2
  · cases hv
    refine .inr ⟨g, cap, cur.setIfInBounds i (bval c), by rw [List.length_set], hb, ?_, by rw [List.length_set]; exact hn, hm, by simpa using hs, ?_⟩
    · simp only [World.setCell, Array.getElem?_modify, if_true, hg, Option.map_some]
      simp
    · rw [List.length_set, Array.toList_setIfInBounds, Nat.mul_one]
      rw [Nat.mul_one] at ht
      rw [List.take_set, ht, List.map_set]
theorem OwnB.cell {e : TypeId} {w : World} {g n cap : Nat} {l : List UInt8} (h : OwnB e w (.slice (some ⟨g, 0, none⟩) n cap) l) {i : Nat} (hi : i < l.length) :
    w.cell? ⟨g, i, none⟩ = some (bval l[i]) ∧ w.frozen? ⟨g, i, none⟩ = false := by
  obtain ⟨a, cap', hv, hb, _⟩ := h.val
  cases hv
  obtain ⟨b, off, ha, hc⟩ := hb i hi
  cases ha
  refine ⟨by simpa using hc, ?_⟩
  obtain ⟨h1, h2⟩ := h
  rcases h2 with ⟨h2, _⟩ | ⟨g', cap', cur, hv, hb, hg, _⟩
  · cases h2
  · cases hv
    simp [World.frozen?, hg]

theorem OwnB.slice {e : TypeId} {w : World} {v : Value} {l : List UInt8} (h : OwnB e w v l) (hne : l ≠ []) : ∃ g cap, v = .slice (some ⟨g, 0, none⟩) l.length cap ∧ l.length ≤ cap := by
  rcases h.2 with ⟨_, hn⟩ | ⟨g, cap, cur, rfl, _, _, hn, _⟩
  · exact absurd (List.eq_nil_of_length_eq_zero hn) hne
  · exact ⟨g, cap, rfl, hn⟩
theorem BytesAt.drop {w : World} {b off : Nat} {l : List UInt8} (h : BytesAt w (some ⟨b, off, none⟩) l) (k : Nat) : BytesAt w (some ⟨b, off + k, none⟩) (l.drop k) := by
  intro i hi
  rw [List.length_drop] at hi
  obtain ⟨b2, off2, h1, h2⟩ := h (k + i) (by omega)
  cases h1
  exact ⟨b, off + k, rfl, by rw [List.getElem_drop, Nat.add_assoc]; exact h2⟩
theorem BytesAt.take {w : World} {a : Option Addr} {l : List UInt8} (h : BytesAt w a l) (k : Nat) : BytesAt w a (l.take k) := by
  intro i hi
  rw [List.length_take] at hi
  obtain ⟨b2, off2, h1, h2⟩ := h i (by omega)
  exact ⟨b2, off2, h1, by rw [List.getElem_take]; exact h2⟩

set_option maxRecDepth 100000 in
theorem four_any (g n cap o c k0 : Nat) (l : List UInt8) (m : Nat) (w : World) (h4 : 4 ≤ k0) (hl : o + 4 ≤ l.length) (hv : OwnB 5 w (.slice (some ⟨g, 0, none⟩) n cap) l) :
    Calls Tryz.prog 99 #[.slice (some ⟨g, o, none⟩) k0 c, .int .i64 m] w fun e w' => e = .returned (.tuple #[]) ∧ OwnB 5 w' (.slice (some ⟨g, 0, none⟩) n cap) (l.take o ++ four m ++ l.drop (o + 4)) ∧ Chg (fun k => k = g) w w' := by
  go_enter Tryz.func99, Tryz.ntmps99
  go_wp2
  go_loopw [5] (fun i wr => ∃ k : Nat, k ≤ 4 ∧ i = .int .i64 k ∧ OwnB 5 wr (.slice (some ⟨g, 0, none⟩) n cap) (setTo m o k l) ∧ Chg (fun k => k = g) w wr) (fun i _ => 4 - (intOf i).toNat)
  case atStart => exact ⟨0, by omega, rfl, hv, Chg.refl _ _⟩
  case round =>
    obtain ⟨k, hk, rfl, hown, hch⟩ := hrel
    by_cases hlt : k < 4
    · have hlen := setTo_length m o k l
      have hset : setTo m o (k + 1) l = (setTo m o k l).set (o + k) (fourAt m k) := rfl
      have hcell := hown.cell (i := o + k) (by omega)
      have hown' := hown.set (i := o + k) (fourAt m k)
      rw [← hset] at hown'
      obtain ⟨x, hc1, hc2⟩ : ∃ x : Int, wr.cell? ⟨g, o + k, none⟩ = some (.int .u8 x) ∧ wr.frozen? ⟨g, o + k, none⟩ = false := ⟨_, hcell⟩
      have HO := Lib.hid hown'
      clear hset hlen hown' hown hcell
      have hb : bval (fourAt m k) = .int .u8 (((m : Int) / 2 ^ (8 * (3 - k))) % 256) := by
        unfold fourAt bval
        rw [UInt8.toNat_ofNat']
        congr 1
      have HB := Lib.hid hb
      clear hb
      go_wp2
      go_roundw
      case rel => exact ⟨k + 1, by omega, by go_num, by rw [← HB.out]; exact HO.out, hch.setCell (.inl rfl) _⟩
      case measure => simp [intOf]; omega
    · have : k = 4 := by omega
      subst this
      go_wp2
      go_end0
      exact ⟨rfl, by rw [← setTo_four m o l hl]; exact hown, hch⟩

/-- The number in four bytes. -/
def fromTo (l : List UInt8) : Nat → Nat
  | 0 => 0
  | k + 1 => fromTo l k * 256 + (l.getD k 0).toNat
def fromB (l : List UInt8) : Nat := fromTo l 4
theorem fromTo_lt (l : List UInt8) (k : Nat) : fromTo l k < 256 ^ k := by
  induction k with
  | zero => simp [fromTo]
  | succ k ih =>
    rw [fromTo, Nat.pow_succ]
    have := u8_lt' (l.getD k 0)
    omega
theorem or8 {n c : Nat} (hn : n < 16777216) (hc : c < 256) : bits .or .i64 ((n : Int) * 256) (c : Int) = ((n * 256 + c : Nat) : Int) := by
  have e1 : (n : Int) * 256 = ((n * 256 : Nat) : Int) := by omega
  have hor : n * 256 ||| c = n * 256 + c := by
    rw [Nat.mul_comm]
    exact (Nat.two_pow_add_eq_or_of_lt (i := 8) (b := c) (by omega) n).symm
  rw [e1, ← hor]
  exact i64_or_nat _ _ (by omega) (by omega)

set_option maxRecDepth 100000 in
theorem from_any (a : Option Addr) (l : List UInt8) (cap : Nat) (w : World) (hl : l.length ≤ maxLen) (h4 : 4 ≤ l.length) (hc : BytesAt w a l) :
    Calls Tryz.prog 127 #[.slice a l.length cap] w fun e w' => e = .returned (.int .i64 (fromB l : Nat)) ∧ w = w' := by
  unfold maxLen at hl
  go_enter Tryz.func127, Tryz.ntmps127
  go_wp2
  go_loop [3, 5] (fun v i => ∃ k : Nat, k ≤ 4 ∧ i = .int .i64 k ∧ v = .int .i64 (fromTo l k : Nat)) (fun _ i => 4 - (intOf i).toNat)
  case atStart => exact ⟨0, by omega, rfl, rfl⟩
  case round =>
    obtain ⟨k, hk, rfl, rfl⟩ := hrel
    by_cases hlt : k < 4
    · obtain ⟨b, off, rfl, hcell⟩ := hc k (by omega)
      unfold bval at hcell
      have hn : fromTo l k < 16777216 := Nat.lt_of_lt_of_le (fromTo_lt l k) (Nat.le_trans (Nat.pow_le_pow_right (n := 256) (by omega) (show k ≤ 3 by omega)) (by decide))
      have HS : Hid (fromTo l (k + 1) = fromTo l k * 256 + (l[k]'(by omega)).toNat) := by
        unfold Hid
        rw [fromTo, List.getD_eq_getElem?_getD, List.getElem?_eq_getElem (by omega)]
        rfl
      have hc8 := u8_lt' (l[k]'(by omega))
      clear hc
      have hkl : (k : Int) < (l.length : Int) := by omega
      generalize l[k]'(by omega) = c at *
      generalize fromTo l k = x at *
      have HO := Lib.hid (or8 hn hc8)
      go_wp2
      go_round
      case rel => exact ⟨k + 1, by omega, by go_num, by rw [HS.out, ← HO.out]⟩
      case measure => simp [intOf]; omega
    · have : k = 4 := by omega
      subst this
      go_wp2
      go_ret
      exact ⟨rfl, rfl⟩
end Go.Proofs.YtdjmifaidgbbaaaGreatDoor
