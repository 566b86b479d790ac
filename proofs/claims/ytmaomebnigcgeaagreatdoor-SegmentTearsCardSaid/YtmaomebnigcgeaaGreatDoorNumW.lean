/-
  The walks of Put (the program's and the document's).
-/
import Derived.Test.YtmaomebnigcgeaaGreatDoorChecked
import Derived.Test.YtmaomebnigcgeaaGreatDoorApp
import Derived.Test.YtmaomebnigcgeaaGreatDoorNumL
namespace Go.Proofs.YtmaomebnigcgeaaGreatDoor
open Go.RowKit

theorem bytesT : SliceT Tryz.prog 44 5 1 1 :=
  ⟨Tryz.underlying44, by
    have h : (Tryz.prog.info? 5).map (fun i => (i.zero, i.size, i.bytes)) = some (some (.int .u8 0), 1, 1) := by kernel_rfl
    obtain ⟨i, hi, hz, h1, h2⟩ := info_parts h
    exact ⟨i, _, hi, hz, rfl, h1, h2⟩⟩

/-- A number's bytes, as the walk spells them. -/
theorem byte_hi {k : Nat} : bits .or .u8 ((k : Int) % 256) 128 = ((UInt8.ofNat (k % 128 + 128)).toNat : Int) := by
  have e : (k : Int) % 256 = ((k % 256 : Nat) : Int) := by omega
  rw [e, u8_or _ _ (by omega) (by omega) (by omega) (by omega)]
  have h1 : (128 : Int).toNat = 2 ^ 7 := by decide
  rw [Int.toNat_natCast, h1]
  rw [toNat_small (by omega)]
  have key : ∀ x, x < 256 → (x ||| 2 ^ 7) = x % 128 + 128 := by decide +kernel
  have hm : k % 128 = k % 256 % 128 := by omega
  rw [key _ (Nat.mod_lt _ (by omega)), ← hm]

set_option maxRecDepth 100000 in
theorem put_any (v : Value) (l : List UInt8) (n : Nat) (w : World) (hn : n ≤ 1099511627776) (hl : l.length ≤ 140737488355000) (hv : OwnB 5 w v l) :
    Calls Tryz.prog 67 #[v, .int .i64 n] w fun e w' => ∃ v', e = .returned v' ∧ OwnB 5 w' v' (l ++ put n) ∧ Grew w w' v v' := by
  have hlen : (put n).length ≤ 6 := put_length (k := 5) (by omega)
  go_enter Tryz.func67, Tryz.ntmps67
  go_wp2
  go_loopw [0, 1] (fun b m wr => ∃ (k : Nat) (q : List UInt8), m = .int .i64 k ∧ k ≤ 1099511627776 ∧ Hid (q ++ put k = put n) ∧ OwnB 5 wr b (l ++ q) ∧ Grew w wr v b) (fun _ m _ => (intOf m).toNat)
  case atStart => exact ⟨n, [], rfl, hn, rfl, by simpa using hv, Grew.refl _ _⟩
  case round =>
    rename_i b m wr
    obtain ⟨k, q, rfl, hk, HQ, hown, hg⟩ := hrel
    have hq : (l ++ q).length + [(0 : UInt8)].length ≤ 140737488355328 := by
      have := congrArg List.length HQ.out
      simp at this ⊢
      omega
    clear hn hl
    by_cases h : 128 ≤ k
    · have HB : Hid (Value.int .u8 (bits .or .u8 ((k : Int) % 256) 128) = bval (UInt8.ofNat (k % 128 + 128))) := by unfold Hid; rw [byte_hi]; rfl
      have HP : Hid (put k = UInt8.ofNat (k % 128 + 128) :: put (k / 128)) := put_hi h
      generalize UInt8.ofNat (k % 128 + 128) = c at *
      go_wp2_with (at_builtin; go_must (refine wpList_append_bytes rfl (.tmp 7) (.tmp 11) 44 44 rfl bytesT _ Tryz.underlying44 (by intro _; simp) _ _ rfl (hown.alloc _) _ [c] rfl (Source.one_new c HB.out) hq ?_); intro v2 w2 hown2 hg2 _)
      go_wp2
      go_roundw
      case rel => exact ⟨k / 128, q ++ [c], by go_num, by omega, by rw [← HQ.out, HP.out]; show _ = _; simp, by rw [← List.append_assoc]; exact hown2, hg.trans hg2.alloc⟩
      case measure => simp [intOf]; omega
    · have HB : Hid (Value.int .u8 (k : Int) = bval (UInt8.ofNat k)) := (bval_nat (by omega)).symm
      have HP : Hid (put k = [UInt8.ofNat k]) := put_lo (by omega)
      generalize UInt8.ofNat k = c at *
      go_wp2_with (at_builtin; go_must (refine wpList_append_bytes rfl (.tmp 15) (.tmp 18) 44 44 rfl bytesT _ Tryz.underlying44 (by intro _; simp) _ _ rfl (hown.alloc _) _ [c] rfl (Source.one_new c HB.out) hq ?_); intro v2 w2 hown2 hg2 _)
      go_wp2
      go_ret
      exact ⟨_, rfl, by rw [← HQ.out, HP.out, ← List.append_assoc]; exact hown2, hg.trans hg2.alloc⟩

/-- A new slice of bytes: nothing that was there has turned. -/
def FreshB (w w' : World) (v : Value) (l : List UInt8) : Prop := OwnB 5 w' v l ∧ Chg Nil w w' ∧ ∀ k, v.ownBlock = some k → w.heap.size ≤ k

set_option maxRecDepth 100000 in
theorem refPut_any (f : Nat) : ∀ (n : Nat) (w : World), n < 128 ^ (f + 1) → n ≤ 1099511627776 →
    Calls Tryz.prog 42 #[.int .i64 n] w fun e w' => ∃ v', e = .returned v' ∧ FreshB w w' v' (put n) := by
  induction f with
  | zero =>
    intro n w hn hm
    have hlo : n < 128 := by simpa using hn
    have HB : Hid (Value.int .u8 (n : Int) = bval (UInt8.ofNat n)) := (bval_nat (by omega)).symm
    have HP : Hid (put n = [UInt8.ofNat n]) := put_lo hlo
    clear hn
    go_enter Tryz.func42, Tryz.ntmps42
    go_wp2
    go_ret
    refine ⟨_, rfl, ?_, (Chg.refl _ _).alloc _, fun k hk => by simp [Value.ownBlock] at hk; omega⟩
    rw [HP.out, HB.out]
    exact OwnB.new (l := [UInt8.ofNat n]) (by simp [maxLen])
  | succ f ih =>
    intro n w hn hm
    by_cases hlo : n < 128
    · have HB : Hid (Value.int .u8 (n : Int) = bval (UInt8.ofNat n)) := (bval_nat (by omega)).symm
      have HP : Hid (put n = [UInt8.ofNat n]) := put_lo hlo
      clear hn ih
      go_enter Tryz.func42, Tryz.ntmps42
      go_wp2
      go_ret
      refine ⟨_, rfl, ?_, (Chg.refl _ _).alloc _, fun k hk => by simp [Value.ownBlock] at hk; omega⟩
      rw [HP.out, HB.out]
      exact OwnB.new (l := [UInt8.ofNat n]) (by simp [maxLen])
    · have HP : Hid (put n = UInt8.ofNat (n % 128 + 128) :: put (n / 128)) := put_hi (by omega)
      have IH := Lib.hid (ih (n / 128))
      have h1 : n / 128 < 128 ^ (f + 1) := by rw [Nat.pow_succ] at hn; omega
      have H1 := Lib.hid h1
      clear hn ih h1
      have hlen : (put (n / 128)).length ≤ 6 := put_length (k := 5) (by omega)
      have HB : Hid (Value.int .u8 ((n : Int) % 128 + 128) = bval (UInt8.ofNat (n % 128 + 128))) := by unfold Hid; rw [bval_nat (by omega)]; congr 1
      go_enter Tryz.func42, Tryz.ntmps42
      go_wp2_with fail
      rw [show ((n : Int) / 128) = ((n / 128 : Nat) : Int) from by omega]
      refine (IH.out _ H1.out (by omega)).mono ?_
      rintro e w1 ⟨v1, rfl, hown, hchg, hnew⟩
      have hone : OwnB 5 w1 (.slice (some ⟨w.heap.size, 0, none⟩) 1 1) [UInt8.ofNat (n % 128 + 128)] := (OwnB.one_new _ HB.out).chg hchg (fun _ _ h => h)
      have hle : [UInt8.ofNat (n % 128 + 128)].length + (put (n / 128)).length ≤ 140737488355328 := by simp; omega
      go_wp2_with (at_builtin; go_must (refine wpList_append_bytes rfl (.tmp 12) (.tmp 15) 44 44 rfl bytesT _ Tryz.underlying44 (by intro _; simp) _ _ rfl hone _ _ rfl (Source.own hown) hle ?_); intro v2 w2 hown2 hg2 _)
      go_wp2
      go_ret
      refine ⟨_, rfl, by rw [HP.out]; exact hown2, (((Chg.refl _ _).alloc _).trans hchg (fun _ h => h.elim)).trans hg2.chg (fun i hi => .inr (by have h : w.heap.size = i := Option.some.inj hi; omega)), fun k hk => ?_⟩
      rcases hg2.own k hk with h | h
      · have h : w.heap.size = k := Option.some.inj h
        omega
      · have := hchg.size; simp at this; omega
end Go.Proofs.YtmaomebnigcgeaaGreatDoor
