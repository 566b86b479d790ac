/-
  The walk of the law's sameInts.
-/
import Derived.Test.YtdahefphohkhlaaDoorWhAdvW
import Derived.Test.YtdahefphohkhlaaDoorWhAddW
import Derived.Test.YtdahefphohkhlaaDoorWhZeroW
set_option linter.unusedSimpArgs false
set_option linter.unusedVariables false
namespace Go.Proofs.YtdahefphohkhlaaDoor
open Go.RowKit Go.Maps

theorem take_eq {l m : List Int} {i : Nat} (h : l.take i = m.take i) (hl : i < l.length) (hm : i < m.length) (e : l[i] = m[i]) : l.take (i + 1) = m.take (i + 1) := by
  rw [List.take_succ_eq_append_getElem hl, List.take_succ_eq_append_getElem hm, h, e]

set_option maxHeartbeats 1000000 in
set_option maxRecDepth 100000 in
theorem sameInts_any (a b : Option Addr) (l m : List Int) (c d : Nat) (w : World) (hl : l.length ≤ 1000000) (hm : m.length ≤ 1000000) (ha : IntsAt w a l) (hb : IntsAt w b m) :
    Calls Tryd.prog 9 #[.slice a l.length c, .slice b m.length d] w fun e w' => e = .returned (.bool (decide (l = m))) ∧ Chg Nil w w' := by
  have HA := Lib.hid ha
  have HB := Lib.hid hb
  clear ha hb
  go_enter Tryd.func9, Tryd.ntmps9
  by_cases hlm : l.length = m.length
  · have hli : (l.length : Int) = (m.length : Int) := by omega
    go_wp2_with fail
    go_loopw [5] (fun i wr => ∃ (wq : World) (k : Nat), wq = wr ∧ k ≤ l.length ∧ i = .int .i64 k ∧ Chg Nil w wr ∧ Hid (l.take k = m.take k)) (fun i _ => l.length - (RowKit.intOf i).toNat)
    case atStart => exact ⟨_, 0, rfl, by omega, rfl, Chg.refl _ _, rfl⟩
    case round =>
      obtain ⟨wr, k, rfl, hk, rfl, hc, HT⟩ := hrel
      by_cases hkl : k < l.length
      · have hki : (k : Int) < (l.length : Int) := by omega
        have hkm : (k : Int) < (m.length : Int) := by omega
        have hkm' : k < m.length := by omega
        obtain ⟨b1, o1, rfl, h1⟩ := HA.out k hkl
        obtain ⟨b2, o2, rfl, h2⟩ := HB.out k hkm'
        have y1 := hc.cell h1 (fun h => h)
        have y2 := hc.cell h2 (fun h => h)
        simp only [ival] at y1 y2
        have HLA : Hid (l[k] = l[k]) := rfl
        obtain ⟨x, hx⟩ : ∃ x, x = l[k] := ⟨_, rfl⟩
        obtain ⟨y, hy⟩ : ∃ y, y = m[k] := ⟨_, rfl⟩
        rw [← hx] at y1
        rw [← hy] at y2
        have HX := Lib.hid hx
        have HY := Lib.hid hy
        clear h1 h2 hx hy
        by_cases hxy : x = y
        · go_upto_region 6 with fail
          go_quiet (fail)
          go_wp2_with fail
          go_roundw
          case rel => exact ⟨_, k + 1, rfl, by omega, by go_num, hc.drewN _, take_eq HT.out hkl hkm' (by rw [← HX.out, ← HY.out, hxy])⟩
          case measure => simp [RowKit.intOf]; omega
        · go_upto_region 6 with fail
          go_quiet (fail)
          go_wp2_with fail
          go_ret
          refine ⟨?_, hc.drewN _⟩
          have : ¬ l = m := fun e => by subst e; exact hxy (by rw [HX.out, HY.out])
          simp [this]
      · have hki : ¬ (k : Int) < (l.length : Int) := by omega
        obtain rfl : k = l.length := by omega
        go_wp2_with fail
        go_ret
        refine ⟨?_, hc⟩
        have h := HT.out
        rw [List.take_length, hlm, List.take_length] at h
        simp [h]
  · have hli : ¬ (l.length : Int) = (m.length : Int) := by omega
    go_wp2_with fail
    go_ret
    have : ¬ l = m := fun e => hlm (by rw [e])
    exact ⟨by simp [this], Chg.refl _ _⟩
end Go.Proofs.YtdahefphohkhlaaDoor
