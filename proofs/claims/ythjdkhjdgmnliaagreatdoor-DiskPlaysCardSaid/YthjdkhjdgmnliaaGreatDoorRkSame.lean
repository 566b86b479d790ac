/-
  The walk of the law's sameTexts, of lists that are the same.
-/
import Derived.Test.YthjdkhjdgmnliaaGreatDoorDkCrash
set_option linter.unusedSimpArgs false
set_option linter.unusedVariables false
namespace Go.Proofs.YthjdkhjdgmnliaaGreatDoor
open Go.RowKit Go.Maps

/-- The texts lie there. -/
def TextsIn (w : World) (v : Value) (l : List Nm) : Prop := ∃ a c, v = .slice a l.length c ∧ ∀ i (hi : i < l.length), ∃ q o, a = some ⟨q, o, none⟩ ∧ w.cell? ⟨q, o + i, none⟩ = some (encStr l[i])
theorem TextsIn.of_own {B : Nat} {w : World} {v : Value} {l : List Nm} (h : OwnS B w v l) : TextsIn w v l := by
  obtain ⟨a, c, hv, hc⟩ := h.val
  refine ⟨a, c, hv, fun i hi => ?_⟩
  obtain ⟨q, hq, _, hz⟩ := hc i hi
  exact ⟨q, 0, hq, by rw [Nat.zero_add]; exact hz⟩
theorem TextsIn.chg {S : Nat → Prop} {w w' : World} {v : Value} {l : List Nm} (h : TextsIn w v l) (hc : Chg S w w') (hn : ∀ k, ¬ S k) : TextsIn w' v l := by
  obtain ⟨a, c, hv, hz⟩ := h
  refine ⟨a, c, hv, fun i hi => ?_⟩
  obtain ⟨q, o, hq, hz⟩ := hz i hi
  exact ⟨q, o, hq, hc.cell hz (hn _)⟩

set_option maxHeartbeats 1000000 in
set_option maxRecDepth 100000 in
theorem sameTexts_any (u v : Value) (l : List Nm) (w : World) (hl : l.length ≤ 1000000) (hu : TextsIn w u l) (hv : TextsIn w v l) :
    Calls Tryz.prog 20 #[u, v] w fun e w' => e = .returned (.bool true) ∧ Chg Nil w w' := by
  obtain ⟨a, c, rfl, ha⟩ := hu
  obtain ⟨b, d, rfl, hb⟩ := hv
  have HA := Lib.hid ha
  have HB := Lib.hid hb
  clear ha hb
  go_enter Tryz.func20, Tryz.ntmps20
  go_wp2_with fail
  go_loopw [5] (fun i wr => ∃ (wq : World) (k : Nat), wq = wr ∧ k ≤ l.length ∧ i = .int .i64 k ∧ Chg Nil w wr) (fun i _ => l.length - (RowKit.intOf i).toNat)
  case atStart => exact ⟨_, 0, rfl, by omega, rfl, Chg.refl _ _⟩
  case round =>
    obtain ⟨wr, k, rfl, hk, rfl, hc⟩ := hrel
    by_cases hkl : k < l.length
    · have hki : (k : Int) < (l.length : Int) := by omega
      obtain ⟨b1, o1, rfl, h1⟩ := HA.out k hkl
      obtain ⟨b2, o2, rfl, h2⟩ := HB.out k hkl
      have y1 := hc.cell h1 (fun h => h)
      have y2 := hc.cell h2 (fun h => h)
      simp only [encStr] at y1 y2
      obtain ⟨x, hx⟩ : ∃ x, x = l[k] := ⟨_, rfl⟩
      rw [← hx] at y1 y2
      have hbx : (x == x) = true := beq_self_eq_true x
      clear h1 h2 hx
      go_upto_region 6 with fail
      go_quiet (fail)
      go_wp2_with fail
      go_roundw
      case rel => exact ⟨_, k + 1, rfl, by omega, by go_num, hc.drewN _⟩
      case measure => simp [RowKit.intOf]; omega
    · have hki : ¬ (k : Int) < (l.length : Int) := by omega
      obtain rfl : k = l.length := by omega
      go_wp2_with fail
      go_ret
      exact ⟨rfl, hc⟩
end Go.Proofs.YthjdkhjdgmnliaaGreatDoor
