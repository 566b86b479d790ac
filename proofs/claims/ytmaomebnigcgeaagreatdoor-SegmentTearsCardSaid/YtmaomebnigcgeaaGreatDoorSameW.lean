/-
  The walk of Same, where both lists are the same.
-/
import Derived.Test.YtmaomebnigcgeaaGreatDoorRecL
import Derived.Test.YtmaomebnigcgeaaGreatDoorGetW
import Derived.Deep.QuietTactic
import Derived.BigQuiet
namespace Go.Proofs.YtmaomebnigcgeaaGreatDoor
open Go.RowKit

set_option maxHeartbeats 400000 in
set_option maxRecDepth 100000 in
theorem same_any (x y : Option Addr) (rs : List Rec) (cx cy : Nat) (w : World) (hl : rs.length ≤ maxLen) (hx : RecsAt w x rs) (hy : RecsAt w y rs) :
    Calls Tryz.prog 35 #[.slice x rs.length cx, .slice y rs.length cy] w fun e w' => e = .returned (.bool true) ∧ Chg Nil w w' := by
  unfold maxLen at hl
  go_enter Tryz.func35, Tryz.ntmps35
  go_wp2
  go_loopw [13] (fun i wr => ∃ k : Nat, k ≤ rs.length ∧ i = .int .i64 k ∧ Chg Nil w wr) (fun i _ => rs.length - (intOf i).toNat)
  case atStart => exact ⟨0, Nat.zero_le _, rfl, Chg.refl _ _⟩
  case round =>
    obtain ⟨k, hk, rfl, hch⟩ := hrel
    by_cases hlt : k < rs.length
    · obtain ⟨b, off, rfl, hc⟩ := RecsAt.chg hch hx (fun _ _ h => h) k hlt
      obtain ⟨b2, off2, rfl, hd⟩ := RecsAt.chg hch hy (fun _ _ h => h) k hlt
      have g0 : wr.cell? ⟨b, off + k * 6, none⟩ = _ := hc 0 _ rfl
      have g1 := hc 1 _ rfl
      have g2 := hc 2 _ rfl
      have g3 := hc 3 _ rfl
      have g4 := hc 4 _ rfl
      have g5 := hc 5 _ rfl
      have k0 : wr.cell? ⟨b2, off2 + k * 6, none⟩ = _ := hd 0 _ rfl
      have k1 := hd 1 _ rfl
      have k2 := hd 2 _ rfl
      have k3 := hd 3 _ rfl
      have k4 := hd 4 _ rfl
      have k5 := hd 5 _ rfl
      clear hc hd hx hy
      generalize rs[k] = r at *
      obtain ⟨ro, rt, rk, rkey, rg, rval⟩ := r
      simp only at g0 g1 g2 g3 g4 g5 k0 k1 k2 k3 k4 k5
      go_wp2_with fail
      go_quiet (fail)
      go_wp2_with fail
      go_roundw
      case rel => exact ⟨k + 1, by omega, by go_num, hch.drewN _⟩
      case measure => simp [intOf]; omega
    · go_wp2_with fail
      go_ret
      exact ⟨rfl, hch⟩
end Go.Proofs.YtmaomebnigcgeaaGreatDoor
