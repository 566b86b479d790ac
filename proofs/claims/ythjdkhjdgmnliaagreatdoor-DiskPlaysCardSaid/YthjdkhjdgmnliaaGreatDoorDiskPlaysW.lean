/-
  DiskPlays, at any room and any list.
-/
import Derived.Test.YthjdkhjdgmnliaaGreatDoorDkPlV
set_option linter.unusedSimpArgs false
set_option linter.unusedVariables false
namespace Go.Proofs.YthjdkhjdgmnliaaGreatDoor
open Go.RowKit Go.Maps Go.Sort Go.Shelf

set_option maxHeartbeats 1000000 in
set_option maxRecDepth 100000 in
theorem diskPlays_any (room : Int) (xa : Option Addr) (xs : List Dc) (xc : Nat) (w : World) (hg : Handle w) (hok : ∀ x ∈ xs, x.Ok w) (hxa : DcsAt w xa xs) :
    Calls Tryz.prog 3 #[.int .i64 room, .slice xa xs.length xc] w fun e w' => e = .returned (.bool true) ∧ Chg Nil w w' := by
  by_cases hr : 0 ≤ room ∧ room ≤ 1048576
  · obtain ⟨r, rfl⟩ : ∃ r : Nat, room = (r : Int) := ⟨room.toNat, by omega⟩
    by_cases hl : xs.length ≤ 60
    · exact diskPlays_in r (by omega) xa xs xc w hl hok hxa hg
    · have h0 : ¬ (r : Int) < 0 := by omega
      have h1 : ¬ (1048576 : Int) < (r : Int) := by omega
      have h60 : (60 : Int) < (xs.length : Int) := by omega
      have HNEW := Lib.hid (new_any r (by omega) w)
      clear hok hxa hg hr hl
      go_enter Tryz.func3, Tryz.ntmps3
      go_wp2_with fail
      refine HNEW.out.mono ?_
      rintro e w1 ⟨p, mb, rfl, hp, hmb, hdm, hc1⟩
      have HC1 := Lib.hid hc1
      clear hp hmb hdm hc1 HNEW
      go_wp2_with fail
      go_ret
      exact ⟨rfl, HC1.out⟩
  · have HNEW := Lib.hid (new_bad room hr w)
    have HG := Lib.hid hg
    by_cases h0 : room < 0
    · clear hok hxa hg hr
      go_enter Tryz.func3, Tryz.ntmps3
      go_wp2_with fail
      refine HNEW.out.mono ?_
      rintro e w1 ⟨rfl, hc1⟩
      have HBA := Lib.hid (lawBare_any 2 w1 (HG.out.chg hc1 (fun h => h)))
      have he : errV 2 = .iface 29 (.int .i64 2) := rfl
      rw [he] at HBA
      have HC1 := Lib.hid hc1
      clear hc1 HNEW he
      go_wp2_with fail
      refine HBA.out.mono ?_
      rintro e w2 ⟨rfl, hc2⟩
      have HC2 := Lib.hid (HC1.out.trans hc2 (fun _ h => h.elim))
      clear hc2 HBA
      go_wp2_with fail
      go_ret
      exact ⟨rfl, HC2.out⟩
    · have h1 : (1048576 : Int) < room := by omega
      clear hok hxa hg hr
      go_enter Tryz.func3, Tryz.ntmps3
      go_wp2_with fail
      refine HNEW.out.mono ?_
      rintro e w1 ⟨rfl, hc1⟩
      have HBA := Lib.hid (lawBare_any 2 w1 (HG.out.chg hc1 (fun h => h)))
      have he : errV 2 = .iface 29 (.int .i64 2) := rfl
      rw [he] at HBA
      have HC1 := Lib.hid hc1
      clear hc1 HNEW he
      go_wp2_with fail
      refine HBA.out.mono ?_
      rintro e w2 ⟨rfl, hc2⟩
      have HC2 := Lib.hid (HC1.out.trans hc2 (fun _ h => h.elim))
      clear hc2 HBA
      go_wp2_with fail
      go_ret
      exact ⟨rfl, HC2.out⟩
end Go.Proofs.YthjdkhjdgmnliaaGreatDoor
