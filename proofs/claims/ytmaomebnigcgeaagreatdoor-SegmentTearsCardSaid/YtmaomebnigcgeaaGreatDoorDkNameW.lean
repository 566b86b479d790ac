/-
  The walk of disk.Name.
-/
import Derived.Test.YtmaomebnigcgeaaGreatDoorShelf
import Derived.Test.YtmaomebnigcgeaaGreatDoorNamesL
import Derived.WalkKit
import Derived.Tactics
import Derived.Tactics2
import Derived.KernelRfl
import Derived.RowKit
import Derived.Lib.Walk
import Derived.Lib.Hide
set_option linter.unusedSimpArgs false
namespace Go.Proofs.YtmaomebnigcgeaaGreatDoor
open Go.RowKit Go.Shelf Go.Lib

theorem list_toList (s : ByteArray) : s.toList = s.data.toList := ByteArray.toList_eq s
theorem list_size (s : ByteArray) : s.data.toList.length = s.size := by rw [Array.length_toList]; rfl

set_option maxHeartbeats 1000000 in
theorem disk_any (s : ByteArray) (w : World) (hs : s.size ≤ 9223372036854775807) :
    Calls Tryz.prog 60 #[.string s] w fun e w' => e = .returned (.bool (nameOk 40 cutDisk s.data.toList)) ∧ Below w.heap.size w w' := by
  have hcon := Any.strings_Trim_laid Tryz.lays160 (by kernel_rfl) s ⟨cutDisk.toArray⟩ w hs (by decide) (ascii_of_all (by decide))
  change Calls Tryz.prog 84 _ _ (fun e w' => e = .returned (.string ⟨(Lib.trimS s.data.toList cutDisk).toArray⟩) ∧ Below w.heap.size w w') at hcon
  have hsz := list_size s
  have hB0 := Below.refl w.heap.size w
  go_enter Tryz.func60, Tryz.ntmps60
  go_wp2_with (go_at_call 84; refine hcon.mono ?_; rintro e w' ⟨rfl, hB⟩)
  · have h0 : s.toList = [] := by assumption
    go_ret
    refine ⟨congrArg (fun b => Ending.returned (Value.bool b)) ?_, hB0⟩
    rw [list_toList] at h0
    rw [h0]; rfl
  · have h0 : ¬ s.toList = [] := by assumption
    have h1 : (s.size : Int) ≤ 40 := by assumption
    go_ret
    refine ⟨congrArg (fun b => Ending.returned (Value.bool b)) ?_, hB⟩
    rw [list_toList]
    have e : (trimS s.data.toList cutDisk).isEmpty = s.data.toList.all (cutDisk.contains ·) := by
      rw [Bool.eq_iff_iff, List.isEmpty_iff, trim_nil]
    rw [e]
    unfold nameOk
    rw [decide_eq_true (show s.data.toList.length ≤ 40 by omega), Bool.and_true]
  · have h1 : (40 : Int) < (s.size : Int) := by assumption
    go_ret
    refine ⟨congrArg (fun b => Ending.returned (Value.bool b)) ?_, hB0⟩
    unfold nameOk
    rw [decide_eq_false (show ¬ s.data.toList.length ≤ 40 by omega), Bool.and_false, Bool.false_and]

end Go.Proofs.YtmaomebnigcgeaaGreatDoor
