/-
  The walks of the two packages' names, of the document's, and of the two laws.
-/
import Derived.Test.YtdgdfbeldcopfaaDoorShelf
import Derived.Test.YtdgdfbeldcopfaaDoorNamesL
import Derived.WalkKit
import Derived.Tactics
import Derived.Tactics2
import Derived.KernelRfl
import Derived.RowKit
import Derived.Lib.Walk
import Derived.Lib.Hide
set_option linter.unusedSimpArgs false
namespace Go.Proofs.YtdgdfbeldcopfaaDoor
open Go.RowKit Go.Shelf Go.Lib

theorem list_toList (s : ByteArray) : s.toList = s.data.toList := ByteArray.toList_eq s
theorem list_size (s : ByteArray) : s.data.toList.length = s.size := by rw [Array.length_toList]; rfl

set_option maxHeartbeats 1000000 in
theorem disk_any (s : ByteArray) (w : World) (hs : s.size ≤ 9223372036854775807) :
    Calls Tryd.prog 5 #[.string s] w fun e w' => e = .returned (.bool (nameOk 40 cutDisk s.data.toList)) ∧ Below w.heap.size w w' := by
  have hcon := Any.strings_Trim_laid Tryd.lays160 (by kernel_rfl) s ⟨cutDisk.toArray⟩ w hs (by decide) (ascii_of_all (by decide))
  change Calls Tryd.prog 9 _ _ (fun e w' => e = .returned (.string ⟨(Lib.trimS s.data.toList cutDisk).toArray⟩) ∧ Below w.heap.size w w') at hcon
  have hsz := list_size s
  have hB0 := Below.refl w.heap.size w
  go_enter Tryd.func5, Tryd.ntmps5
  go_wp2_with (go_at_call 9; refine hcon.mono ?_; rintro e w' ⟨rfl, hB⟩)
  · have h0 : s.toList = [] := by assumption
    go_ret
    refine ⟨congrArg (fun b => Ending.returned (Value.bool b)) ?_, hB0⟩
    rw [list_toList] at h0
    rw [h0]; rfl
  · have h0 : ¬ s.toList = [] := by assumption
    have h1 : (s.size : Int) ≤ 40 := by assumption
    go_ret
    refine ⟨congrArg (fun b => Ending.returned (Value.bool b)) ?_, hB⟩
    rw [list_toList]
    have e : (trimS s.data.toList cutDisk).isEmpty = s.data.toList.all (cutDisk.contains ·) := by
      rw [Bool.eq_iff_iff, List.isEmpty_iff, trim_nil]
    rw [e]
    unfold nameOk
    rw [decide_eq_true (show s.data.toList.length ≤ 40 by omega), Bool.and_true]
  · have h1 : (40 : Int) < (s.size : Int) := by assumption
    go_ret
    refine ⟨congrArg (fun b => Ending.returned (Value.bool b)) ?_, hB0⟩
    unfold nameOk
    rw [decide_eq_false (show ¬ s.data.toList.length ≤ 40 by omega), Bool.and_false, Bool.false_and]

set_option maxHeartbeats 1000000 in
theorem topic_any (s : ByteArray) (w : World) (hs : s.size ≤ 9223372036854775807) :
    Calls Tryd.prog 7 #[.string s] w fun e w' => e = .returned (.bool (nameOk 10 cutTopic s.data.toList)) ∧ Below w.heap.size w w' := by
  have hcon := Any.strings_Trim_laid Tryd.lays160 (by kernel_rfl) s ⟨cutTopic.toArray⟩ w hs (by decide) (ascii_of_all (by decide))
  change Calls Tryd.prog 9 _ _ (fun e w' => e = .returned (.string ⟨(Lib.trimS s.data.toList cutTopic).toArray⟩) ∧ Below w.heap.size w w') at hcon
  have hsz := list_size s
  have hB0 := Below.refl w.heap.size w
  go_enter Tryd.func7, Tryd.ntmps7
  go_wp2_with (go_at_call 9; refine hcon.mono ?_; rintro e w' ⟨rfl, hB⟩)
  · have h0 : s.toList = [] := by assumption
    go_ret
    refine ⟨congrArg (fun b => Ending.returned (Value.bool b)) ?_, hB0⟩
    rw [list_toList] at h0
    rw [h0]; rfl
  · have h0 : ¬ s.toList = [] := by assumption
    have h1 : (s.size : Int) ≤ 10 := by assumption
    go_ret
    refine ⟨congrArg (fun b => Ending.returned (Value.bool b)) ?_, hB⟩
    rw [list_toList]
    have e : (trimS s.data.toList cutTopic).isEmpty = s.data.toList.all (cutTopic.contains ·) := by
      rw [Bool.eq_iff_iff, List.isEmpty_iff, trim_nil]
    rw [e]
    unfold nameOk
    rw [decide_eq_true (show s.data.toList.length ≤ 10 by omega), Bool.and_true]
  · have h1 : (10 : Int) < (s.size : Int) := by assumption
    go_ret
    refine ⟨congrArg (fun b => Ending.returned (Value.bool b)) ?_, hB0⟩
    unfold nameOk
    rw [decide_eq_false (show ¬ s.data.toList.length ≤ 10 by omega), Bool.and_false, Bool.false_and]

set_option maxHeartbeats 1000000 in
/-- Whether a text is of these bytes alone. -/
theorem made_any (s cs : ByteArray) (w : World) (hs : s.size ≤ 1000) :
    Calls Tryd.prog 10 #[.string s, .string cs] w fun e w' => e = .returned (.bool (s.data.toList.all (cs.data.toList.contains ·))) ∧ w' = w := by
  have hcon : ∀ (c : Int), Calls Tryd.prog 18 #[.string cs, .int .u8 c] w fun e w' => e = .returned (.int .i64 (Lib.indexByte cs.data.toList c.toNat.toUInt8)) ∧ w' = w :=
    fun c => Any.strings_IndexByte Tryd.lays137 cs c w
  have hsz := list_size s
  go_enter Tryd.func10, Tryd.ntmps10
  go_wp2_with fail
  go_loopw [8] (fun i wr => ∃ k : Nat, k ≤ s.size ∧ i = .int .i64 k ∧ wr = w ∧ (s.data.toList.take k).all (cs.data.toList.contains ·) = true) (fun i _ => s.size - (RowKit.intOf i).toNat)
  case atStart => exact ⟨0, Nat.zero_le _, rfl, rfl, rfl⟩
  case round =>
    obtain ⟨k, hk, rfl, rfl, hall⟩ := hrel
    by_cases hlt : k < s.size
    · have hget : s.data.toList[k]? = some s[k] := by rw [Array.getElem?_toList]; exact Array.getElem?_eq_getElem hlt
      have hsnoc : s.data.toList.take (k + 1) = s.data.toList.take k ++ [s[k]] := by
        rw [List.take_add_one, hget]; rfl
      have hc := hcon (s[k].toNat : Int)
      have hc8 : ((s[k].toNat : Int)).toNat.toUInt8 = s[k] := by
        apply UInt8.toNat_inj.1
        rw [Int.toNat_natCast]
        simp
      rw [hc8] at hc
      have hneg := indexByte_neg (l := cs.data.toList) (c := s[k])
      have hHC := Lib.hid hc
      clear hc hcon
      by_cases hin : cs.data.toList.contains s[k] = true
      · have hni : ¬ Lib.indexByte cs.data.toList s[k] < 0 := fun h => by rw [hneg.1 h] at hin; cases hin
        clear hneg
        go_wp2_with (go_at_call 18; refine hHC.out.mono ?_; rintro e w' ⟨rfl, rfl⟩)
        go_roundw
        case rel => exact ⟨k + 1, by omega, by go_num, by simp, by rw [hsnoc, List.all_append, hall]; simpa using hin⟩
        case measure => simp [RowKit.intOf]; omega
      · have hni : Lib.indexByte cs.data.toList s[k] < 0 := hneg.2 (by simpa using hin)
        clear hneg
        go_wp2_with (go_at_call 18; refine hHC.out.mono ?_; rintro e w' ⟨rfl, rfl⟩)
        go_ret
        refine ⟨congrArg (fun b => Ending.returned (Value.bool b)) ?_, rfl⟩
        have : s.data.toList.all (cs.data.toList.contains ·) = false := by
          rw [List.all_eq_false]
          exact ⟨s[k], List.mem_of_getElem? hget, hin⟩
        rw [this]
    · have hkk : k = s.size := by omega
      rw [List.take_of_length_le (by omega)] at hall
      clear hcon
      go_wp2_with fail
      go_ret
      exact ⟨congrArg (fun b => Ending.returned (Value.bool b)) hall.symm, rfl⟩

set_option maxHeartbeats 1000000 in
theorem ref_disk_any (s : ByteArray) (w : World) (hs : s.size ≤ 1000) :
    Calls Tryd.prog 6 #[.string s] w fun e w' => e = .returned (.bool (nameOk 40 cutDisk s.data.toList)) ∧ w' = w := by
  have hcon := made_any s ⟨cutDisk.toArray⟩ w hs
  have hsz := list_size s
  change Calls Tryd.prog _ _ _ (fun e w' => e = .returned (.bool (s.data.toList.all (cutDisk.contains ·))) ∧ w' = w) at hcon
  generalize hr : s.data.toList.all (cutDisk.contains ·) = r at hcon
  have HR := Lib.hid hr
  clear hr
  have HE : Hid (nameOk 40 cutDisk s.data.toList = (!s.data.toList.isEmpty && decide (s.data.toList.length ≤ 40) && r)) := by unfold Hid nameOk; rw [HR.out]
  have he : s.data.toList.isEmpty = decide (s.size = 0) := by
    rw [Bool.eq_iff_iff, List.isEmpty_iff, decide_eq_true_eq, ← hsz, List.length_eq_zero_iff]
  have HI := Lib.hid he
  clear he
  by_cases h0 : s.size = 0
  · have hz : ¬ (0 : Int) < (s.size : Int) := by omega
    go_enter Tryd.func6, Tryd.ntmps6
    go_wp2_with fail
    go_ret
    exact ⟨congrArg (fun b => Ending.returned (Value.bool b)) (by rw [HE.out, HI.out, decide_eq_true h0]; rfl), rfl⟩
  · have hz : (0 : Int) < (s.size : Int) := by omega
    by_cases h1 : s.size ≤ 40
    · have hz1 : (s.size : Int) ≤ 40 := by omega
      go_enter Tryd.func6, Tryd.ntmps6
      go_wp2_with (go_at_call 10; refine hcon.mono ?_; rintro e w' ⟨rfl, rfl⟩)
      go_ret
      exact ⟨congrArg (fun b => Ending.returned (Value.bool b)) (by rw [HE.out, HI.out, decide_eq_false h0, decide_eq_true (show s.data.toList.length ≤ 40 by omega)]; cases r <;> rfl), rfl⟩
    · have hz1 : ¬ (s.size : Int) ≤ 40 := by omega
      go_enter Tryd.func6, Tryd.ntmps6
      go_wp2_with fail
      go_ret
      exact ⟨congrArg (fun b => Ending.returned (Value.bool b)) (by rw [HE.out, HI.out, decide_eq_false h0, decide_eq_false (show ¬ s.data.toList.length ≤ 40 by omega)]; rfl), rfl⟩

set_option maxHeartbeats 1000000 in
theorem law_disk_any (s : ByteArray) (w : World) (hs : s.size ≤ 9223372036854775807) :
    Calls Tryd.prog 3 #[.string s] w fun e w' => e = .returned (.bool true) ∧ Below w.heap.size w w' := by
  have hB0 := Below.refl w.heap.size w
  by_cases h : 100 < s.size
  · have hz : (100 : Int) < (s.size : Int) := by omega
    go_enter Tryd.func3, Tryd.ntmps3
    go_wp2_with fail
    go_ret
    exact ⟨rfl, hB0⟩
  · have hz : ¬ (100 : Int) < (s.size : Int) := by omega
    have h1 := disk_any s w hs
    have h2 := fun w' => ref_disk_any s w' (by omega)
    generalize nameOk 40 cutDisk s.data.toList = r at *
    go_enter Tryd.func3, Tryd.ntmps3
    go_wp2_with fail
    refine h1.mono ?_
    rintro e w1 ⟨rfl, hB⟩
    go_wp2_with fail
    refine (h2 w1).mono ?_
    rintro e w2 ⟨rfl, rfl⟩
    go_wp2_with fail
    go_ret
    exact ⟨congrArg (fun b => Ending.returned (Value.bool b)) (by cases r <;> rfl), hB⟩

set_option maxHeartbeats 1000000 in
theorem ref_topic_any (s : ByteArray) (w : World) (hs : s.size ≤ 1000) :
    Calls Tryd.prog 8 #[.string s] w fun e w' => e = .returned (.bool (nameOk 10 cutTopic s.data.toList)) ∧ w' = w := by
  have hcon := made_any s ⟨cutTopic.toArray⟩ w hs
  have hsz := list_size s
  change Calls Tryd.prog _ _ _ (fun e w' => e = .returned (.bool (s.data.toList.all (cutTopic.contains ·))) ∧ w' = w) at hcon
  generalize hr : s.data.toList.all (cutTopic.contains ·) = r at hcon
  have HR := Lib.hid hr
  clear hr
  have HE : Hid (nameOk 10 cutTopic s.data.toList = (!s.data.toList.isEmpty && decide (s.data.toList.length ≤ 10) && r)) := by unfold Hid nameOk; rw [HR.out]
  have he : s.data.toList.isEmpty = decide (s.size = 0) := by
    rw [Bool.eq_iff_iff, List.isEmpty_iff, decide_eq_true_eq, ← hsz, List.length_eq_zero_iff]
  have HI := Lib.hid he
  clear he
  by_cases h0 : s.size = 0
  · have hz : ¬ (0 : Int) < (s.size : Int) := by omega
    go_enter Tryd.func8, Tryd.ntmps8
    go_wp2_with fail
    go_ret
    exact ⟨congrArg (fun b => Ending.returned (Value.bool b)) (by rw [HE.out, HI.out, decide_eq_true h0]; rfl), rfl⟩
  · have hz : (0 : Int) < (s.size : Int) := by omega
    by_cases h1 : s.size ≤ 10
    · have hz1 : (s.size : Int) ≤ 10 := by omega
      go_enter Tryd.func8, Tryd.ntmps8
      go_wp2_with (go_at_call 10; refine hcon.mono ?_; rintro e w' ⟨rfl, rfl⟩)
      go_ret
      exact ⟨congrArg (fun b => Ending.returned (Value.bool b)) (by rw [HE.out, HI.out, decide_eq_false h0, decide_eq_true (show s.data.toList.length ≤ 10 by omega)]; cases r <;> rfl), rfl⟩
    · have hz1 : ¬ (s.size : Int) ≤ 10 := by omega
      go_enter Tryd.func8, Tryd.ntmps8
      go_wp2_with fail
      go_ret
      exact ⟨congrArg (fun b => Ending.returned (Value.bool b)) (by rw [HE.out, HI.out, decide_eq_false h0, decide_eq_false (show ¬ s.data.toList.length ≤ 10 by omega)]; rfl), rfl⟩

set_option maxHeartbeats 1000000 in
theorem law_topic_any (s : ByteArray) (w : World) (hs : s.size ≤ 9223372036854775807) :
    Calls Tryd.prog 4 #[.string s] w fun e w' => e = .returned (.bool true) ∧ Below w.heap.size w w' := by
  have hB0 := Below.refl w.heap.size w
  by_cases h : 100 < s.size
  · have hz : (100 : Int) < (s.size : Int) := by omega
    go_enter Tryd.func4, Tryd.ntmps4
    go_wp2_with fail
    go_ret
    exact ⟨rfl, hB0⟩
  · have hz : ¬ (100 : Int) < (s.size : Int) := by omega
    have h1 := topic_any s w hs
    have h2 := fun w' => ref_topic_any s w' (by omega)
    generalize nameOk 10 cutTopic s.data.toList = r at *
    go_enter Tryd.func4, Tryd.ntmps4
    go_wp2_with fail
    refine h1.mono ?_
    rintro e w1 ⟨rfl, hB⟩
    go_wp2_with fail
    refine (h2 w1).mono ?_
    rintro e w2 ⟨rfl, rfl⟩
    go_wp2_with fail
    go_ret
    exact ⟨congrArg (fun b => Ending.returned (Value.bool b)) (by cases r <;> rfl), hB⟩

end Go.Proofs.YtdgdfbeldcopfaaDoor
