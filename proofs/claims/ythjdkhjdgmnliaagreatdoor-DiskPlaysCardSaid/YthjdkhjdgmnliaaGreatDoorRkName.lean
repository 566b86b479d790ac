/-
  The document's names of files (the walks of XNamesW, of this seat alone).
-/
import Derived.Test.YthjdkhjdgmnliaaGreatDoorRkDo
set_option linter.unusedSimpArgs false
namespace Go.Proofs.YthjdkhjdgmnliaaGreatDoor
open Go.RowKit Go.Shelf Go.Lib

set_option maxHeartbeats 1000000 in
/-- Whether a text is of these bytes alone. -/
theorem made_any (s cs : ByteArray) (w : World) (hs : s.size ≤ 1000) :
    Calls Tryz.prog 40 #[.string s, .string cs] w fun e w' => e = .returned (.bool (s.data.toList.all (cs.data.toList.contains ·))) ∧ w' = w := by
  have hcon : ∀ (c : Int), Calls Tryz.prog 54 #[.string cs, .int .u8 c] w fun e w' => e = .returned (.int .i64 (Lib.indexByte cs.data.toList c.toNat.toUInt8)) ∧ w' = w :=
    fun c => Any.strings_IndexByte Tryz.lays137 cs c w
  have hsz := list_size s
  go_enter Tryz.func40, Tryz.ntmps40
  go_wp2_with fail
  go_loopw [8] (fun i wr => ∃ k : Nat, k ≤ s.size ∧ i = .int .i64 k ∧ wr = w ∧ (s.data.toList.take k).all (cs.data.toList.contains ·) = true) (fun i _ => s.size - (RowKit.intOf i).toNat)
  case atStart => exact ⟨0, Nat.zero_le _, rfl, rfl, rfl⟩
  case round =>
    obtain ⟨k, hk, rfl, rfl, hall⟩ := hrel
    by_cases hlt : k < s.size
    · have hget : s.data.toList[k]? = some s[k] := by rw [Array.getElem?_toList]; exact Array.getElem?_eq_getElem hlt
      have hsnoc : s.data.toList.take (k + 1) = s.data.toList.take k ++ [s[k]] := by
        rw [List.take_add_one, hget]; rfl
      have hc := hcon (s[k].toNat : Int)
      have hc8 : ((s[k].toNat : Int)).toNat.toUInt8 = s[k] := by
        apply UInt8.toNat_inj.1
        rw [Int.toNat_natCast]
        simp
      rw [hc8] at hc
      have hneg := indexByte_neg (l := cs.data.toList) (c := s[k])
      have hHC := Lib.hid hc
      clear hc hcon
      by_cases hin : cs.data.toList.contains s[k] = true
      · have hni : ¬ Lib.indexByte cs.data.toList s[k] < 0 := fun h => by rw [hneg.1 h] at hin; cases hin
        clear hneg
        go_wp2_with (go_at_call 54; refine hHC.out.mono ?_; rintro e w' ⟨rfl, rfl⟩)
        go_roundw
        case rel => exact ⟨k + 1, by omega, by go_num, by simp, by rw [hsnoc, List.all_append, hall]; simpa using hin⟩
        case measure => simp [RowKit.intOf]; omega
      · have hni : Lib.indexByte cs.data.toList s[k] < 0 := hneg.2 (by simpa using hin)
        clear hneg
        go_wp2_with (go_at_call 54; refine hHC.out.mono ?_; rintro e w' ⟨rfl, rfl⟩)
        go_ret
        refine ⟨congrArg (fun b => Ending.returned (Value.bool b)) ?_, rfl⟩
        have : s.data.toList.all (cs.data.toList.contains ·) = false := by
          rw [List.all_eq_false]
          exact ⟨s[k], List.mem_of_getElem? hget, hin⟩
        rw [this]
    · have hkk : k = s.size := by omega
      rw [List.take_of_length_le (by omega)] at hall
      clear hcon
      go_wp2_with fail
      go_ret
      exact ⟨congrArg (fun b => Ending.returned (Value.bool b)) hall.symm, rfl⟩

set_option maxHeartbeats 1000000 in
theorem ref_disk_any (s : ByteArray) (w : World) (hs : s.size ≤ 1000) :
    Calls Tryz.prog 30 #[.string s] w fun e w' => e = .returned (.bool (nameOk 40 cutDisk s.data.toList)) ∧ w' = w := by
  have hcon := made_any s ⟨cutDisk.toArray⟩ w hs
  have hsz := list_size s
  change Calls Tryz.prog _ _ _ (fun e w' => e = .returned (.bool (s.data.toList.all (cutDisk.contains ·))) ∧ w' = w) at hcon
  generalize hr : s.data.toList.all (cutDisk.contains ·) = r at hcon
  have HR := Lib.hid hr
  clear hr
  have HE : Hid (nameOk 40 cutDisk s.data.toList = (!s.data.toList.isEmpty && decide (s.data.toList.length ≤ 40) && r)) := by unfold Hid nameOk; rw [HR.out]
  have he : s.data.toList.isEmpty = decide (s.size = 0) := by
    rw [Bool.eq_iff_iff, List.isEmpty_iff, decide_eq_true_eq, ← hsz, List.length_eq_zero_iff]
  have HI := Lib.hid he
  clear he
  by_cases h0 : s.size = 0
  · have hz : ¬ (0 : Int) < (s.size : Int) := by omega
    go_enter Tryz.func30, Tryz.ntmps30
    go_wp2_with fail
    go_ret
    exact ⟨congrArg (fun b => Ending.returned (Value.bool b)) (by rw [HE.out, HI.out, decide_eq_true h0]; rfl), rfl⟩
  · have hz : (0 : Int) < (s.size : Int) := by omega
    by_cases h1 : s.size ≤ 40
    · have hz1 : (s.size : Int) ≤ 40 := by omega
      go_enter Tryz.func30, Tryz.ntmps30
      go_wp2_with (go_at_call 40; refine hcon.mono ?_; rintro e w' ⟨rfl, rfl⟩)
      go_ret
      exact ⟨congrArg (fun b => Ending.returned (Value.bool b)) (by rw [HE.out, HI.out, decide_eq_false h0, decide_eq_true (show s.data.toList.length ≤ 40 by omega)]; cases r <;> rfl), rfl⟩
    · have hz1 : ¬ (s.size : Int) ≤ 40 := by omega
      go_enter Tryz.func30, Tryz.ntmps30
      go_wp2_with fail
      go_ret
      exact ⟨congrArg (fun b => Ending.returned (Value.bool b)) (by rw [HE.out, HI.out, decide_eq_false h0, decide_eq_false (show ¬ s.data.toList.length ≤ 40 by omega)]; rfl), rfl⟩

end Go.Proofs.YthjdkhjdgmnliaaGreatDoor
