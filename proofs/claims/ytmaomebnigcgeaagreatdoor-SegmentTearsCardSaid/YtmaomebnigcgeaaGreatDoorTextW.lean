/-
  The walks of text and Four.
-/
import Derived.Test.YtmaomebnigcgeaaGreatDoorNumW
namespace Go.Proofs.YtmaomebnigcgeaaGreatDoor
open Go.RowKit

/-- A text's bytes, behind how many they are. -/
def putText (s : ByteArray) : List UInt8 := put s.size ++ s.data.toList

set_option maxRecDepth 100000 in
theorem text_any (v : Value) (l : List UInt8) (s : ByteArray) (w : World) (hs : s.size ≤ 1000000) (hl : l.length ≤ 140737480000000) (hv : OwnB 5 w v l) :
    Calls Tryz.prog 68 #[v, .string s] w fun e w' => ∃ v', e = .returned v' ∧ OwnB 5 w' v' (l ++ putText s) ∧ Grew w w' v v' := by
  have hlen : (put s.size).length ≤ 6 := put_length (k := 5) (by omega)
  have hsrc : Source Tryz.prog w 1 (.string s) s.data.toList.length (s.data.toList.map bval) := Source.string s
  have hsl : s.data.toList.length = s.size := by rw [Array.length_toList]; rfl
  have HL := Lib.hid hsl
  clear hsl
  go_enter Tryz.func68, Tryz.ntmps68
  go_wp2_with fail
  refine (put_any v l s.size _ (by omega) (by omega) hv).mono ?_
  rintro e w1 ⟨v1, rfl, hown, hg⟩
  have hq : (l ++ put s.size).length + s.data.toList.length ≤ 140737488355328 := by rw [HL.out, List.length_append]; omega
  have hsrc1 : Source Tryz.prog w1 1 (.string s) s.data.toList.length (s.data.toList.map bval) := Source.string s
  go_wp2_with (at_builtin; go_must (refine wpList_append_bytes rfl (.tmp 8) (.tmp 9) 44 9 rfl bytesT _ Tryz.underlying9 (by intro _; simp) _ _ rfl hown _ s.data.toList rfl hsrc1 hq ?_); intro v2 w2 hown2 hg2 _)
  go_wp2
  go_ret
  exact ⟨_, rfl, by unfold putText; rw [← List.append_assoc]; exact hown2, hg.trans hg2⟩
end Go.Proofs.YtmaomebnigcgeaaGreatDoor
