/-
  The walk of Add.
-/
import Derived.Test.YtdahefphohkhlaaDoorWhNextW
import Derived.Carry
set_option linter.unusedSimpArgs false
set_option linter.unusedVariables false
namespace Go.Proofs.YtdahefphohkhlaaDoor
open Go.RowKit Go.Maps

/-- What adding a timer leaves. -/
def AddPost (w : World) (p : Nat) (s : Wh) (ids : List Int) (added : Nat) (sv : Nat → Value) (mb : Option Nat) (w' : World) : Prop :=
  ∃ sv' mb', Wl w' p s ids added sv' mb' ∧ Chg (Has p sv mb) w w' ∧ ∀ i, Has p sv' mb' i → Has p sv mb i ∨ w.heap.size ≤ i

theorem add_range {w : World} {p : Nat} (a id : Int) (h : a < 0 ∨ 1099511627776 < a) :
    Calls Tryd.prog 6 #[.pointer (some ⟨p, 0, none⟩), .int .i64 a, .int .i64 id] w fun e w' => e = .returned (.iface 34 (.int .i64 2)) ∧ w' = w := by
  go_enter Tryd.func6, Tryd.ntmps6
  by_cases h1 : a < 0
  · go_wp2_with fail
    go_ret
    exact ⟨rfl, rfl⟩
  · have h2 : 1099511627776 < a := by omega
    go_wp2_with fail
    go_ret
    exact ⟨rfl, rfl⟩
theorem add_twice {w : World} {p : Nat} {s : Wh} {ids : List Int} {added : Nat} {sv : Nat → Value} {mb : Option Nat} (h : Wl w p s ids added sv mb) (a id : Int) (h1 : 0 ≤ a) (h2 : a ≤ 1099511627776) (hw : (Lit.int .i64 id).wf = true) (hid : id ∈ ids) :
    Calls Tryd.prog 6 #[.pointer (some ⟨p, 0, none⟩), .int .i64 a, .int .i64 id] w fun e w' => e = .returned (.iface 34 (.int .i64 9)) ∧ w' = w := by
  have cm := h.cm
  have hlook := h.ids.look hw
  have hdec : decide (id ∈ ids) = true := by simp [hid]
  rw [hdec] at hlook
  clear h hdec hid hw
  have h1' : ¬ a < 0 := by omega
  have h2' : ¬ 1099511627776 < a := by omega
  go_enter Tryd.func6, Tryd.ntmps6
  go_wp2_with fail
  go_ret
  exact ⟨rfl, rfl⟩

set_option maxHeartbeats 1000000 in
set_option maxRecDepth 100000 in
theorem add_ok {w : World} {p : Nat} {s : Wh} {ids : List Int} {added : Nat} {sv : Nat → Value} {mb : Option Nat} (h : Wl w p s ids added sv mb) (a : Nat) (id : Int) (h2 : a ≤ 1099511627776) (hw : (Lit.int .i64 id).wf = true) (hid : id ∉ ids)
    (hlen : ids.length < 10000) (hadd : added ≤ 1000000) (hml : ∀ j, j < 449 → (s.sl j).length ≤ 1000000) :
    Calls Tryd.prog 6 #[.pointer (some ⟨p, 0, none⟩), .int .i64 (a : Nat), .int .i64 id] w fun e w' => e = .returned .nilIface ∧ AddPost w p (putS s ⟨a, id, added + 1⟩) (ids ++ [id]) (added + 1) sv mb w' := by
  have HML := Lib.hid hml
  have HWF := Lib.hid hw
  have cm := h.cm
  have HW := Lib.hid h
  have hlook := h.ids.look hw
  have hln := h.ids.len
  have hdec : decide (id ∈ ids) = false := by simp [hid]
  rw [hdec] at hlook
  have HID := Lib.hid hid
  have hplt := h.lt p (.inl rfl)
  have hf := h.fr 450
  have HL := Lib.hid hlen
  have hl4 : ¬ (ids.length : Int) = 10000 := by omega
  clear h hdec hid hw hml hlen
  have h1' : ¬ (a : Int) < 0 := by omega
  have h2' : ¬ 1099511627776 < (a : Int) := by omega
  have hmm := @run_makeMap Tryd.prog
  have hmn := fun (w : World) (r : Option Nat) => run_eql_map_nil (P := Tryd.prog) w 26 _ _ r Tryd.underlying26
  cases mb with
  | some b =>
    go_enter Tryd.func6, Tryd.ntmps6
    have HI := Lib.hid HW.out.ids
    have hcA : Chg (Has p sv (some b)) w w := Chg.refl _ _
    have hhA : ∀ i, Has p sv (some b) i → Has p sv (some b) i ∨ w.heap.size ≤ i := fun i h => .inl h
    have HWA := HW
    go_wp2_with (at_mapUpdate; refine wpList_ids_store rfl (.tmp 43) (.tmp 44) _ rfl b ids rfl HI.out (by have := HL.out; unfold maxLen; omega) id rfl HWF.out HID.out rfl ?_; intro w2 hi2 hc2; have HW2 := Lib.hid (HWA.out.turned hc2 hi2); have ca := HW2.out.ca; have fa := HW2.out.fr 451; have HC2 := Lib.hid hc2; clear hi2 hc2)
    have hw3 := HW2.out.count (added + 1)
    rw [show ((added + 1 : Nat) : Int) = (added : Int) + 1 by omega] at hw3
    have hc3 := setCell_chg w2 p 451 (.int .i64 ((added : Int) + 1))
    have HW3 := Lib.hid hw3
    clear hw3 ca fa HW2
    generalize w2.setCell ⟨p, 451, none⟩ (.int .i64 ((added : Int) + 1)) = w3 at *
    have HPUT : Hid (Calls Tryd.prog 13 #[.pointer (some ⟨p, 0, none⟩), .agg #[.int .i64 (a : Nat), .int .i64 id, .int .i64 ((added : Int) + 1)]] w3 fun e w' => e = .returned (.tuple #[]) ∧ PutPost w3 p (putS s ⟨a, id, added + 1⟩) (ids ++ [id]) (added + 1) sv (some b) w') := put_any HW3.out ⟨a, id, added + 1⟩ HML.out
    refine HPUT.out.mono ?_
    rintro e w4 ⟨rfl, sv', hw4, hc4, hh4⟩
    have HW4 := Lib.hid hw4
    clear hw4
    go_wp2_with fail
    go_ret
    refine ⟨rfl, sv', some b, HW4.out, ?_, fun i hi => ?_⟩
    · have h1 := (hcA.trans HC2.out (fun i h => hhA i (.inr (.inl (by rw [h]))))).trans hc3 (fun i h => .inl (.inl h))
      exact h1.trans hc4 (fun i h => hhA i h)
    · rcases hh4 i hi with h | h
      · exact hhA i h
      · exact .inr (by have := hcA.size; have := HC2.out.size; have := hc3.size; omega)
  | none =>
    obtain ⟨rfl, hWm⟩ := HW.out.mapped
    go_enter Tryd.func6, Tryd.ntmps6
    go_upto_region 9 with fail
    have hcA : Chg (Has p sv none) w ((w.alloc (.map #[] 0)).setCell ⟨p, 450, none⟩ (.map (some w.heap.size))) := (((Chg.refl Nil w).alloc _).weak (fun _ h => h.elim)).trans (setCell_chg _ p _ _) (fun i h => .inl (.inl h))
    have hhA : ∀ i, Has p sv (some w.heap.size) i → Has p sv none i ∨ w.heap.size ≤ i := fun i hi => by
      rcases hi with h | h | h
      · exact .inl (.inl h)
      · exact .inr (by have := Option.some.inj h; omega)
      · exact .inl (.inr (.inr h))
    have hsw : ((w.alloc (.map #[] 0)).setCell ⟨p, 450, none⟩ (.map (some w.heap.size))) = ((w.setCell ⟨p, 450, none⟩ (.map (some w.heap.size))).alloc (.map #[] 0)) := World.setCell_alloc_past (.map #[] 0) p 450 (.map (some w.heap.size)) hplt
    rw [hsw] at hWm hcA
    have HWA := Lib.hid hWm
    clear hWm cm hf hsw
    generalize ((w.setCell ⟨p, 450, none⟩ (.map (some w.heap.size))).alloc (.map #[] 0)) = wa at *
    obtain ⟨b, hb⟩ : ∃ b, b = w.heap.size := ⟨_, rfl⟩
    rw [← hb] at HWA hhA
    have HB := Lib.hid hb
    rw [← hb]
    have hhA' : ∀ i, Has p sv (some b) i → Has p sv none i ∨ w.heap.size ≤ i := fun i h => by rw [← HB.out]; exact hhA i h
    clear hb hhA
    have hhA := hhA'
    clear hhA'
    have cm := HWA.out.cm
    have HI := Lib.hid HWA.out.ids
    go_wp2_with (at_mapUpdate; refine wpList_ids_store rfl (.tmp 43) (.tmp 44) _ rfl b ([] : List Int) rfl HI.out (by have := HL.out; unfold maxLen; omega) id rfl HWF.out HID.out rfl ?_; intro w2 hi2 hc2; have HW2 := Lib.hid (HWA.out.turned hc2 hi2); have ca := HW2.out.ca; have fa := HW2.out.fr 451; have HC2 := Lib.hid hc2; clear hi2 hc2)
    have hw3 := HW2.out.count (added + 1)
    rw [show ((added + 1 : Nat) : Int) = (added : Int) + 1 by omega] at hw3
    have hc3 := setCell_chg w2 p 451 (.int .i64 ((added : Int) + 1))
    have HW3 := Lib.hid hw3
    clear hw3 ca fa HW2
    generalize w2.setCell ⟨p, 451, none⟩ (.int .i64 ((added : Int) + 1)) = w3 at *
    have HPUT : Hid (Calls Tryd.prog 13 #[.pointer (some ⟨p, 0, none⟩), .agg #[.int .i64 (a : Nat), .int .i64 id, .int .i64 ((added : Int) + 1)]] w3 fun e w' => e = .returned (.tuple #[]) ∧ PutPost w3 p (putS s ⟨a, id, added + 1⟩) (([] : List Int) ++ [id]) (added + 1) sv (some b) w') := put_any HW3.out ⟨a, id, added + 1⟩ HML.out
    refine HPUT.out.mono ?_
    rintro e w4 ⟨rfl, sv', hw4, hc4, hh4⟩
    have HW4 := Lib.hid hw4
    clear hw4
    go_wp2_with fail
    go_ret
    refine ⟨rfl, sv', some b, HW4.out, ?_, fun i hi => ?_⟩
    · have h1 := (hcA.trans HC2.out (fun i h => hhA i (.inr (.inl (by rw [h]))))).trans hc3 (fun i h => .inl (.inl h))
      exact h1.trans hc4 (fun i h => hhA i h)
    · rcases hh4 i hi with h | h
      · exact hhA i h
      · exact .inr (by have := hcA.size; have := HC2.out.size; have := hc3.size; omega)
end Go.Proofs.YtdahefphohkhlaaDoor
