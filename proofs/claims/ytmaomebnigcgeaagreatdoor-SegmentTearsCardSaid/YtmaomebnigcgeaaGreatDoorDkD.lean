/-
  The disk in memory.
-/
import Derived.Test.YtmaomebnigcgeaaGreatDoorDkIter
set_option linter.unusedSimpArgs false
set_option linter.unusedVariables false
namespace Go.Proofs.YtmaomebnigcgeaaGreatDoor
open Go.RowKit Go.Maps

/-- The disk's blocks: its own, the map's, the files', their bytes'. -/
def Has (p mb : Nat) (fs : List (Nm × Nat)) (sv : Nat → Value) (k : Nat) : Prop := k = p ∨ k = mb ∨ ∃ q ∈ fs, k = q.2 ∨ Value.room (sv q.2) = some k

structure Dm (w : World) (p mb : Nat) (fs : List (Nm × Nat)) (sv : Nat → Value) (con : Nat → Fl) (room : Nat) (left : Int) : Prop where
  c : Box w p [.map (some mb), .int .i64 (room : Nat), .int .i64 left] 76
  m : MapAt w mb fs
  f : ∀ q ∈ fs, Box w q.2 [sv q.2, .int .i64 ((con q.2).safe : Nat)] 98
  o : ∀ q ∈ fs, SlcRow w 5 1 (sv q.2) (con q.2).bytes.length ((con q.2).bytes.map bval)
  nd : (fs.map (·.2)).Nodup
  ap : ∀ q ∈ fs, ∀ r ∈ fs, ∀ k, Value.room (sv q.2) = some k → Value.room (sv r.2) = some k → q.2 = r.2

theorem box_type {w : World} {g : Nat} {cs cs' : List Value} {t t' : TypeId} (h : Box w g cs t) (h' : Box w g cs' t') : t = t' := by
  have h1 : w.heap[g]? = _ := h
  have h2 : w.heap[g]? = _ := h'
  rw [h1] at h2
  cases h2; rfl
theorem Dm.lt {w : World} {p mb : Nat} {fs : List (Nm × Nat)} {sv : Nat → Value} {con : Nat → Fl} {room : Nat} {left : Int} (h : Dm w p mb fs sv con room left) : ∀ k, Has p mb fs sv k → k < w.heap.size := by
  rintro k (rfl | rfl | ⟨q, hq, rfl | hk⟩)
  · exact (Array.getElem?_eq_some_iff.1 h.c).1
  · exact h.m.lt
  · exact (Array.getElem?_eq_some_iff.1 (h.f q hq)).1
  · exact (h.o q hq).lt k hk
theorem Dm.chg {S : Nat → Prop} {w w' : World} {p mb : Nat} {fs : List (Nm × Nat)} {sv : Nat → Value} {con : Nat → Fl} {room : Nat} {left : Int} (h : Dm w p mb fs sv con room left) (hc : Chg S w w') (hn : ∀ k, Has p mb fs sv k → ¬ S k) : Dm w' p mb fs sv con room left :=
  ⟨h.c.chg hc (hn _ (.inl rfl)), h.m.chg hc (hn _ (.inr (.inl rfl))), fun q hq => (h.f q hq).chg hc (hn _ (.inr (.inr ⟨q, hq, .inl rfl⟩))), fun q hq => (h.o q hq).chg hc (fun k hk => hn _ (.inr (.inr ⟨q, hq, .inr hk⟩))), h.nd, h.ap⟩
/-- No two of the disk's blocks of other kinds are one. -/
theorem Dm.p_ne {w : World} {p mb : Nat} {fs : List (Nm × Nat)} {sv : Nat → Value} {con : Nat → Fl} {room : Nat} {left : Int} (h : Dm w p mb fs sv con room left) : mb ≠ p ∧ (∀ q ∈ fs, q.2 ≠ p ∧ Value.room (sv q.2) ≠ some p ∧ q.2 ≠ mb ∧ Value.room (sv q.2) ≠ some mb) ∧ ∀ q ∈ fs, ∀ r ∈ fs, Value.room (sv q.2) ≠ some r.2 := by
  refine ⟨h.m.ne_row h.c, fun q hq => ⟨fun e => ?_, fun e => ?_, fun e => ?_, fun e => ?_⟩, fun q hq r hr e => ?_⟩
  · have := box_type h.c (by rw [← e]; exact h.f q hq)
    exact absurd this (by decide)
  · obtain ⟨cur, hcur⟩ := (h.o q hq).row p e
    have h1 : w.heap[p]? = _ := h.c
    rw [h1] at hcur
    cases hcur
  · exact h.m.ne_row (h.f q hq) e.symm
  · obtain ⟨cur, hcur⟩ := (h.o q hq).row mb e
    exact h.m.ne_row hcur rfl
  · obtain ⟨cur, hcur⟩ := (h.o q hq).row r.2 e
    have h1 : w.heap[r.2]? = _ := h.f r hr
    rw [h1] at hcur
    cases hcur

/-- What is behind an error's number. -/
def errD (n : Nat) : Value := if n = 0 then .nilIface else .iface 32 (.int .i64 (n : Nat))

theorem Dm.turned {w : World} {p mb : Nat} {fs : List (Nm × Nat)} {sv : Nat → Value} {con : Nat → Fl} {room : Nat} {left : Int} (h : Dm w p mb fs sv con room left) (l' : Int) :
    Dm (w.setCell ⟨p, 2, none⟩ (.int .i64 l')) p mb fs sv con room l' ∧ Chg (fun k => k = p) w (w.setCell ⟨p, 2, none⟩ (.int .i64 l')) := by
  have hs : Chg (fun k => k = p) w (w.setCell ⟨p, 2, none⟩ (.int .i64 l')) := Chg.setCell (S := fun k => k = p) (p := ⟨p, 2, none⟩) (Chg.refl _ w) (.inl rfl) _
  obtain ⟨h1, h2, h3⟩ := h.p_ne
  exact ⟨⟨h.c.set 2 _, h.m.chg hs h1, fun q hq => (h.f q hq).chg hs (h2 q hq).1, fun q hq => (h.o q hq).chg hs (fun k hk e => (h2 q hq).2.1 (by rw [hk, e])), h.nd, h.ap⟩, hs⟩

/-- Whether an operation is done. -/
theorem works_any {w : World} {p mb : Nat} {fs : List (Nm × Nat)} {sv : Nat → Value} {con : Nat → Fl} {room : Nat} {left : Int} (h : Dm w p mb fs sv con room left) (hl : -1 ≤ left ∧ left ≤ 9223372036854775807) :
    Calls Tryz.prog 59 #[.pointer (some ⟨p, 0, none⟩)] w fun e w' => e = .returned (.bool (didB left)) ∧ Dm w' p mb fs sv con room (stepL left) ∧ Chg (fun k => k = p) w w' := by
  have c2 := h.c.cell (j := 2) rfl
  have y2 := h.c.free 2
  have HD := Lib.hid h
  by_cases h0 : 0 < left
  · have hw : wrap64 (left - 1) = left - 1 := by unfold wrap64; omega
    have HT := Lib.hid (h.turned (left - 1))
    have HB : Hid (didB left = true ∧ stepL left = left - 1) := ⟨decide_eq_true (by omega), if_pos h0⟩
    clear h
    go_enter Tryz.func59, Tryz.ntmps59
    go_wp2_with fail
    go_ret
    rw [HB.out.1, HB.out.2]
    exact ⟨rfl, HT.out.1, HT.out.2⟩
  · clear h
    have HB : Hid (didB left = decide (left < 0) ∧ stepL left = left) := ⟨by
      unfold didB
      by_cases h1 : left < 0
      · rw [decide_eq_true h1, decide_eq_true (by omega)]
      · rw [decide_eq_false h1, decide_eq_false (by omega)], if_neg h0⟩
    go_enter Tryz.func59, Tryz.ntmps59
    go_wp2_with fail
    go_ret
    rw [HB.out.1, HB.out.2]
    exact ⟨rfl, HD.out, Chg.refl _ _⟩

theorem zeroErr : errD 0 = .nilIface := rfl
theorem errV_pos {n : Nat} (h : n ≠ 0) : errD n = .iface 32 (.int .i64 (n : Nat)) := if_neg h

/-- What a name's file is, for an operation: a pointer, or what is wrong. -/
def FileRes (left : Int) (o : Option Nat) (e : Ending) : Prop :=
  (didB left = false ∧ e = .returned (.tuple #[.pointer none, .iface 32 (.int .i64 14)])) ∨
  (didB left = true ∧ o = none ∧ e = .returned (.tuple #[.pointer none, .iface 32 (.int .i64 7)])) ∨
  (didB left = true ∧ ∃ b, o = some b ∧ e = .returned (.tuple #[.pointer (some ⟨b, 0, none⟩), .nilIface]))

/-- A name's file, for an operation. -/
theorem file_any {w : World} {p mb : Nat} {fs : List (Nm × Nat)} {sv : Nat → Value} {con : Nat → Fl} {room : Nat} {left : Int} (h : Dm w p mb fs sv con room left) (hl : -1 ≤ left ∧ left ≤ 9223372036854775807) (s : ByteArray) (hs : s.size ≤ maxLen) :
    Calls Tryz.prog 56 #[.pointer (some ⟨p, 0, none⟩), .string s] w fun e w' =>
      FileRes left (fs.lookup s.data.toList) e ∧ Dm w' p mb fs sv con room (stepL left) ∧ Chg (fun k => k = p) w w' := by
  have HW := Lib.hid (works_any h hl)
  have HS := Lib.hid hs
  clear h hs hl
  go_enter Tryz.func56, Tryz.ntmps56
  go_wp2_with (go_at_call 59; refine HW.out.mono ?_)
  rintro e w1 ⟨rfl, hd1, hc1⟩
  have HC1 := Lib.hid hc1
  have c0 := hd1.c.cell (j := 0) rfl
  have hlk := hd1.m.look HS.out
  have HD1 := Lib.hid hd1
  clear hd1 hc1 HW
  obtain ⟨x, hx⟩ : ∃ x, didB left = x := ⟨_, rfl⟩
  have HX := Lib.hid hx
  rw [hx]
  clear hx
  cases x with
  | false =>
    clear hlk c0
    go_wp2_with fail
    go_ret2
    exact ⟨.inl ⟨HX.out, rfl⟩, HD1.out, HC1.out⟩
  | true =>
    obtain ⟨o, ho⟩ : ∃ o, fs.lookup s.data.toList = o := ⟨_, rfl⟩
    have HO := Lib.hid ho
    rw [ho] at hlk
    clear ho
    cases o with
    | none =>
      simp only [ptrOf, Option.map_none] at hlk
      go_wp2_with fail
      go_ret2
      exact ⟨.inr (.inl ⟨HX.out, HO.out, rfl⟩), HD1.out, HC1.out⟩
    | some b =>
      simp only [ptrOf, Option.map_some] at hlk
      go_wp2_with fail
      go_ret2
      exact ⟨.inr (.inr ⟨HX.out, b, HO.out, rfl⟩), HD1.out, HC1.out⟩
end Go.Proofs.YtmaomebnigcgeaaGreatDoor
