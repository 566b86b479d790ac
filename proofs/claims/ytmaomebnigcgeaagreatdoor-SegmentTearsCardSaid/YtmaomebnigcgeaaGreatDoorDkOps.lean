/-
  The disk's operations: New, Make, Add, Sync, Read.
-/
import Derived.Test.YtmaomebnigcgeaaGreatDoorDkUsed
import Derived.Test.YtmaomebnigcgeaaGreatDoorDkNameW
import Derived.Deep.CutBlock
set_option linter.unusedSimpArgs false
set_option linter.unusedVariables false
namespace Go.Proofs.YtmaomebnigcgeaaGreatDoor
open Go.RowKit Go.Maps

theorem used_any {w : World} {p mb : Nat} {fs : List (Nm × Nat)} {sv : Nat → Value} {con : Nat → Fl} {room : Nat} {left : Int} (h : Dm w p mb fs sv con room left) (hu : usedOf con (fs.map (·.2)) ≤ 1048576) (hfn : fs.length ≤ 200) :
    Calls Tryz.prog 26 #[.pointer (some ⟨p, 0, none⟩)] w fun e w' => e = .returned (.int .i64 (usedOf con (fs.map (·.2)) : Nat)) ∧ Chg Nil w w' :=
  (callsIn_wide.1 (used_in h hu hfn)).mono fun e w' ⟨h1, h2⟩ => ⟨h1, Chg.of_below h2 _⟩

/-- What a new disk is. -/
def NewDisk (w w' : World) (r : Nat) (e : Ending) : Prop := ∃ p mb, e = .returned (.tuple #[.pointer (some ⟨p, 0, none⟩), .nilIface]) ∧ w.heap.size ≤ p ∧ w.heap.size ≤ mb ∧ Dm w' p mb [] (fun _ => undef) (fun _ => ⟨[], 0⟩) r (-1) ∧ Chg Nil w w'

/-- A new disk. -/
theorem new_any (r : Nat) (hr : r ≤ 1048576) (w : World) :
    Calls Tryz.prog 5 #[.int .i64 (r : Nat)] w fun e w' => NewDisk w w' r e := by
  have h0 : ¬ (r : Int) < 0 := by omega
  have h1 : ¬ (1048576 : Int) < (r : Int) := by omega
  have hmm := @run_makeMap Tryz.prog
  go_enter Tryz.func5, Tryz.ntmps5
  go_wp2_with fail
  go_ret2
  have hal := (Chg.refl Nil w).alloc (.map #[] 0)
  have hB := Box.new (w.alloc (.map #[] 0)) [.map (some w.heap.size), .int .i64 (r : Nat), .int .i64 (-1)] 76
  rw [World.size_alloc] at hB
  exact ⟨_, _, rfl, by omega, Nat.le_refl _, ⟨hB, (MapAt.made w).chg ((Chg.refl Nil _).alloc _) (fun h => h), by simp, by simp, by simp, by simp⟩, hal.alloc _⟩
theorem new_bad (room : Int) (hr : ¬ (0 ≤ room ∧ room ≤ 1048576)) (w : World) :
    Calls Tryz.prog 5 #[.int .i64 room] w fun e w' => e = .returned (.tuple #[.pointer none, .iface 32 (.int .i64 2)]) ∧ Chg Nil w w' := by
  by_cases h0 : room < 0
  · clear hr
    go_enter Tryz.func5, Tryz.ntmps5
    go_wp2_with fail
    go_ret2
    exact ⟨rfl, Chg.refl _ _⟩
  · have h1 : (1048576 : Int) < room := by omega
    clear hr
    go_enter Tryz.func5, Tryz.ntmps5
    go_wp2_with fail
    go_ret2
    exact ⟨rfl, Chg.refl _ _⟩

/-- What an operation leaves: the error's number, the disk. -/
def Done (w w' : World) (p mb : Nat) (fs : List (Nm × Nat)) (sv : Nat → Value) (room : Nat) (e : Ending) (n : Nat) (fs' : List (Nm × Nat)) (sv' : Nat → Value) (con' : Nat → Fl) (left' : Int) : Prop :=
  e = .returned (errD n) ∧ Dm w' p mb fs' sv' con' room left' ∧ Chg (Has p mb fs sv) w w' ∧ ∀ k, Has p mb fs' sv' k → Has p mb fs sv k ∨ w.heap.size ≤ k

/-- A file that is new. -/
def newSv (sv : Nat → Value) (b : Nat) : Nat → Value := fun k => if k = b then .slice none 0 0 else sv k
def newCon (con : Nat → Fl) (b : Nat) : Nat → Fl := fun k => if k = b then ⟨[], 0⟩ else con k

theorem filter_notin {α : Type} {x : Nm} {fs : List (Nm × α)} (h : fs.lookup x = none) : (fs.filter fun p => decide (p.1 ≠ x)) = fs := by
  rw [List.filter_eq_self]
  intro q hq
  have := lookup_none.1 h
  simp
  intro e
  exact this (List.mem_map.2 ⟨q, hq, e⟩)

/-- The disk behind a file that is made. -/
theorem Dm.made {w w2 : World} {p mb b : Nat} {fs : List (Nm × Nat)} {sv : Nat → Value} {con : Nat → Fl} {room : Nat} {left : Int} (h : Dm w p mb fs sv con room left) {x : Nm} (hx : fs.lookup x = none)
    (hb : b = w.heap.size) (hm : MapAt w2 mb (fs ++ [(x, b)])) (hc : Chg (fun k => k = mb) (w.alloc (.cells #[.slice none 0 0, .int .i64 0] 98)) w2) :
    Dm w2 p mb (fs ++ [(x, b)]) (newSv sv b) (newCon con b) room left ∧ Chg (Has p mb fs sv) w w2 ∧ ∀ k, Has p mb (fs ++ [(x, b)]) (newSv sv b) k → Has p mb fs sv k ∨ w.heap.size ≤ k := by
  have hal := (Chg.refl Nil w).alloc (.cells #[.slice none 0 0, .int .i64 0] 98)
  have hch : Chg (fun k => k = mb) w w2 := hal.weak (fun _ h => h.elim) |>.trans hc (fun _ h => .inl h)
  obtain ⟨h1, h2, h3⟩ := h.p_ne
  have hlt : ∀ q ∈ fs, q.2 ≠ b := fun q hq e => by
    have := h.lt q.2 (.inr (.inr ⟨q, hq, .inl rfl⟩))
    omega
  have hmb : mb ≠ b := fun e => by have := h.lt mb (.inr (.inl rfl)); omega
  have hold : ∀ q ∈ fs, newSv sv b q.2 = sv q.2 ∧ newCon con b q.2 = con q.2 := fun q hq => ⟨if_neg (hlt q hq), if_neg (hlt q hq)⟩
  have hnew : newSv sv b b = .slice none 0 0 ∧ newCon con b b = ⟨[], 0⟩ := ⟨if_pos rfl, if_pos rfl⟩
  have hbox : Box w2 b [.slice none 0 0, .int .i64 0] 98 := by
    have := Box.new w [.slice none 0 0, .int .i64 0] 98
    rw [← hb] at this
    exact this.chg hc (fun e => hmb e.symm)
  refine ⟨⟨h.c.chg hch (fun e => h1 e.symm), hm, fun q hq => ?_, fun q hq => ?_, ?_, fun q hq r hr k hk1 hk2 => ?_⟩, hch.weak (fun k hk => .inl (.inr (.inl hk))), ?_⟩
  · rcases List.mem_append.1 hq with hq | hq
    · rw [(hold q hq).1, (hold q hq).2]
      exact (h.f q hq).chg hch (h2 q hq).2.2.1
    · simp at hq; subst hq
      rw [hnew.1, hnew.2]
      exact hbox
  · rcases List.mem_append.1 hq with hq | hq
    · rw [(hold q hq).1, (hold q hq).2]
      exact (h.o q hq).chg hch (fun k hk e => (h2 q hq).2.2.2 (by rw [hk, e]))
    · simp at hq; subst hq
      rw [hnew.1, hnew.2]
      exact SlcRow.nil _ _ _
  · rw [List.map_append]
    refine List.nodup_append.2 ⟨h.nd, by simp, fun y hy z hz e => ?_⟩
    simp at hz
    obtain ⟨q, hq, rfl⟩ := List.mem_map.1 hy
    exact hlt q hq (by rw [e, hz])
  · rcases List.mem_append.1 hq with hq | hq
    · rcases List.mem_append.1 hr with hr | hr
      · rw [(hold q hq).1] at hk1
        rw [(hold r hr).1] at hk2
        exact h.ap q hq r hr k hk1 hk2
      · simp at hr; subst hr
        rw [hnew.1] at hk2; cases hk2
    · simp at hq; subst hq
      rw [hnew.1] at hk1; cases hk1
  · rintro k (rfl | rfl | ⟨q, hq, hk⟩)
    · exact .inl (.inl rfl)
    · exact .inl (.inr (.inl rfl))
    · rcases List.mem_append.1 hq with hq | hq
      · rw [(hold q hq).1] at hk
        exact .inl (.inr (.inr ⟨q, hq, hk⟩))
      · simp at hq; subst hq
        rw [hnew.1] at hk
        rcases hk with rfl | hk
        · exact .inr (by omega)
        · cases hk
end Go.Proofs.YtmaomebnigcgeaaGreatDoor
