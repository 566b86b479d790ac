/-
  The walk of disk.Name.
-/
import Derived.Test.YtdjmifaidgbbaaaGreatDoorLb10
import Derived.Test.YtdjmifaidgbbaaaGreatDoorLb05
import Derived.WalkKit
import Derived.Tactics
import Derived.Tactics2
import Derived.KernelRfl
import Derived.RowKit
import Derived.Lib.Walk
import Derived.Lib.Hide
import Derived.Test.YtdjmifaidgbbaaaGreatDoorLb09
import Derived.Deep.CutBlock
set_option linter.unusedSimpArgs false
namespace Go.Proofs.YtdjmifaidgbbaaaGreatDoor
open Go.RowKit Go.Shelf Go.Lib

theorem list_toList (s : ByteArray) : s.toList = s.data.toList := ByteArray.toList_eq s
theorem list_size (s : ByteArray) : s.data.toList.length = s.size := by rw [Array.length_toList]; rfl

set_option maxHeartbeats 1000000 in
theorem disk_any (s : ByteArray) (w : World) (hs : s.size ≤ 9223372036854775807) :
    Calls Tryz.prog 131 #[.string s] w fun e w' => e = .returned (.bool (nameOk 40 cutDisk s.data.toList)) ∧ Below w.heap.size w w' := by
  have hcon := Any.strings_Trim_laid Tryz.lays160 (by kernel_rfl) s ⟨cutDisk.toArray⟩ w hs (by decide) (ascii_of_all (by decide))
  change Calls Tryz.prog 161 _ _ (fun e w' => e = .returned (.string ⟨(Lib.trimS s.data.toList cutDisk).toArray⟩) ∧ Below w.heap.size w w') at hcon
  have hsz := list_size s
  have hB0 := Below.refl w.heap.size w
  go_enter Tryz.func131, Tryz.ntmps131
  go_wp2_with (go_at_call 161; refine hcon.mono ?_; rintro e w' ⟨rfl, hB⟩)
  · have h0 : s.toList = [] := by assumption
    go_ret
    refine ⟨congrArg (fun b => Ending.returned (Value.bool b)) ?_, hB0⟩
    rw [list_toList] at h0
    rw [h0]; rfl
  · have h0 : ¬ s.toList = [] := by assumption
    have h1 : (s.size : Int) ≤ 40 := by assumption
    go_ret
    refine ⟨congrArg (fun b => Ending.returned (Value.bool b)) ?_, hB⟩
    rw [list_toList]
    have e : (trimS s.data.toList cutDisk).isEmpty = s.data.toList.all (cutDisk.contains ·) := by
      rw [Bool.eq_iff_iff, List.isEmpty_iff, trim_nil]
    rw [e]
    unfold nameOk
    rw [decide_eq_true (show s.data.toList.length ≤ 40 by omega), Bool.and_true]
  · have h1 : (40 : Int) < (s.size : Int) := by assumption
    go_ret
    refine ⟨congrArg (fun b => Ending.returned (Value.bool b)) ?_, hB0⟩
    unfold nameOk
    rw [decide_eq_false (show ¬ s.data.toList.length ≤ 40 by omega), Bool.and_false, Bool.false_and]

end Go.Proofs.YtdjmifaidgbbaaaGreatDoor

/-
  The disk's operations: New, Make, Add, Sync, Read.
-/
set_option linter.unusedSimpArgs false
set_option linter.unusedVariables false
namespace Go.Proofs.YtdjmifaidgbbaaaGreatDoor
open Go.RowKit Go.Maps

theorem used_any {w : World} {p mb : Nat} {fs : List (Nm × Nat)} {sv : Nat → Value} {con : Nat → Fl} {room : Nat} {left : Int} (h : Dm w p mb fs sv con room left) (hu : usedOf con (fs.map (·.2)) ≤ 1048576) (hfn : fs.length ≤ 200) :
    Calls Tryz.prog 132 #[.pointer (some ⟨p, 0, none⟩)] w fun e w' => e = .returned (.int .i64 (usedOf con (fs.map (·.2)) : Nat)) ∧ Chg Nil w w' :=
  (callsIn_wide.1 (used_in h hu hfn)).mono fun e w' ⟨h1, h2⟩ => ⟨h1, Chg.of_below h2 _⟩

/-- What a new disk is. -/
def NewDisk (w w' : World) (r : Nat) (e : Ending) : Prop := ∃ p mb, e = .returned (.tuple #[.pointer (some ⟨p, 0, none⟩), .nilIface]) ∧ w.heap.size ≤ p ∧ w.heap.size ≤ mb ∧ Dm w' p mb [] (fun _ => undef) (fun _ => ⟨[], 0⟩) r (-1) ∧ Chg Nil w w'

/-- A new disk. -/
theorem new_any (r : Nat) (hr : r ≤ 1048576) (w : World) :
    Calls Tryz.prog 8 #[.int .i64 (r : Nat)] w fun e w' => NewDisk w w' r e := by
  have h0 : ¬ (r : Int) < 0 := by omega
  have h1 : ¬ (1048576 : Int) < (r : Int) := by omega
  have hmm := @run_makeMap Tryz.prog
  go_enter Tryz.func8, Tryz.ntmps8
  go_wp2_with fail
  go_ret2
  have hal := (Chg.refl Nil w).alloc (.map #[] 0)
  have hB := Box.new (w.alloc (.map #[] 0)) [.map (some w.heap.size), .int .i64 (r : Nat), .int .i64 (-1)] 96
  rw [World.size_alloc] at hB
  exact ⟨_, _, rfl, by omega, Nat.le_refl _, ⟨hB, (MapAt.made w).chg ((Chg.refl Nil _).alloc _) (fun h => h), by simp, by simp, by simp, by simp⟩, hal.alloc _⟩
theorem new_bad (room : Int) (hr : ¬ (0 ≤ room ∧ room ≤ 1048576)) (w : World) :
    Calls Tryz.prog 8 #[.int .i64 room] w fun e w' => e = .returned (.tuple #[.pointer none, .iface 65 (.int .i64 2)]) ∧ Chg Nil w w' := by
  by_cases h0 : room < 0
  · clear hr
    go_enter Tryz.func8, Tryz.ntmps8
    go_wp2_with fail
    go_ret2
    exact ⟨rfl, Chg.refl _ _⟩
  · have h1 : (1048576 : Int) < room := by omega
    clear hr
    go_enter Tryz.func8, Tryz.ntmps8
    go_wp2_with fail
    go_ret2
    exact ⟨rfl, Chg.refl _ _⟩

/-- What an operation leaves: the error's number, the disk. -/
def Done (w w' : World) (p mb : Nat) (fs : List (Nm × Nat)) (sv : Nat → Value) (room : Nat) (e : Ending) (n : Nat) (fs' : List (Nm × Nat)) (sv' : Nat → Value) (con' : Nat → Fl) (left' : Int) : Prop :=
  e = .returned (errD n) ∧ Dm w' p mb fs' sv' con' room left' ∧ Chg (Has p mb fs sv) w w' ∧ ∀ k, Has p mb fs' sv' k → Has p mb fs sv k ∨ w.heap.size ≤ k

/-- A file that is new. -/
def newSv (sv : Nat → Value) (b : Nat) : Nat → Value := fun k => if k = b then .slice none 0 0 else sv k
def newCon (con : Nat → Fl) (b : Nat) : Nat → Fl := fun k => if k = b then ⟨[], 0⟩ else con k

theorem filter_notin {α : Type} {x : Nm} {fs : List (Nm × α)} (h : fs.lookup x = none) : (fs.filter fun p => decide (p.1 ≠ x)) = fs := by
  rw [List.filter_eq_self]
  intro q hq
  have := lookup_none.1 h
  simp
  intro e
  exact this (List.mem_map.2 ⟨q, hq, e⟩)

/-- The disk behind a file that is made. -/
theorem Dm.made {w w2 : World} {p mb b : Nat} {fs : List (Nm × Nat)} {sv : Nat → Value} {con : Nat → Fl} {room : Nat} {left : Int} (h : Dm w p mb fs sv con room left) {x : Nm} (hx : fs.lookup x = none)
    (hb : b = w.heap.size) (hm : MapAt w2 mb (fs ++ [(x, b)])) (hc : Chg (fun k => k = mb) (w.alloc (.cells #[.slice none 0 0, .int .i64 0] 141)) w2) :
    Dm w2 p mb (fs ++ [(x, b)]) (newSv sv b) (newCon con b) room left ∧ Chg (Has p mb fs sv) w w2 ∧ ∀ k, Has p mb (fs ++ [(x, b)]) (newSv sv b) k → Has p mb fs sv k ∨ w.heap.size ≤ k := by
  have hal := (Chg.refl Nil w).alloc (.cells #[.slice none 0 0, .int .i64 0] 141)
  have hch : Chg (fun k => k = mb) w w2 := hal.weak (fun _ h => h.elim) |>.trans hc (fun _ h => .inl h)
  obtain ⟨h1, h2, h3⟩ := h.p_ne
  have hlt : ∀ q ∈ fs, q.2 ≠ b := fun q hq e => by
    have := h.lt q.2 (.inr (.inr ⟨q, hq, .inl rfl⟩))
    omega
  have hmb : mb ≠ b := fun e => by have := h.lt mb (.inr (.inl rfl)); omega
  have hold : ∀ q ∈ fs, newSv sv b q.2 = sv q.2 ∧ newCon con b q.2 = con q.2 := fun q hq => ⟨if_neg (hlt q hq), if_neg (hlt q hq)⟩
  have hnew : newSv sv b b = .slice none 0 0 ∧ newCon con b b = ⟨[], 0⟩ := ⟨if_pos rfl, if_pos rfl⟩
  have hbox : Box w2 b [.slice none 0 0, .int .i64 0] 141 := by
    have := Box.new w [.slice none 0 0, .int .i64 0] 141
    rw [← hb] at this
    exact this.chg hc (fun e => hmb e.symm)
  refine ⟨⟨h.c.chg hch (fun e => h1 e.symm), hm, fun q hq => ?_, fun q hq => ?_, ?_, fun q hq r hr k hk1 hk2 => ?_⟩, hch.weak (fun k hk => .inl (.inr (.inl hk))), ?_⟩
  · rcases List.mem_append.1 hq with hq | hq
    · rw [(hold q hq).1, (hold q hq).2]
      exact (h.f q hq).chg hch (h2 q hq).2.2.1
    · simp at hq; subst hq
      rw [hnew.1, hnew.2]
      exact hbox
  · rcases List.mem_append.1 hq with hq | hq
    · rw [(hold q hq).1, (hold q hq).2]
      exact (h.o q hq).chg hch (fun k hk e => (h2 q hq).2.2.2 (by rw [hk, e]))
    · simp at hq; subst hq
      rw [hnew.1, hnew.2]
      exact SlcRow.nil _ _ _
  · rw [List.map_append]
    refine List.nodup_append.2 ⟨h.nd, by simp, fun y hy z hz e => ?_⟩
    simp at hz
    obtain ⟨q, hq, rfl⟩ := List.mem_map.1 hy
    exact hlt q hq (by rw [e, hz])
  · rcases List.mem_append.1 hq with hq | hq
    · rcases List.mem_append.1 hr with hr | hr
      · rw [(hold q hq).1] at hk1
        rw [(hold r hr).1] at hk2
        exact h.ap q hq r hr k hk1 hk2
      · simp at hr; subst hr
        rw [hnew.1] at hk2; cases hk2
    · simp at hq; subst hq
      rw [hnew.1] at hk1; cases hk1
  · rintro k (rfl | rfl | ⟨q, hq, hk⟩)
    · exact .inl (.inl rfl)
    · exact .inl (.inr (.inl rfl))
    · rcases List.mem_append.1 hq with hq | hq
      · rw [(hold q hq).1] at hk
        exact .inl (.inr (.inr ⟨q, hq, hk⟩))
      · simp at hq; subst hq
        rw [hnew.1] at hk
        rcases hk with rfl | hk
        · exact .inr (by omega)
        · cases hk
end Go.Proofs.YtdjmifaidgbbaaaGreatDoor

/-
  The disk as one thing: DiskAt; Make.
-/
set_option linter.unusedSimpArgs false
set_option linter.unusedVariables false
namespace Go.Proofs.YtdjmifaidgbbaaaGreatDoor
open Go.RowKit Go.Maps

/-- What a block set grows by. -/
def Gr (S : Nat → Prop) (w w' : World) : Nat → Prop := fun k => S k ∨ (w.heap.size ≤ k ∧ k < w'.heap.size)

/-- In this world the disk lies at block p; its blocks are among S. -/
def DiskAt (w : World) (p : Nat) (S : Nat → Prop) (d : Dk) : Prop :=
  ∃ mb fs sv con, Dm w p mb fs sv con d.room d.left ∧ d.fs = fs.map (fun q => (q.1, con q.2)) ∧ (∀ k, Has p mb fs sv k → S k) ∧ d.Ok

theorem DiskAt.ok {w : World} {p : Nat} {S : Nat → Prop} {d : Dk} (h : DiskAt w p S d) : d.Ok := by
  obtain ⟨mb, fs, sv, con, _, _, _, ho⟩ := h
  exact ho
theorem DiskAt.chg {S T : Nat → Prop} {w w' : World} {p : Nat} {d : Dk} (h : DiskAt w p S d) (hc : Chg T w w') (hn : ∀ k, S k → ¬ T k) : DiskAt w' p S d := by
  obtain ⟨mb, fs, sv, con, hd, he, hs, ho⟩ := h
  exact ⟨mb, fs, sv, con, hd.chg hc (fun k hk => hn k (hs k hk)), he, hs, ho⟩
theorem DiskAt.weak {S T : Nat → Prop} {w : World} {p : Nat} {d : Dk} (h : DiskAt w p S d) (hn : ∀ k, S k → T k) : DiskAt w p T d := by
  obtain ⟨mb, fs, sv, con, hd, he, hs, ho⟩ := h
  exact ⟨mb, fs, sv, con, hd, he, fun k hk => hn k (hs k hk), ho⟩

theorem find_map (con : Nat → Fl) (x : Nm) : ∀ fs : List (Nm × Nat), (fs.map fun q => (q.1, con q.2)).lookup x = (fs.lookup x).map con
  | [] => rfl
  | (a, b) :: r => by
    rw [List.map_cons, List.lookup_cons, List.lookup_cons, find_map con x r]
    cases x == a <;> rfl
theorem used_eq (con : Nat → Fl) (fs : List (Nm × Nat)) : ((fs.map fun q => (q.1, con q.2)).map fun p => p.2.bytes.length).sum = usedOf con (fs.map (·.2)) := by
  unfold usedOf
  rw [List.map_map, List.map_map]
  rfl

/-- An end of an operation. -/
theorem done_mk {w w' : World} {p mb : Nat} {fs fs' : List (Nm × Nat)} {sv sv' : Nat → Value} {con' : Nat → Fl} {S : Nat → Prop} {d' : Dk} {e : Ending} {n : Nat}
    (hs : ∀ k, Has p mb fs sv k → S k) (he : e = .returned (errD n)) (hd : Dm w' p mb fs' sv' con' d'.room d'.left) (hf : d'.fs = fs'.map (fun q => (q.1, con' q.2))) (hc : Chg (Has p mb fs sv) w w')
    (hn : ∀ k, Has p mb fs' sv' k → Has p mb fs sv k ∨ w.heap.size ≤ k) (ho : d'.Ok) {r : Nat × Dk} (hr : r = (n, d')) :
    e = .returned (errD r.1) ∧ DiskAt w' p (Gr S w w') r.2 ∧ Chg S w w' := by
  subst hr
  refine ⟨he, ⟨mb, fs', sv', con', hd, hf, fun k hk => ?_, ho⟩, hc.weak (fun k hk => .inl (hs k hk))⟩
  rcases hn k hk with h | h
  · exact .inl (hs k h)
  · exact .inr ⟨h, hd.lt k hk⟩

theorem chg_p {w w' : World} {p mb : Nat} {fs : List (Nm × Nat)} {sv : Nat → Value} (h : Chg (fun k => k = p) w w') : Chg (Has p mb fs sv) w w' := h.weak (fun k hk => .inl (.inl hk))

theorem stepL_of {l : Int} (h : didB l = false) : stepL l = l := by
  unfold didB at h
  have : ¬ l ≠ 0 := of_decide_eq_false h
  have h0 : l = 0 := by omega
  rw [h0]; rfl

theorem put_new {d : Dk} {fs : List (Nm × Nat)} {con : Nat → Fl} {x : Nm} {b : Nat} (hf : d.fs = fs.map (fun q => (q.1, con q.2))) (hx : fs.lookup x = none) (hb : ∀ q ∈ fs, q.2 < b) :
    (d.step.put x ⟨[], 0⟩).fs = (fs ++ [(x, b)]).map (fun q => (q.1, newCon con b q.2)) := by
  show (d.fs.filter fun p => decide (p.1 ≠ x)) ++ [(x, ⟨[], 0⟩)] = _
  have hx2 : d.fs.lookup x = none := by rw [hf, find_map, hx]; rfl
  rw [filter_notin hx2, hf, List.map_append]
  congr 1
  · refine List.map_congr_left fun q hq => ?_
    have : newCon con b q.2 = con q.2 := if_neg (by have := hb q hq; omega)
    rw [this]
  · have : newCon con b b = ⟨[], 0⟩ := if_pos rfl
    simp [this]

set_option maxHeartbeats 2000000 in
theorem make_any {w : World} {p : Nat} {S : Nat → Prop} {d : Dk} (h : DiskAt w p S d) (s : ByteArray) (hs : s.size ≤ 4611686018427387904) :
    Calls Tryz.prog 94 #[.pointer (some ⟨p, 0, none⟩), .string s] w fun e w' => e = .returned (errD (d.make s.data.toList).1) ∧ DiskAt w' p (Gr S w w') (d.make s.data.toList).2 ∧ Chg S w w' := by
  obtain ⟨mb, fs, sv, con, hd, hfs, hS, hok⟩ := h
  have HOK2 := Lib.hid (hok.make s.data.toList)
  have HOKS := Lib.hid hok.step
  have HW := Lib.hid (works_any hd hok.left)
  have hfind : d.find s.data.toList = (fs.lookup s.data.toList).map con := by unfold Dk.find; rw [hfs]; exact find_map con _ fs
  have hlen : d.fs.length = fs.length := by rw [hfs, List.length_map]
  have hfew := hok.few
  rw [hlen] at hfew
  have HFEW := Lib.hid hfew
  have HFS := Lib.hid hfs
  have HS := Lib.hid hS
  have HNM := Lib.hid (fun w => disk_any s w (by omega))
  have HSS := Lib.hid hs
  obtain ⟨R, hR⟩ : ∃ R, d.make s.data.toList = R := ⟨_, rfl⟩
  have hR2 := hR
  unfold Dk.make at hR2
  rw [hfind, hlen, show d.does = didB d.left from rfl, show dkName s.data.toList = nameOk 40 cutDisk s.data.toList from rfl] at hR2
  rw [hR]
  rw [hR] at HOK2
  have HR := Lib.hid hR2
  clear hR hR2 hd hok hfind hlen hfs hS hs hfew
  go_enter Tryz.func94, Tryz.ntmps94
  go_wp2_with (go_at_call 126; refine HW.out.mono ?_)
  rintro e w1 ⟨rfl, hd1, hc1⟩
  have HC1 := Lib.hid hc1
  have c0 := hd1.c.cell (j := 0) rfl
  have HD1 := Lib.hid hd1
  clear hd1 hc1 HW
  obtain ⟨x, hx⟩ : ∃ x, didB d.left = x := ⟨_, rfl⟩
  rw [hx] at HR
  rw [hx]
  have HX := Lib.hid hx
  clear hx
  cases x with
  | false =>
    have hR := HR.out
    rw [if_pos rfl] at hR
    have HR2 := Lib.hid hR
    clear hR HR c0
    go_wp2_with fail
    go_ret
    have hd1 := HD1.out
    rw [stepL_of HX.out] at hd1
    exact done_mk (n := 14) (d' := d) HS.out rfl hd1 HFS.out (chg_p HC1.out) (fun k hk => .inl hk) (by have := HOK2.out; rw [← HR2.out] at this; exact this) HR2.out.symm
  | true =>
    have hR := HR.out
    rw [if_neg (by simp)] at hR
    have HR1 := Lib.hid hR
    clear hR HR
    go_wp2_with (go_at_call 131; refine (HNM.out _).mono ?_)
    rintro e w2 ⟨rfl, hb2⟩
    have hc2 := Chg.of_below hb2 Nil
    have hd2 := HD1.out.chg hc2 (fun _ _ h => h)
    have HD2 := Lib.hid hd2
    have HC2 := Lib.hid (HC1.out.trans hc2 (fun _ h => h.elim))
    have c02 := hd2.c.cell (j := 0) rfl
    have hlk := hd2.m.look (s := s) (by have := HSS.out; unfold maxLen; omega)
    have hln := fun ty => hd2.m.len ty
    have HLK := Lib.hid hlk
    have HLN := Lib.hid hln
    clear hb2 hc2 hd2 HD1 HC1 c0 hlk hln
    obtain ⟨x, hx⟩ : ∃ x, nameOk 40 cutDisk s.data.toList = x := ⟨_, rfl⟩
    rw [hx] at HR1
    rw [hx]
    have HX2 := Lib.hid hx
    clear hx
    cases x with
    | false =>
      have hR := HR1.out
      rw [if_pos rfl] at hR
      have HR2 := Lib.hid hR
      clear hR HR1 c02
      go_wp2_with fail
      go_ret
      exact done_mk (n := 5) (d' := d.step) HS.out rfl HD2.out HFS.out (chg_p HC2.out) (fun k hk => .inl hk) HOKS.out HR2.out.symm
    | true =>
      have hR := HR1.out
      rw [if_neg (by simp)] at hR
      have HR1b := Lib.hid hR
      clear hR HR1
      obtain ⟨o, ho⟩ : ∃ o, fs.lookup s.data.toList = o := ⟨_, rfl⟩
      rw [ho] at HLK HR1b
      have HO := Lib.hid ho
      have hlk := HLK.out
      clear ho HLK
      cases o with
      | some b =>
        have hR := HR1b.out
        rw [if_pos (by simp)] at hR
        have HR2 := Lib.hid hR
        clear hR HR1b
        simp only [ptrOf, Option.map_some] at hlk
        go_wp2_with fail
        go_ret
        exact done_mk (n := 9) (d' := d.step) HS.out rfl HD2.out HFS.out (chg_p HC2.out) (fun k hk => .inl hk) HOKS.out HR2.out.symm
      | none =>
        have hR := HR1b.out
        rw [if_neg (by simp)] at hR
        have HR3 := Lib.hid hR
        clear hR HR1b
        simp only [ptrOf, Option.map_none] at hlk
        have hln := HLN.out
        clear HLN
        by_cases h200 : fs.length = 200
        · have hR := HR3.out
          rw [if_pos h200] at hR
          have HR2 := Lib.hid hR
          have hq : ((fs.length : Int) == 200) = true := by rw [h200]; rfl
          clear hR HR3
          go_wp2_with fail
          go_ret
          exact done_mk (n := 4) (d' := d.step) HS.out rfl HD2.out HFS.out (chg_p HC2.out) (fun k hk => .inl hk) HOKS.out HR2.out.symm
        · have hR := HR3.out
          rw [if_neg h200] at hR
          have HR2 := Lib.hid hR
          have hq : ((fs.length : Int) == 200) = false := beq_eq_false_iff_ne.2 (by omega)
          have HN200 := Lib.hid h200
          clear hR HR3 h200
          have hmap := (HD2.out.m.chg ((Chg.refl Nil w2).alloc (.cells #[.slice none 0 0, .int .i64 0] 141)) (fun h => h)).store (by have := HFEW.out; unfold maxLen; omega) (s := s) (by have := HSS.out; unfold maxLen; omega) w2.heap.size
          obtain ⟨w3, hrun, hm3, hc3⟩ := hmap
          rw [filter_notin HO.out] at hm3
          have HM3 := Lib.hid hm3
          have HC3 := Lib.hid hc3
          clear hm3 hc3
          go_wp2_with fail
          go_ret
          obtain ⟨g1, g2, g3⟩ := HD2.out.made HO.out rfl HM3.out HC3.out
          have hsz := HC2.out.size
          refine done_mk (n := 0) (d' := d.step.put s.data.toList ⟨[], 0⟩) HS.out rfl g1 ?_ ((chg_p HC2.out).trans g2 (fun _ h => .inl h)) (fun k hk => (g3 k hk).imp id (fun h => by omega)) ?_ HR2.out.symm
          · exact put_new HFS.out HO.out (fun q hq => (HD2.out.lt q.2 (.inr (.inr ⟨q, hq, .inl rfl⟩))))
          · have := HOK2.out
            rw [← HR2.out] at this
            exact this
end Go.Proofs.YtdjmifaidgbbaaaGreatDoor
