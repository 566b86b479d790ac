/-
  Sync; what a file's bytes are when they are read.
-/
import Derived.Test.YtmaomebnigcgeaaGreatDoorDkAdd
set_option linter.unusedSimpArgs false
set_option linter.unusedVariables false
namespace Go.Proofs.YtmaomebnigcgeaaGreatDoor
open Go.RowKit Go.Maps

set_option maxHeartbeats 4000000 in
theorem sync_any {w : World} {p : Nat} {S : Nat → Prop} {d : Dk} (h : DiskAt w p S d) (s : ByteArray) (hs : s.size ≤ 4611686018427387904) :
    Calls Tryz.prog 47 #[.pointer (some ⟨p, 0, none⟩), .string s] w fun e w' => e = .returned (errD (d.sync s.data.toList).1) ∧ DiskAt w' p (Gr S w w') (d.sync s.data.toList).2 ∧ Chg S w w' := by
  obtain ⟨mb, fs, sv, con, hd, hfs, hS, hok⟩ := h
  have HF := Lib.hid (file_any hd hok.left s (by unfold maxLen; omega))
  have hfind : d.find s.data.toList = (fs.lookup s.data.toList).map con := by unfold Dk.find; rw [hfs]; exact find_map con _ fs
  have HFIND := Lib.hid hfind
  have HFS := Lib.hid hfs
  have HS := Lib.hid hS
  have HOK := Lib.hid hok
  obtain ⟨R, hR⟩ : ∃ R, d.sync s.data.toList = R := ⟨_, rfl⟩
  have HR := Lib.hid hR
  rw [hR]
  clear hR hd hfind hfs hS hok hs
  go_enter Tryz.func47, Tryz.ntmps47
  go_wp2_with (go_at_call 56; refine HF.out.mono ?_)
  rintro e w1 ⟨hfr, hd1, hc1⟩
  have HC1 := Lib.hid hc1
  have HD1 := Lib.hid hd1
  clear hd1 hc1 HF
  rcases hfr with ⟨hx, rfl⟩ | ⟨hx, ho, rfl⟩ | ⟨hx, b, ho, rfl⟩
  · have HX := Lib.hid hx
    clear hx
    go_wp2_with fail
    go_ret
    have hd1 := HD1.out
    rw [stepL_of HX.out] at hd1
    exact done_mk (n := 14) (d' := d) HS.out rfl hd1 HFS.out (chg_p HC1.out) (fun k hk => .inl hk) HOK.out (HR.out.symm.trans (at_not HX.out))
  · have HX := Lib.hid hx
    have HO := Lib.hid ho
    clear hx ho
    go_wp2_with fail
    go_ret
    exact done_mk (n := 7) (d' := d.step) HS.out rfl HD1.out HFS.out (chg_p HC1.out) (fun k hk => .inl hk) HOK.out.step (HR.out.symm.trans (at_none (by rw [HFIND.out, HO.out]; rfl) HX.out))
  · have HX := Lib.hid hx
    have HO := Lib.hid ho
    have hmem := lookup_some ho
    have hrow : SlcRow w1 5 1 (sv b) (con b).bytes.length ((con b).bytes.map bval) := HD1.out.o _ hmem
    have hbx : Box w1 b [sv b, .int .i64 ((con b).safe : Nat)] 98 := HD1.out.f _ hmem
    have HFD : Hid (d.find s.data.toList = some (con b)) := by unfold Hid; rw [HFIND.out, HO.out]; rfl
    have HMEM := Lib.hid hmem
    have HROW := Lib.hid hrow
    have HBX := Lib.hid hbx
    obtain ⟨a, c, hsv, _, _⟩ := hrow.form
    have y0 := hbx.cell (j := 0) rfl
    rw [hsv] at y0
    have y1 := hbx.cell (j := 1) rfl
    have z1 := hbx.free 1
    have HSV := Lib.hid hsv
    clear hx ho hmem hrow hbx hsv
    go_wp2_with fail
    go_ret
    have hset : Chg (fun k => k = b) w1 (w1.setCell ⟨b, 1, none⟩ (.int .i64 ((con b).bytes.length : Nat))) := Chg.setCell (S := fun k => k = b) (p := ⟨b, 1, none⟩) (Chg.refl _ w1) (.inl rfl) _
    obtain ⟨g1, g2, g3⟩ := HD1.out.turn (q := (s.data.toList, b)) HMEM.out (sv b) ⟨(con b).bytes, (con b).bytes.length⟩ (HBX.out.set 1 _) (HROW.out.chg hset (fun k hk e => HD1.out.p_ne.2.2 _ HMEM.out _ HMEM.out (hk.trans (congrArg some e))))
      (hset.weak (fun k hk => .inl (.inl hk))) (fun k hk => .inl hk)
    have hsz := HC1.out.size
    refine done_mk (n := 0) (d' := d.step.turn s.data.toList ⟨(con b).bytes, (con b).bytes.length⟩) HS.out rfl g1 ?_ ((chg_p HC1.out).trans g2 (fun _ h => .inl h)) (fun k hk => (g3 k hk).imp id (fun h => by omega)) ?_ (HR.out.symm.trans (at_some HFD.out HX.out))
    · exact turn_fs (d := d.step) HFS.out HO.out HD1.out.m.1 HD1.out.nd
    · refine HOK.out.step.turn (x := s.data.toList) (g := con b) HFD.out (Nat.le_refl _) ?_
      show d.used + (con b).bytes.length ≤ d.room + (con b).bytes.length
      have := HOK.out.fits
      omega
end Go.Proofs.YtmaomebnigcgeaaGreatDoor
