/-
  The document's disk: Do, word by word. (Written by mkrdo.py.)
-/
import Derived.Test.YthjdkhjdgmnliaaGreatDoorRkX
import Derived.Deep.CutBlock
set_option linter.unusedSimpArgs false
set_option linter.unusedVariables false
namespace Go.Proofs.YthjdkhjdgmnliaaGreatDoor
open Go.RowKit Go.Maps Go.Sort Go.Shelf

/-- An end of an operation. -/
theorem rdone_mk {w w' : World} {q : Nat} {v v' : Value} {rs rs' : List Rf} {T : Nat → Prop} {d' : Dk} {e : Ending} {n : Nat}
    (hs : ∀ k, RHas q v rs k → T k) (he : e = .returned (.int .i64 (n : Nat))) (hd : Rm w' q v' rs' d'.room d'.left) (hf : d'.fs = rs'.map (fun r => (r.x, r.f))) (hc : Chg (RHas q v rs) w w')
    (hn : ∀ k, RHas q v' rs' k → RHas q v rs k ∨ w.heap.size ≤ k) {r : Nat × Dk} (hr : r = (n, d')) :
    e = .returned (.int .i64 (r.1 : Nat)) ∧ RefAt w' q (Gr T w w') r.2 ∧ Chg T w w' := by
  subst hr
  refine ⟨he, ⟨v', rs', hd, hf, fun k hk => ?_⟩, hc.weak (fun k hk => .inl (hs k hk))⟩
  rcases hn k hk with h | h
  · exact .inl (hs k h)
  · exact .inr ⟨h, hd.lt k hk⟩
theorem find_rs {d : Dk} {rs : List Rf} (hfs : d.fs = rs.map (fun r => (r.x, r.f))) (x : Nm) : d.find x = (rs.map (fun r => (r.x, r.f))).lookup x := by unfold Dk.find; rw [hfs]
theorem sans_fs {d : Dk} {rs : List Rf} (hfs : d.fs = rs.map (fun r => (r.x, r.f))) (x : Nm) : (d.del x).fs = (sans x rs).map (fun r => (r.x, r.f)) := by
  show d.fs.filter _ = _
  rw [hfs, List.filter_map]
  rfl
theorem sans_has {q : Nat} {v v' : Value} {rs : List Rf} {x : Nm} {n : Nat} (hv : ∀ k, v'.ownBlock = some k → n ≤ k) : ∀ k, RHas q v' (sans x rs) k → RHas q v rs k ∨ n ≤ k := by
  rintro k (h | h | ⟨r, hr, h⟩)
  · exact .inl (.inl h)
  · exact .inr (hv k h)
  · exact .inl (.inr (.inr ⟨r, (List.mem_filter.1 hr).1, h⟩))
theorem min_cast3 (a b : Nat) : min ((a : Nat) : Int) (b : Int) = ((min a b : Nat) : Int) := by omega
theorem room_cut {v : Value} {a3 : Option Addr} {n c3 K : Nat} (hv : v = .slice a3 n c3) (hk : K ≤ c3) : ∀ b, Value.room (.slice a3 K K) = some b → Value.room v = some b := fun b hb => by
  rw [hv]
  cases K with
  | zero => cases a3 <;> cases hb
  | succ K =>
    cases c3 with
    | zero => omega
    | succ c => cases a3 with
      | none => cases hb
      | some y => exact hb
theorem room_own {v : Value} {b : Nat} (h : Value.room v = some b) : v.ownBlock = some b := by
  unfold Value.room at h
  split at h
  · exact h
  · cases h
/-- An end of an operation at a file. -/
theorem rturn_mk {w w2 w3 : World} {q g cap : Nat} {rs : List Rf} {T : Nat → Prop} {d : Dk} {e : Ending} {k : Nat} {x : Nm}
    (hT : ∀ b, RHas q (.slice (some ⟨g, 0, none⟩) rs.length cap) rs b → T b) (he : e = .returned (.int .i64 (0 : Nat))) (hm : Rm w2 q (.slice (some ⟨g, 0, none⟩) rs.length cap) rs d.step.room d.step.left) (hfs : d.fs = rs.map (fun r => (r.x, r.f))) (hok : d.Ok)
    (hk : k < rs.length) (hx : rs[k].x = x) (r' : Rf) (hx' : r'.x = x) (ho : OwnF w3 (.slice (some ⟨g, 0, none⟩) (rs.set k r').length cap) (rs.set k r')) (hc3 : Chg (fun b => b = g) w2 w3) (hrow9 : SlcRow w3 5 1 r'.v r'.f.bytes.length (r'.f.bytes.map bval))
    (hrm : ∀ b, Value.room r'.v = some b → Value.room rs[k].v = some b ∨ w.heap.size ≤ b) (hc : Chg (RHas q (.slice (some ⟨g, 0, none⟩) rs.length cap) rs) w w2) {r : Nat × Dk} (hr : r = (0, d.step.turn x r'.f)) :
    e = .returned (.int .i64 (r.1 : Nat)) ∧ RefAt w3 q (Gr T w w3) r.2 ∧ Chg T w w3 := by
  have hob : (Value.slice (some ⟨g, 0, none⟩) rs.length cap).ownBlock = some g := rfl
  refine rdone_mk (n := 0) (d' := d.step.turn x r'.f) hT he (hm.turn (i := k) (by rw [List.length_set]) r' ho (hc3.weak (fun b hb => .inl (by rw [hob, hb]))) hrow9) (set_turn (d := d.step) hfs hok.nodup hk hx hx') (hc.trans hc3 (fun b hb => .inl (.inr (.inl (by rw [hob, hb]))))) (fun b hb => ?_) hr
  rcases hb with hb | hb | ⟨r, hr, hb1⟩
  · exact .inl (.inl hb)
  · exact .inl (.inr (.inl hb))
  · rcases List.mem_or_eq_of_mem_set hr with hr | he2
    · exact .inl (.inr (.inr ⟨r, hr, hb1⟩))
    · rw [he2] at hb1
      exact (hrm b hb1).imp (fun hb => .inr (.inr ⟨_, List.getElem_mem hk, hb⟩)) id

set_option maxHeartbeats 4000000 in
set_option maxRecDepth 20000 in
theorem rdo_remove {w : World} {q : Nat} {T : Nat → Prop} {d : Dk} (h : RefAt w q T d) (hok : d.Ok) (x y : Nm) (ba : Option Addr) (bl bc : Nat) (n : Int) :
    Calls Tryz.prog 12 #[.pointer (some ⟨q, 0, none⟩), .string ⟨#[114, 101, 109, 111, 118, 101]⟩, .string ⟨x.toArray⟩, .string ⟨y.toArray⟩, .slice ba bl bc, .int .i64 n] w fun e w' =>
      e = .returned (.int .i64 ((d.remove x).1 : Nat)) ∧ RefAt w' q (Gr T w w') (d.remove x).2 ∧ Chg T w w' := by
  obtain ⟨v, rs, hm, hfs, hT⟩ := h
  have hn : rs.length ≤ 200 := by have := hok.few; rw [hfs, List.length_map] at this; exact this
  have HM := Lib.hid hm
  have HFS := Lib.hid hfs
  have HT := Lib.hid hT
  have HOK := Lib.hid hok
  have c2 := hm.c.cell (j := 2) rfl
  have y2 := hm.c.free 2
  obtain ⟨R, hR⟩ : ∃ R, d.remove x = R := ⟨_, rfl⟩
  have HR := Lib.hid hR
  rw [hR]
  have hlf := hok.left
  by_cases h0 : d.left = 0
  · have hx : didB d.left = false := by rw [h0]; rfl
    have HX := Lib.hid hx
    have hb : (d.left == 0) = true := by simp [h0]
    clear hm hfs hT hok hR hx h0
    go_enter Tryz.func12, Tryz.ntmps12
    go_wp2_with fail
    go_ret
    exact rdone_mk (n := 14) (d' := d) HT.out rfl HM.out HFS.out (Chg.refl _ _) (fun k hk => .inl hk) (HR.out.symm.trans (at_not HX.out))
  · have HX : Hid (didB d.left = true) := decide_eq_true h0
    have hb : (d.left == 0) = false := beq_eq_false_iff_ne.2 h0
    by_cases hp : 0 < d.left
    · have hw64 : wrap64 (d.left - 1) = d.left - 1 := by unfold wrap64; omega
      obtain ⟨t1, t2⟩ := hm.lefts (d.left - 1)
      have HM1 : Hid (Rm (w.setCell ⟨q, 2, none⟩ (.int .i64 (d.left - 1))) q v rs d.step.room d.step.left) := by
        have e : d.step.left = d.left - 1 := if_pos hp
        unfold Hid
        rw [e]; exact t1
      have HC1 : Hid (Chg (fun k => k = q) w (w.setCell ⟨q, 2, none⟩ (.int .i64 (d.left - 1)))) := t2
      clear hm hfs hT hok hR h0 t1 t2
      go_enter Tryz.func12, Tryz.ntmps12
      go_upto_region 5 with fail
      generalize w.setCell ⟨q, 2, none⟩ (.int .i64 (d.left - 1)) = w1 at *
      clear c2 y2 hb hp hw64 hlf
      have HAT := Lib.hid (at_any HM1.out hn x)
      go_wp2_with (go_at_call 29; refine HAT.out.mono ?_)
      rintro e w2 ⟨rfl, hc2⟩
      have HM2 := Lib.hid (HM1.out.chg hc2 (fun _ _ h => h))
      have HC2 : Hid (Chg (RHas q v rs) w w2) := (HC1.out.weak (fun k hk => .inl (.inl hk))).trans hc2 (fun _ h => h.elim)
      clear hc2 HAT
      rcases plc_cases rs x with ⟨k, hk, h1, h2, h3⟩ | ⟨h1, h2, h3⟩
      · rw [h1]
        have HFD : Hid (d.find x = some rs[k].f) := by unfold Hid; rw [find_rs HFS.out x]; exact h3
        have HXK := Lib.hid h2
        have hk0 : ¬ (k : Int) < 0 := by omega
        have hkn : (k : Int) < (rs.length : Int) := by omega
        have c0 := HM2.out.c.cell (j := 0) rfl
        obtain ⟨a0, cap0, hv0, _, _, hcl⟩ := HM2.out.o.val
        obtain ⟨g, rfl, _, z1, z2⟩ := hcl k hk
        rw [hv0] at c0
        clear h1 h2 h3 hcl
        have HRM := Lib.hid (rremove_any HM2.out hn x)
        go_wp2_with (go_at_call 31; refine HRM.out.mono ?_)
        rintro e w3 ⟨rfl, v3, hm3, hv3, hc3⟩
        have HM3 := Lib.hid hm3
        have HC3 := Lib.hid (HC2.out.trans (hc3.weak (fun k hk => .inl (.inl hk))) (fun _ h => .inl h))
        have hsz := HC2.out.size
        have HV3 : Hid (∀ k, v3.ownBlock = some k → w.heap.size ≤ k) := fun k hk => by have := hv3 k hk; omega
        clear hm3 hv3 hc3 HRM
        go_wp2_with fail
        go_ret
        exact rdone_mk (n := 0) (d' := d.step.del x) HT.out rfl HM3.out (sans_fs (d := d.step) HFS.out x) HC3.out (sans_has HV3.out) (HR.out.symm.trans (at_some HFD.out HX.out))
      · rw [h1]
        have HFN : Hid (d.find x = none) := by unfold Hid; rw [find_rs HFS.out x]; exact h3
        clear h1 h2 h3
        go_wp2_with fail
        go_ret
        exact rdone_mk (n := 7) (d' := d.step) HT.out rfl HM2.out HFS.out HC2.out (fun k hk => .inl hk) (HR.out.symm.trans (at_none HFN.out HX.out))
    · have HM1 : Hid (Rm w q v rs d.step.room d.step.left) := by
        have e : d.step.left = d.left := if_neg hp
        unfold Hid
        rw [e]; exact hm
      have HC1 : Hid (Chg (fun k => k = q) w w) := Chg.refl _ w
      clear hm hfs hT hok hR h0
      go_enter Tryz.func12, Tryz.ntmps12
      go_upto_region 5 with fail
      clear c2 y2 hb hp hlf
      have HAT := Lib.hid (at_any HM1.out hn x)
      go_wp2_with (go_at_call 29; refine HAT.out.mono ?_)
      rintro e w2 ⟨rfl, hc2⟩
      have HM2 := Lib.hid (HM1.out.chg hc2 (fun _ _ h => h))
      have HC2 : Hid (Chg (RHas q v rs) w w2) := (HC1.out.weak (fun k hk => .inl (.inl hk))).trans hc2 (fun _ h => h.elim)
      clear hc2 HAT
      rcases plc_cases rs x with ⟨k, hk, h1, h2, h3⟩ | ⟨h1, h2, h3⟩
      · rw [h1]
        have HFD : Hid (d.find x = some rs[k].f) := by unfold Hid; rw [find_rs HFS.out x]; exact h3
        have HXK := Lib.hid h2
        have hk0 : ¬ (k : Int) < 0 := by omega
        have hkn : (k : Int) < (rs.length : Int) := by omega
        have c0 := HM2.out.c.cell (j := 0) rfl
        obtain ⟨a0, cap0, hv0, _, _, hcl⟩ := HM2.out.o.val
        obtain ⟨g, rfl, _, z1, z2⟩ := hcl k hk
        rw [hv0] at c0
        clear h1 h2 h3 hcl
        have HRM := Lib.hid (rremove_any HM2.out hn x)
        go_wp2_with (go_at_call 31; refine HRM.out.mono ?_)
        rintro e w3 ⟨rfl, v3, hm3, hv3, hc3⟩
        have HM3 := Lib.hid hm3
        have HC3 := Lib.hid (HC2.out.trans (hc3.weak (fun k hk => .inl (.inl hk))) (fun _ h => .inl h))
        have hsz := HC2.out.size
        have HV3 : Hid (∀ k, v3.ownBlock = some k → w.heap.size ≤ k) := fun k hk => by have := hv3 k hk; omega
        clear hm3 hv3 hc3 HRM
        go_wp2_with fail
        go_ret
        exact rdone_mk (n := 0) (d' := d.step.del x) HT.out rfl HM3.out (sans_fs (d := d.step) HFS.out x) HC3.out (sans_has HV3.out) (HR.out.symm.trans (at_some HFD.out HX.out))
      · rw [h1]
        have HFN : Hid (d.find x = none) := by unfold Hid; rw [find_rs HFS.out x]; exact h3
        clear h1 h2 h3
        go_wp2_with fail
        go_ret
        exact rdone_mk (n := 7) (d' := d.step) HT.out rfl HM2.out HFS.out HC2.out (fun k hk => .inl hk) (HR.out.symm.trans (at_none HFN.out HX.out))

set_option maxHeartbeats 4000000 in
set_option maxRecDepth 20000 in
theorem rdo_sync {w : World} {q : Nat} {T : Nat → Prop} {d : Dk} (h : RefAt w q T d) (hok : d.Ok) (x y : Nm) (ba : Option Addr) (bl bc : Nat) (n : Int) :
    Calls Tryz.prog 12 #[.pointer (some ⟨q, 0, none⟩), .string ⟨#[115, 121, 110, 99]⟩, .string ⟨x.toArray⟩, .string ⟨y.toArray⟩, .slice ba bl bc, .int .i64 n] w fun e w' =>
      e = .returned (.int .i64 ((d.sync x).1 : Nat)) ∧ RefAt w' q (Gr T w w') (d.sync x).2 ∧ Chg T w w' := by
  obtain ⟨v, rs, hm, hfs, hT⟩ := h
  have hn : rs.length ≤ 200 := by have := hok.few; rw [hfs, List.length_map] at this; exact this
  have HM := Lib.hid hm
  have HFS := Lib.hid hfs
  have HT := Lib.hid hT
  have HOK := Lib.hid hok
  have c2 := hm.c.cell (j := 2) rfl
  have y2 := hm.c.free 2
  obtain ⟨R, hR⟩ : ∃ R, d.sync x = R := ⟨_, rfl⟩
  have HR := Lib.hid hR
  rw [hR]
  have hlf := hok.left
  by_cases h0 : d.left = 0
  · have hx : didB d.left = false := by rw [h0]; rfl
    have HX := Lib.hid hx
    have hb : (d.left == 0) = true := by simp [h0]
    clear hm hfs hT hok hR hx h0
    go_enter Tryz.func12, Tryz.ntmps12
    go_wp2_with fail
    go_ret
    exact rdone_mk (n := 14) (d' := d) HT.out rfl HM.out HFS.out (Chg.refl _ _) (fun k hk => .inl hk) (HR.out.symm.trans (at_not HX.out))
  · have HX : Hid (didB d.left = true) := decide_eq_true h0
    have hb : (d.left == 0) = false := beq_eq_false_iff_ne.2 h0
    by_cases hp : 0 < d.left
    · have hw64 : wrap64 (d.left - 1) = d.left - 1 := by unfold wrap64; omega
      obtain ⟨t1, t2⟩ := hm.lefts (d.left - 1)
      have HM1 : Hid (Rm (w.setCell ⟨q, 2, none⟩ (.int .i64 (d.left - 1))) q v rs d.step.room d.step.left) := by
        have e : d.step.left = d.left - 1 := if_pos hp
        unfold Hid
        rw [e]; exact t1
      have HC1 : Hid (Chg (fun k => k = q) w (w.setCell ⟨q, 2, none⟩ (.int .i64 (d.left - 1)))) := t2
      clear hm hfs hT hok hR h0 t1 t2
      go_enter Tryz.func12, Tryz.ntmps12
      go_upto_region 5 with fail
      generalize w.setCell ⟨q, 2, none⟩ (.int .i64 (d.left - 1)) = w1 at *
      clear c2 y2 hb hp hw64 hlf
      have HAT := Lib.hid (at_any HM1.out hn x)
      go_wp2_with (go_at_call 29; refine HAT.out.mono ?_)
      rintro e w2 ⟨rfl, hc2⟩
      have HM2 := Lib.hid (HM1.out.chg hc2 (fun _ _ h => h))
      have HC2 : Hid (Chg (RHas q v rs) w w2) := (HC1.out.weak (fun k hk => .inl (.inl hk))).trans hc2 (fun _ h => h.elim)
      clear hc2 HAT
      rcases plc_cases rs x with ⟨k, hk, h1, h2, h3⟩ | ⟨h1, h2, h3⟩
      · rw [h1]
        have HFD : Hid (d.find x = some rs[k].f) := by unfold Hid; rw [find_rs HFS.out x]; exact h3
        have HXK := Lib.hid h2
        have hk0 : ¬ (k : Int) < 0 := by omega
        have hkn : (k : Int) < (rs.length : Int) := by omega
        have c0 := HM2.out.c.cell (j := 0) rfl
        obtain ⟨a0, cap0, hv0, _, _, hcl⟩ := HM2.out.o.val
        obtain ⟨g, rfl, _, z1, z2⟩ := hcl k hk
        rw [hv0] at c0
        clear h1 h2 h3 hcl
        subst hv0
        obtain ⟨a3, c3, hsv, hby3, hle3, hcm3, hrm3⟩ := (HM2.out.b _ (List.getElem_mem hk)).bytes
        rw [hsv] at z1
        have f1 := HM2.out.o.free (k * 3 + 1)
        have f2 := HM2.out.o.free (k * 3 + 2)
        have HSV := Lib.hid hsv
        have HLE := Lib.hid hle3
        clear hsv hby3 hcm3 hrm3
        go_wp2_with fail
        go_ret
        have hs1 : Chg (fun b => b = g) w2 (w2.setCell ⟨g, k * 3 + 2, none⟩ (.int .i64 (rs[k].f.bytes.length : Nat))) := Chg.setCell (S := fun b => b = g) (p := ⟨g, k * 3 + 2, none⟩) (Chg.refl _ w2) (.inl rfl) _
        have hmem := List.getElem_mem hk
        refine rturn_mk HT.out rfl HM2.out HFS.out HOK.out hk HXK.out ⟨rs[k].x, ⟨rs[k].f.bytes, rs[k].f.bytes.length⟩, rs[k].v⟩ HXK.out (HM2.out.o.put hk (j := 2) (by omega) (.int .i64 (rs[k].f.bytes.length : Nat)) ⟨rs[k].x, ⟨rs[k].f.bytes, rs[k].f.bytes.length⟩, rs[k].v⟩ rfl) hs1 ?_ (fun b hb => .inl hb) HC2.out (HR.out.symm.trans (at_some HFD.out HX.out))
        exact (HM2.out.b _ hmem).chg hs1 (fun b hb e => (HM2.out.ne.2 _ hmem).2 g rfl (hb.trans (congrArg some e)))
      · rw [h1]
        have HFN : Hid (d.find x = none) := by unfold Hid; rw [find_rs HFS.out x]; exact h3
        clear h1 h2 h3
        go_wp2_with fail
        go_ret
        exact rdone_mk (n := 7) (d' := d.step) HT.out rfl HM2.out HFS.out HC2.out (fun k hk => .inl hk) (HR.out.symm.trans (at_none HFN.out HX.out))
    · have HM1 : Hid (Rm w q v rs d.step.room d.step.left) := by
        have e : d.step.left = d.left := if_neg hp
        unfold Hid
        rw [e]; exact hm
      have HC1 : Hid (Chg (fun k => k = q) w w) := Chg.refl _ w
      clear hm hfs hT hok hR h0
      go_enter Tryz.func12, Tryz.ntmps12
      go_upto_region 5 with fail
      clear c2 y2 hb hp hlf
      have HAT := Lib.hid (at_any HM1.out hn x)
      go_wp2_with (go_at_call 29; refine HAT.out.mono ?_)
      rintro e w2 ⟨rfl, hc2⟩
      have HM2 := Lib.hid (HM1.out.chg hc2 (fun _ _ h => h))
      have HC2 : Hid (Chg (RHas q v rs) w w2) := (HC1.out.weak (fun k hk => .inl (.inl hk))).trans hc2 (fun _ h => h.elim)
      clear hc2 HAT
      rcases plc_cases rs x with ⟨k, hk, h1, h2, h3⟩ | ⟨h1, h2, h3⟩
      · rw [h1]
        have HFD : Hid (d.find x = some rs[k].f) := by unfold Hid; rw [find_rs HFS.out x]; exact h3
        have HXK := Lib.hid h2
        have hk0 : ¬ (k : Int) < 0 := by omega
        have hkn : (k : Int) < (rs.length : Int) := by omega
        have c0 := HM2.out.c.cell (j := 0) rfl
        obtain ⟨a0, cap0, hv0, _, _, hcl⟩ := HM2.out.o.val
        obtain ⟨g, rfl, _, z1, z2⟩ := hcl k hk
        rw [hv0] at c0
        clear h1 h2 h3 hcl
        subst hv0
        obtain ⟨a3, c3, hsv, hby3, hle3, hcm3, hrm3⟩ := (HM2.out.b _ (List.getElem_mem hk)).bytes
        rw [hsv] at z1
        have f1 := HM2.out.o.free (k * 3 + 1)
        have f2 := HM2.out.o.free (k * 3 + 2)
        have HSV := Lib.hid hsv
        have HLE := Lib.hid hle3
        clear hsv hby3 hcm3 hrm3
        go_wp2_with fail
        go_ret
        have hs1 : Chg (fun b => b = g) w2 (w2.setCell ⟨g, k * 3 + 2, none⟩ (.int .i64 (rs[k].f.bytes.length : Nat))) := Chg.setCell (S := fun b => b = g) (p := ⟨g, k * 3 + 2, none⟩) (Chg.refl _ w2) (.inl rfl) _
        have hmem := List.getElem_mem hk
        refine rturn_mk HT.out rfl HM2.out HFS.out HOK.out hk HXK.out ⟨rs[k].x, ⟨rs[k].f.bytes, rs[k].f.bytes.length⟩, rs[k].v⟩ HXK.out (HM2.out.o.put hk (j := 2) (by omega) (.int .i64 (rs[k].f.bytes.length : Nat)) ⟨rs[k].x, ⟨rs[k].f.bytes, rs[k].f.bytes.length⟩, rs[k].v⟩ rfl) hs1 ?_ (fun b hb => .inl hb) HC2.out (HR.out.symm.trans (at_some HFD.out HX.out))
        exact (HM2.out.b _ hmem).chg hs1 (fun b hb e => (HM2.out.ne.2 _ hmem).2 g rfl (hb.trans (congrArg some e)))
      · rw [h1]
        have HFN : Hid (d.find x = none) := by unfold Hid; rw [find_rs HFS.out x]; exact h3
        clear h1 h2 h3
        go_wp2_with fail
        go_ret
        exact rdone_mk (n := 7) (d' := d.step) HT.out rfl HM2.out HFS.out HC2.out (fun k hk => .inl hk) (HR.out.symm.trans (at_none HFN.out HX.out))

set_option maxHeartbeats 4000000 in
set_option maxRecDepth 20000 in
theorem rdo_cut {w : World} {q : Nat} {T : Nat → Prop} {d : Dk} (h : RefAt w q T d) (hok : d.Ok) (x y : Nm) (ba : Option Addr) (bl bc : Nat) (n : Int) :
    Calls Tryz.prog 12 #[.pointer (some ⟨q, 0, none⟩), .string ⟨#[99, 117, 116]⟩, .string ⟨x.toArray⟩, .string ⟨y.toArray⟩, .slice ba bl bc, .int .i64 n] w fun e w' =>
      e = .returned (.int .i64 ((d.cut x n).1 : Nat)) ∧ RefAt w' q (Gr T w w') (d.cut x n).2 ∧ Chg T w w' := by
  obtain ⟨v, rs, hm, hfs, hT⟩ := h
  have hn : rs.length ≤ 200 := by have := hok.few; rw [hfs, List.length_map] at this; exact this
  have HM := Lib.hid hm
  have HFS := Lib.hid hfs
  have HT := Lib.hid hT
  have HOK := Lib.hid hok
  have c2 := hm.c.cell (j := 2) rfl
  have y2 := hm.c.free 2
  obtain ⟨R, hR⟩ : ∃ R, d.cut x n = R := ⟨_, rfl⟩
  have HR := Lib.hid hR
  rw [hR]
  have hlf := hok.left
  by_cases h0 : d.left = 0
  · have hx : didB d.left = false := by rw [h0]; rfl
    have HX := Lib.hid hx
    have hb : (d.left == 0) = true := by simp [h0]
    clear hm hfs hT hok hR hx h0
    go_enter Tryz.func12, Tryz.ntmps12
    go_wp2_with fail
    go_ret
    exact rdone_mk (n := 14) (d' := d) HT.out rfl HM.out HFS.out (Chg.refl _ _) (fun k hk => .inl hk) (HR.out.symm.trans (at_not HX.out))
  · have HX : Hid (didB d.left = true) := decide_eq_true h0
    have hb : (d.left == 0) = false := beq_eq_false_iff_ne.2 h0
    by_cases hp : 0 < d.left
    · have hw64 : wrap64 (d.left - 1) = d.left - 1 := by unfold wrap64; omega
      obtain ⟨t1, t2⟩ := hm.lefts (d.left - 1)
      have HM1 : Hid (Rm (w.setCell ⟨q, 2, none⟩ (.int .i64 (d.left - 1))) q v rs d.step.room d.step.left) := by
        have e : d.step.left = d.left - 1 := if_pos hp
        unfold Hid
        rw [e]; exact t1
      have HC1 : Hid (Chg (fun k => k = q) w (w.setCell ⟨q, 2, none⟩ (.int .i64 (d.left - 1)))) := t2
      clear hm hfs hT hok hR h0 t1 t2
      go_enter Tryz.func12, Tryz.ntmps12
      go_upto_region 5 with fail
      generalize w.setCell ⟨q, 2, none⟩ (.int .i64 (d.left - 1)) = w1 at *
      clear c2 y2 hb hp hw64 hlf
      have HAT := Lib.hid (at_any HM1.out hn x)
      go_wp2_with (go_at_call 29; refine HAT.out.mono ?_)
      rintro e w2 ⟨rfl, hc2⟩
      have HM2 := Lib.hid (HM1.out.chg hc2 (fun _ _ h => h))
      have HC2 : Hid (Chg (RHas q v rs) w w2) := (HC1.out.weak (fun k hk => .inl (.inl hk))).trans hc2 (fun _ h => h.elim)
      clear hc2 HAT
      rcases plc_cases rs x with ⟨k, hk, h1, h2, h3⟩ | ⟨h1, h2, h3⟩
      · rw [h1]
        have HFD : Hid (d.find x = some rs[k].f) := by unfold Hid; rw [find_rs HFS.out x]; exact h3
        have HXK := Lib.hid h2
        have hk0 : ¬ (k : Int) < 0 := by omega
        have hkn : (k : Int) < (rs.length : Int) := by omega
        have c0 := HM2.out.c.cell (j := 0) rfl
        obtain ⟨a0, cap0, hv0, _, _, hcl⟩ := HM2.out.o.val
        obtain ⟨g, rfl, _, z1, z2⟩ := hcl k hk
        rw [hv0] at c0
        clear h1 h2 h3 hcl
        subst hv0
        obtain ⟨a3, c3, hsv, hby3, hle3, hcm3, hrm3⟩ := (HM2.out.b _ (List.getElem_mem hk)).bytes
        rw [hsv] at z1
        have f1 := HM2.out.o.free (k * 3 + 1)
        have f2 := HM2.out.o.free (k * 3 + 2)
        have HSV := Lib.hid hsv
        have HLE := Lib.hid hle3
        clear hsv hby3 hcm3 hrm3
        by_cases hbad : n < 0 ∨ (rs[k].f.bytes.length : Int) < n
        · have HBAD := Lib.hid hbad
          have HFIN : Hid (Ending.returned (Value.int .i64 2) = .returned (.int .i64 (R.1 : Nat)) ∧ RefAt w2 q (Gr T w w2) R.2 ∧ Chg T w w2) := by
            refine rdone_mk (n := 2) (d' := d.step) HT.out rfl HM2.out HFS.out HC2.out (fun k hk => .inl hk) (HR.out.symm.trans ((at_some HFD.out HX.out).trans ?_))
            simp only [if_pos HBAD.out, id]
          by_cases hn0 : n < 0
          · clear hbad
            go_wp2_with fail
            go_ret
            exact HFIN.out
          · have hn1 : (rs[k].f.bytes.length : Int) < n := by omega
            clear hbad
            go_wp2_with fail
            go_ret
            exact HFIN.out
        · have HBAD := Lib.hid hbad
          obtain ⟨K, rfl⟩ : ∃ K : Nat, n = (K : Int) := ⟨n.toNat, by omega⟩
          have hKL : K ≤ rs[k].f.bytes.length := by omega
          have hn0 : ¬ (K : Int) < 0 := by omega
          have hn1 : ¬ (rs[k].f.bytes.length : Int) < (K : Int) := by omega
          have hk2 : K ≤ c3 := by omega
          have hk3 : 0 ≤ K := Nat.zero_le _
          have hmn : min ((rs[k].f.safe : Nat) : Int) (K : Int) = ((min rs[k].f.safe K : Nat) : Int) := min_cast3 _ _
          obtain ⟨M, hM⟩ : ∃ M, min rs[k].f.safe K = M := ⟨_, rfl⟩
          rw [hM] at hmn
          have HMN := Lib.hid hM
          clear hbad hM
          go_wp2_with fail
          go_ret
          have hmem := List.getElem_mem hk
          have hrow := HM2.out.b _ hmem
          rw [HSV.out] at hrow
          have hrow2 := hrow.cut hKL
          have hlk : (rs[k].f.bytes.take K).length = K := by rw [List.length_take]; omega
          have hs1 : Chg (fun b => b = g) w2 (w2.setCell ⟨g, k * 3 + 1, none⟩ (.slice a3 K K)) := Chg.setCell (S := fun b => b = g) (p := ⟨g, k * 3 + 1, none⟩) (Chg.refl _ w2) (.inl rfl) _
          have hs2 : Chg (fun b => b = g) w2 ((w2.setCell ⟨g, k * 3 + 1, none⟩ (.slice a3 K K)).setCell ⟨g, k * 3 + 2, none⟩ (.int .i64 (M : Nat))) := Chg.setCell (S := fun b => b = g) (p := ⟨g, k * 3 + 2, none⟩) hs1 (.inl rfl) _
          have hroom : ∀ b, Value.room (.slice a3 K K) = some b → Value.room rs[k].v = some b := room_cut HSV.out hk2
          have hput1 := HM2.out.o.put hk (j := 1) (by omega) (.slice a3 K K) ⟨rs[k].x, rs[k].f, .slice a3 K K⟩ rfl
          have hk9 : k < (rs.set k (⟨rs[k].x, rs[k].f, .slice a3 K K⟩ : Rf)).length := by rw [List.length_set]; exact hk
          have hg2 : (rs.set k (⟨rs[k].x, rs[k].f, .slice a3 K K⟩ : Rf))[k] = ⟨rs[k].x, rs[k].f, .slice a3 K K⟩ := by simp
          have hput2 := hput1.put hk9 (j := 2) (by omega) (.int .i64 (M : Nat)) ⟨rs[k].x, ⟨rs[k].f.bytes.take K, M⟩, .slice a3 K K⟩ (by rw [hg2]; rfl)
          rw [List.set_set] at hput2
          refine rturn_mk HT.out rfl HM2.out HFS.out HOK.out hk HXK.out ⟨rs[k].x, ⟨rs[k].f.bytes.take K, M⟩, .slice a3 K K⟩ HXK.out hput2 hs2 (hrow2.chg hs2 (fun b hb e => (HM2.out.ne.2 _ hmem).2 g rfl ((hroom b hb).trans (congrArg some e)))) (fun b hb => .inl (hroom b hb)) HC2.out (HR.out.symm.trans ((at_some HFD.out HX.out).trans ?_))
          have h1 : ((K : Int)).toNat = K := Int.toNat_natCast K
          simp only [if_neg HBAD.out, h1, HMN.out]
      · rw [h1]
        have HFN : Hid (d.find x = none) := by unfold Hid; rw [find_rs HFS.out x]; exact h3
        clear h1 h2 h3
        go_wp2_with fail
        go_ret
        exact rdone_mk (n := 7) (d' := d.step) HT.out rfl HM2.out HFS.out HC2.out (fun k hk => .inl hk) (HR.out.symm.trans (at_none HFN.out HX.out))
    · have HM1 : Hid (Rm w q v rs d.step.room d.step.left) := by
        have e : d.step.left = d.left := if_neg hp
        unfold Hid
        rw [e]; exact hm
      have HC1 : Hid (Chg (fun k => k = q) w w) := Chg.refl _ w
      clear hm hfs hT hok hR h0
      go_enter Tryz.func12, Tryz.ntmps12
      go_upto_region 5 with fail
      clear c2 y2 hb hp hlf
      have HAT := Lib.hid (at_any HM1.out hn x)
      go_wp2_with (go_at_call 29; refine HAT.out.mono ?_)
      rintro e w2 ⟨rfl, hc2⟩
      have HM2 := Lib.hid (HM1.out.chg hc2 (fun _ _ h => h))
      have HC2 : Hid (Chg (RHas q v rs) w w2) := (HC1.out.weak (fun k hk => .inl (.inl hk))).trans hc2 (fun _ h => h.elim)
      clear hc2 HAT
      rcases plc_cases rs x with ⟨k, hk, h1, h2, h3⟩ | ⟨h1, h2, h3⟩
      · rw [h1]
        have HFD : Hid (d.find x = some rs[k].f) := by unfold Hid; rw [find_rs HFS.out x]; exact h3
        have HXK := Lib.hid h2
        have hk0 : ¬ (k : Int) < 0 := by omega
        have hkn : (k : Int) < (rs.length : Int) := by omega
        have c0 := HM2.out.c.cell (j := 0) rfl
        obtain ⟨a0, cap0, hv0, _, _, hcl⟩ := HM2.out.o.val
        obtain ⟨g, rfl, _, z1, z2⟩ := hcl k hk
        rw [hv0] at c0
        clear h1 h2 h3 hcl
        subst hv0
        obtain ⟨a3, c3, hsv, hby3, hle3, hcm3, hrm3⟩ := (HM2.out.b _ (List.getElem_mem hk)).bytes
        rw [hsv] at z1
        have f1 := HM2.out.o.free (k * 3 + 1)
        have f2 := HM2.out.o.free (k * 3 + 2)
        have HSV := Lib.hid hsv
        have HLE := Lib.hid hle3
        clear hsv hby3 hcm3 hrm3
        by_cases hbad : n < 0 ∨ (rs[k].f.bytes.length : Int) < n
        · have HBAD := Lib.hid hbad
          have HFIN : Hid (Ending.returned (Value.int .i64 2) = .returned (.int .i64 (R.1 : Nat)) ∧ RefAt w2 q (Gr T w w2) R.2 ∧ Chg T w w2) := by
            refine rdone_mk (n := 2) (d' := d.step) HT.out rfl HM2.out HFS.out HC2.out (fun k hk => .inl hk) (HR.out.symm.trans ((at_some HFD.out HX.out).trans ?_))
            simp only [if_pos HBAD.out, id]
          by_cases hn0 : n < 0
          · clear hbad
            go_wp2_with fail
            go_ret
            exact HFIN.out
          · have hn1 : (rs[k].f.bytes.length : Int) < n := by omega
            clear hbad
            go_wp2_with fail
            go_ret
            exact HFIN.out
        · have HBAD := Lib.hid hbad
          obtain ⟨K, rfl⟩ : ∃ K : Nat, n = (K : Int) := ⟨n.toNat, by omega⟩
          have hKL : K ≤ rs[k].f.bytes.length := by omega
          have hn0 : ¬ (K : Int) < 0 := by omega
          have hn1 : ¬ (rs[k].f.bytes.length : Int) < (K : Int) := by omega
          have hk2 : K ≤ c3 := by omega
          have hk3 : 0 ≤ K := Nat.zero_le _
          have hmn : min ((rs[k].f.safe : Nat) : Int) (K : Int) = ((min rs[k].f.safe K : Nat) : Int) := min_cast3 _ _
          obtain ⟨M, hM⟩ : ∃ M, min rs[k].f.safe K = M := ⟨_, rfl⟩
          rw [hM] at hmn
          have HMN := Lib.hid hM
          clear hbad hM
          go_wp2_with fail
          go_ret
          have hmem := List.getElem_mem hk
          have hrow := HM2.out.b _ hmem
          rw [HSV.out] at hrow
          have hrow2 := hrow.cut hKL
          have hlk : (rs[k].f.bytes.take K).length = K := by rw [List.length_take]; omega
          have hs1 : Chg (fun b => b = g) w2 (w2.setCell ⟨g, k * 3 + 1, none⟩ (.slice a3 K K)) := Chg.setCell (S := fun b => b = g) (p := ⟨g, k * 3 + 1, none⟩) (Chg.refl _ w2) (.inl rfl) _
          have hs2 : Chg (fun b => b = g) w2 ((w2.setCell ⟨g, k * 3 + 1, none⟩ (.slice a3 K K)).setCell ⟨g, k * 3 + 2, none⟩ (.int .i64 (M : Nat))) := Chg.setCell (S := fun b => b = g) (p := ⟨g, k * 3 + 2, none⟩) hs1 (.inl rfl) _
          have hroom : ∀ b, Value.room (.slice a3 K K) = some b → Value.room rs[k].v = some b := room_cut HSV.out hk2
          have hput1 := HM2.out.o.put hk (j := 1) (by omega) (.slice a3 K K) ⟨rs[k].x, rs[k].f, .slice a3 K K⟩ rfl
          have hk9 : k < (rs.set k (⟨rs[k].x, rs[k].f, .slice a3 K K⟩ : Rf)).length := by rw [List.length_set]; exact hk
          have hg2 : (rs.set k (⟨rs[k].x, rs[k].f, .slice a3 K K⟩ : Rf))[k] = ⟨rs[k].x, rs[k].f, .slice a3 K K⟩ := by simp
          have hput2 := hput1.put hk9 (j := 2) (by omega) (.int .i64 (M : Nat)) ⟨rs[k].x, ⟨rs[k].f.bytes.take K, M⟩, .slice a3 K K⟩ (by rw [hg2]; rfl)
          rw [List.set_set] at hput2
          refine rturn_mk HT.out rfl HM2.out HFS.out HOK.out hk HXK.out ⟨rs[k].x, ⟨rs[k].f.bytes.take K, M⟩, .slice a3 K K⟩ HXK.out hput2 hs2 (hrow2.chg hs2 (fun b hb e => (HM2.out.ne.2 _ hmem).2 g rfl ((hroom b hb).trans (congrArg some e)))) (fun b hb => .inl (hroom b hb)) HC2.out (HR.out.symm.trans ((at_some HFD.out HX.out).trans ?_))
          have h1 : ((K : Int)).toNat = K := Int.toNat_natCast K
          simp only [if_neg HBAD.out, h1, HMN.out]
      · rw [h1]
        have HFN : Hid (d.find x = none) := by unfold Hid; rw [find_rs HFS.out x]; exact h3
        clear h1 h2 h3
        go_wp2_with fail
        go_ret
        exact rdone_mk (n := 7) (d' := d.step) HT.out rfl HM2.out HFS.out HC2.out (fun k hk => .inl hk) (HR.out.symm.trans (at_none HFN.out HX.out))

set_option maxHeartbeats 4000000 in
set_option maxRecDepth 20000 in
theorem rdo_add {w : World} {q : Nat} {T : Nat → Prop} {d : Dk} (h : RefAt w q T d) (hok : d.Ok) (x y : Nm) (ba : Option Addr) (l : List UInt8) (bc : Nat) (hl : l.length ≤ 4611686018427387904) (hby : BytesAt w ba l) (hbn : l ≠ [] → ∀ z, ba = some z → ¬ T z.block) (n : Int) :
    Calls Tryz.prog 12 #[.pointer (some ⟨q, 0, none⟩), .string ⟨#[97, 100, 100]⟩, .string ⟨x.toArray⟩, .string ⟨y.toArray⟩, .slice ba l.length bc, .int .i64 n] w fun e w' =>
      e = .returned (.int .i64 ((d.add x l).1 : Nat)) ∧ RefAt w' q (Gr T w w') (d.add x l).2 ∧ Chg T w w' := by
  obtain ⟨v, rs, hm, hfs, hT⟩ := h
  have hn : rs.length ≤ 200 := by have := hok.few; rw [hfs, List.length_map] at this; exact this
  have HM := Lib.hid hm
  have HFS := Lib.hid hfs
  have HT := Lib.hid hT
  have HOK := Lib.hid hok
  have c2 := hm.c.cell (j := 2) rfl
  have y2 := hm.c.free 2
  have HBY := Lib.hid hby
  have HBN := Lib.hid hbn
  clear hby hbn
  obtain ⟨R, hR⟩ : ∃ R, d.add x l = R := ⟨_, rfl⟩
  have HR := Lib.hid hR
  rw [hR]
  have hlf := hok.left
  by_cases h0 : d.left = 0
  · have hx : didB d.left = false := by rw [h0]; rfl
    have HX := Lib.hid hx
    have hb : (d.left == 0) = true := by simp [h0]
    clear hm hfs hT hok hR hx h0
    go_enter Tryz.func12, Tryz.ntmps12
    go_wp2_with fail
    go_ret
    exact rdone_mk (n := 14) (d' := d) HT.out rfl HM.out HFS.out (Chg.refl _ _) (fun k hk => .inl hk) (HR.out.symm.trans (at_not HX.out))
  · have HX : Hid (didB d.left = true) := decide_eq_true h0
    have hb : (d.left == 0) = false := beq_eq_false_iff_ne.2 h0
    by_cases hp : 0 < d.left
    · have hw64 : wrap64 (d.left - 1) = d.left - 1 := by unfold wrap64; omega
      obtain ⟨t1, t2⟩ := hm.lefts (d.left - 1)
      have HM1 : Hid (Rm (w.setCell ⟨q, 2, none⟩ (.int .i64 (d.left - 1))) q v rs d.step.room d.step.left) := by
        have e : d.step.left = d.left - 1 := if_pos hp
        unfold Hid
        rw [e]; exact t1
      have HC1 : Hid (Chg (fun k => k = q) w (w.setCell ⟨q, 2, none⟩ (.int .i64 (d.left - 1)))) := t2
      clear hm hfs hT hok hR h0 t1 t2
      go_enter Tryz.func12, Tryz.ntmps12
      go_upto_region 5 with fail
      generalize w.setCell ⟨q, 2, none⟩ (.int .i64 (d.left - 1)) = w1 at *
      clear c2 y2 hb hp hw64 hlf
      have HAT := Lib.hid (at_any HM1.out hn x)
      go_wp2_with (go_at_call 29; refine HAT.out.mono ?_)
      rintro e w2 ⟨rfl, hc2⟩
      have HM2 := Lib.hid (HM1.out.chg hc2 (fun _ _ h => h))
      have HC2 : Hid (Chg (RHas q v rs) w w2) := (HC1.out.weak (fun k hk => .inl (.inl hk))).trans hc2 (fun _ h => h.elim)
      clear hc2 HAT
      rcases plc_cases rs x with ⟨k, hk, h1, h2, h3⟩ | ⟨h1, h2, h3⟩
      · rw [h1]
        have HFD : Hid (d.find x = some rs[k].f) := by unfold Hid; rw [find_rs HFS.out x]; exact h3
        have HXK := Lib.hid h2
        have hk0 : ¬ (k : Int) < 0 := by omega
        have hkn : (k : Int) < (rs.length : Int) := by omega
        have c0 := HM2.out.c.cell (j := 0) rfl
        obtain ⟨a0, cap0, hv0, _, _, hcl⟩ := HM2.out.o.val
        obtain ⟨g, rfl, _, z1, z2⟩ := hcl k hk
        rw [hv0] at c0
        clear h1 h2 h3 hcl
        subst hv0
        obtain ⟨a3, c3, hsv, hby3, hle3, hcm3, hrm3⟩ := (HM2.out.b _ (List.getElem_mem hk)).bytes
        rw [hsv] at z1
        have f1 := HM2.out.o.free (k * 3 + 1)
        have f2 := HM2.out.o.free (k * 3 + 2)
        have HSV := Lib.hid hsv
        have HLE := Lib.hid hle3
        clear hsv hby3 hcm3 hrm3
        have hus : usedR rs = d.used := (usedR_eq HFS.out).symm
        have hu1 : d.used ≤ 1048576 := Nat.le_trans HOK.out.fits HOK.out.room
        have HUS := Lib.hid (fun (w3 : World) (hw : Chg Nil w2 w3) => rused_any (HM2.out.chg hw (fun _ _ h => h)) hn (by rw [hus]; exact hu1))
        rw [hus] at HUS
        have hfit : rs[k].f.bytes.length ≤ d.used := by
          have h4 := usedR_take rs hk
          have h5 := usedR_le rs (k + 1)
          omega
        have HRC := Lib.hid (HM2.out.c.cell (j := 1) rfl)
        have hw64 : wrap64 ((d.used : Int) + (l.length : Int)) = (d.used : Int) + (l.length : Int) := by unfold wrap64; omega
        clear hus
        obtain ⟨u, hu⟩ : ∃ u, d.used = u := ⟨_, rfl⟩
        rw [hu] at HUS hw64 hu1 hfit
        have HU := Lib.hid hu
        obtain ⟨rm, hrm⟩ : ∃ rm, d.step.room = rm := ⟨_, rfl⟩
        rw [hrm] at HRC
        have HRM := Lib.hid hrm
        clear hu hrm
        go_upto_region 20 with fail
        refine wp_region_mono _ (Chg Nil) (by kernel_rfl) (fun _ _ _ h k => h.trans k (fun _ h => h.elim)) [[], [0], [], [2], [1, 3], [], [5], [6], [7], [4, 8]] rfl (by kernel_rfl) (Chg.refl _ _).drew ?_
        ((with_reducible apply Walk.eq); case h => (intro w2 hw2 N hN; simp only [depsOf, List.filterMap_nil, List.filterMap_cons, List.getElem?_toArray, List.getElem?_cons_zero, List.getElem?_cons_succ, Option.bind_some, List.nil_append, List.cons_append, Ob]; go_simp; (try go_bits); with_reducible exact hN _ (Chg.refl _ _)))
        (with_reducible apply Walk.eq); case h =>
          intro w3 hw3 N hN
          simp only [depsOf, List.filterMap_nil, List.filterMap_cons, List.getElem?_toArray, List.getElem?_cons_zero, List.getElem?_cons_succ, Option.bind_some, List.nil_append, List.cons_append, Ob]
          go_simp
          refine (HUS.out w3 hw3).mono ?_
          rintro e w4 ⟨rfl, hc4⟩
          exact ⟨_, rfl, hN _ hc4⟩
        iterate 6 ((with_reducible apply Walk.eq); case h => (intro w2 hw2 N hN; simp only [depsOf, List.filterMap_nil, List.filterMap_cons, List.getElem?_toArray, List.getElem?_cons_zero, List.getElem?_cons_succ, Option.bind_some, List.nil_append, List.cons_append, Ob]; go_simp; (try go_bits); with_reducible exact hN _ (Chg.refl _ _)))
        (with_reducible apply Walk.eq); case h =>
          intro w3 hw3 N hN
          have hq := hw3.cell HRC.out (fun h => h)
          simp only [depsOf, List.filterMap_nil, List.filterMap_cons, List.getElem?_toArray, List.getElem?_cons_zero, List.getElem?_cons_succ, Option.bind_some, List.nil_append, List.cons_append, Ob]
          go_simp
          exact hN _ (Chg.refl _ _)
        ((with_reducible apply Walk.eq); case h => (intro w2 hw2 N hN; simp only [depsOf, List.filterMap_nil, List.filterMap_cons, List.getElem?_toArray, List.getElem?_cons_zero, List.getElem?_cons_succ, Option.bind_some, List.nil_append, List.cons_append, Ob]; go_simp; (try go_bits); with_reducible exact hN _ (Chg.refl _ _)))
        intro w3 hw3
        simp only [List.nil_append, List.cons_append, Fin]
        go_simp
        have HM3 := Lib.hid (HM2.out.chg hw3 (fun _ _ h => h))
        have HC3 := Lib.hid (HC2.out.trans hw3 (fun _ h => h.elim))
        have z1 := hw3.cell z1 (fun h => h)
        have f1 := HM3.out.o.free (k * 3 + 1)
        clear HUS HRC hw64 hw3 HM2 HC2 c0 z2
        by_cases hfull : rm < u + l.length
        · have hfi : (rm : Int) < (u : Int) + (l.length : Int) := by omega
          have HFU := Lib.hid hfull
          clear hfull
          go_wp2_with fail
          go_ret
          refine rdone_mk (n := 12) (d' := d.step) HT.out rfl HM3.out HFS.out HC3.out (fun k hk => .inl hk) (HR.out.symm.trans ((at_some HFD.out HX.out).trans ?_))
          have hcond : d.room < d.used + l.length := by rw [show d.room = rm from HRM.out, HU.out]; exact HFU.out
          simp only [if_pos hcond, id]
        · have hfi : ¬ (rm : Int) < (u : Int) + (l.length : Int) := by omega
          have HFU := Lib.hid hfull
          have HLL : Hid (rs[k].f.bytes.length + l.length ≤ 1048576) := by
            have h1 := HRM.out
            have h2 : d.step.room ≤ 1048576 := HOK.out.room
            unfold Hid; omega
          have HSRC := Lib.hid (bytes_keep HC3.out HBY.out (fun hne z hz hk => HBN.out hne z hz (HT.out _ hk)))
          have hmem := List.getElem_mem hk
          obtain ⟨a4, c4, hsv4, hby4, _, hcm4, hrm4⟩ := (HM3.out.b _ hmem).bytes
          have e4 := HSV.out.symm.trans hsv4
          simp only [Value.slice.injEq] at e4
          obtain ⟨rfl, _, rfl⟩ := e4
          have hal := (Chg.refl Nil w3).alloc (.cells #[] 5)
          have HBF := Lib.hid (hal.bytesAt hby4 (fun _ _ h => h))
          have HSR2 := Lib.hid (hal.bytesAt HSRC.out (fun _ _ h => h))
          have z1 := hal.cell z1 (fun h => h)
          have HO0 : Hid (OwnB 5 (w3.alloc (.cells #[] 5)) (.slice (some ⟨w3.heap.size, 0, none⟩) 0 0) []) := OwnB.new (l := []) (by simp)
          have HM4 := Lib.hid (HM3.out.chg hal (fun _ _ h => h))
          have HC4 := Lib.hid (HC3.out.trans hal (fun _ h => h.elim))
          clear hfull hsv4 hby4 hcm4 hrm4 hal f1
          have HNB : Hid (l ≠ [] → ∀ z, ba = some z → ¬ _root_.Go.Proofs.YthjdkhjdgmnliaaGreatDoor.Own (.slice (some ⟨w3.heap.size, 0, none⟩) 0 0) z.block) := fun hne z hz hk => by
            have hlen : 0 < l.length := List.length_pos_iff.2 hne
            obtain ⟨gz, oz, hz2, hcz⟩ := HSRC.out 0 hlen
            obtain rfl := Option.some.inj (hz.symm.trans hz2)
            have h9 : w3.heap.size = gz := Option.some.inj hk
            rw [← h9] at hcz
            simp [World.cell?] at hcz
          go_wp2_with (first
            | (at_builtin; refine wpList_append_bytes rfl (.tmp 85) (.tmp 89) 35 35 rfl bytT _ Tryz.underlying35 (by intro _; simp) _ [] rfl HO0.out _ rs[k].f.bytes rfl (Source.bytes HBF.out) (by have := HLL.out; simp; omega) ?_; intro u5 w5 hown5 hg5 _)
            | (at_builtin; go_must (refine wpList_append_bytes rfl (.tmp 90) (.tmp 91) 35 35 rfl bytT _ Tryz.underlying35 (by intro _; simp) u5 ([] ++ rs[k].f.bytes) rfl hown5 _ l rfl (Source.bytes (bytes_keep hg5.chg HSR2.out HNB.out)) (by have := HLL.out; simp; omega) ?_); intro u6 w6 hown6 hg6 _; have hc6 : Chg (fun b => w3.heap.size ≤ b) (w3.alloc (.cells #[] 5)) w6 := (hg5.chg.weak (fun b hb => .inl (Nat.le_of_eq (Option.some.inj hb)))).trans hg6.chg (fun b hb => (hg5.own b hb).elim (fun h => .inl (Nat.le_of_eq (Option.some.inj h))) (fun h => .inr h)); have hm6 := HM4.out.chg hc6 (fun b hb h9 => absurd (HM3.out.lt b hb) (by omega)); have z1 := hc6.cell z1 (fun h9 => absurd (HM3.out.lt g (.inr (.inl rfl))) (by have h9 : w3.heap.size ≤ g := h9; omega)); have f1 := hm6.o.free (k * 3 + 1); have HM6 := Lib.hid hm6; have HC6 := Lib.hid hc6; have HO6 := Lib.hid hown6; have HG6 := Lib.hid hg6; have HG5 := Lib.hid hg5; obtain ⟨a6, c6, hv6, _, hm9, _⟩ := hown6.val; clear hm9 hown6 hg6 hg5 hc6 hm6; subst hv6))
          go_ret
          have hs1 : Chg (fun b => b = g) w6 (w6.setCell ⟨g, k * 3 + 1, none⟩ (.slice a6 ([] ++ rs[k].f.bytes ++ l).length c6)) := Chg.setCell (S := fun b => b = g) (p := ⟨g, k * 3 + 1, none⟩) (Chg.refl _ w6) (.inl rfl) _
          have hnew : ∀ b, (Value.slice a6 ([] ++ rs[k].f.bytes ++ l).length c6).ownBlock = some b → w3.heap.size ≤ b := fun b hb => by
            rcases HG6.out.own b hb with h | h
            · rcases HG5.out.own b h with h | h
              · exact Nat.le_of_eq (Option.some.inj h)
              · rw [World.size_alloc] at h; omega
            · have := HC6.out.size
              have h5 : (w3.alloc (.cells #[] 5)).heap.size ≤ w5.heap.size := HG5.out.chg.size
              rw [World.size_alloc] at h5; omega
          have hglt : g < w3.heap.size := HM3.out.lt g (.inr (.inl rfl))
          have hsz3 := HC3.out.size
          have hflen : ([] ++ rs[k].f.bytes ++ l).length = rs[k].f.bytes.length + l.length := by simp
          rw [← hflen]
          have ho6 : OwnB 5 (w6.setCell ⟨g, k * 3 + 1, none⟩ (.slice a6 ([] ++ rs[k].f.bytes ++ l).length c6)) (.slice a6 ([] ++ rs[k].f.bytes ++ l).length c6) (rs[k].f.bytes ++ l) := HO6.out.chg hs1 (fun b hb e => by have := hnew b hb; omega)
          have hrow6 : SlcRow (w6.setCell ⟨g, k * 3 + 1, none⟩ (.slice a6 ([] ++ rs[k].f.bytes ++ l).length c6)) 5 1 (.slice a6 ([] ++ rs[k].f.bytes ++ l).length c6) (rs[k].f.bytes ++ l).length ((rs[k].f.bytes ++ l).map bval) := SlcRow.of_own ho6
          refine rturn_mk HT.out rfl HM6.out HFS.out HOK.out hk HXK.out ⟨rs[k].x, ⟨rs[k].f.bytes ++ l, rs[k].f.safe⟩, .slice a6 ([] ++ rs[k].f.bytes ++ l).length c6⟩ HXK.out (HM6.out.o.put hk (j := 1) (by omega) (.slice a6 ([] ++ rs[k].f.bytes ++ l).length c6) ⟨rs[k].x, ⟨rs[k].f.bytes ++ l, rs[k].f.safe⟩, .slice a6 ([] ++ rs[k].f.bytes ++ l).length c6⟩ rfl) hs1 hrow6 (fun b hb => .inr (by have := hnew b (room_own hb); omega)) (HC4.out.trans HC6.out (fun b hb => .inr (by have hb : w3.heap.size ≤ b := hb; omega))) (HR.out.symm.trans ((at_some HFD.out HX.out).trans ?_))
          have hcond : ¬ d.room < d.used + l.length := by rw [show d.room = rm from HRM.out, HU.out]; exact HFU.out
          simp only [if_neg hcond]
      · rw [h1]
        have HFN : Hid (d.find x = none) := by unfold Hid; rw [find_rs HFS.out x]; exact h3
        clear h1 h2 h3
        go_wp2_with fail
        go_ret
        exact rdone_mk (n := 7) (d' := d.step) HT.out rfl HM2.out HFS.out HC2.out (fun k hk => .inl hk) (HR.out.symm.trans (at_none HFN.out HX.out))
    · have HM1 : Hid (Rm w q v rs d.step.room d.step.left) := by
        have e : d.step.left = d.left := if_neg hp
        unfold Hid
        rw [e]; exact hm
      have HC1 : Hid (Chg (fun k => k = q) w w) := Chg.refl _ w
      clear hm hfs hT hok hR h0
      go_enter Tryz.func12, Tryz.ntmps12
      go_upto_region 5 with fail
      clear c2 y2 hb hp hlf
      have HAT := Lib.hid (at_any HM1.out hn x)
      go_wp2_with (go_at_call 29; refine HAT.out.mono ?_)
      rintro e w2 ⟨rfl, hc2⟩
      have HM2 := Lib.hid (HM1.out.chg hc2 (fun _ _ h => h))
      have HC2 : Hid (Chg (RHas q v rs) w w2) := (HC1.out.weak (fun k hk => .inl (.inl hk))).trans hc2 (fun _ h => h.elim)
      clear hc2 HAT
      rcases plc_cases rs x with ⟨k, hk, h1, h2, h3⟩ | ⟨h1, h2, h3⟩
      · rw [h1]
        have HFD : Hid (d.find x = some rs[k].f) := by unfold Hid; rw [find_rs HFS.out x]; exact h3
        have HXK := Lib.hid h2
        have hk0 : ¬ (k : Int) < 0 := by omega
        have hkn : (k : Int) < (rs.length : Int) := by omega
        have c0 := HM2.out.c.cell (j := 0) rfl
        obtain ⟨a0, cap0, hv0, _, _, hcl⟩ := HM2.out.o.val
        obtain ⟨g, rfl, _, z1, z2⟩ := hcl k hk
        rw [hv0] at c0
        clear h1 h2 h3 hcl
        subst hv0
        obtain ⟨a3, c3, hsv, hby3, hle3, hcm3, hrm3⟩ := (HM2.out.b _ (List.getElem_mem hk)).bytes
        rw [hsv] at z1
        have f1 := HM2.out.o.free (k * 3 + 1)
        have f2 := HM2.out.o.free (k * 3 + 2)
        have HSV := Lib.hid hsv
        have HLE := Lib.hid hle3
        clear hsv hby3 hcm3 hrm3
        have hus : usedR rs = d.used := (usedR_eq HFS.out).symm
        have hu1 : d.used ≤ 1048576 := Nat.le_trans HOK.out.fits HOK.out.room
        have HUS := Lib.hid (fun (w3 : World) (hw : Chg Nil w2 w3) => rused_any (HM2.out.chg hw (fun _ _ h => h)) hn (by rw [hus]; exact hu1))
        rw [hus] at HUS
        have hfit : rs[k].f.bytes.length ≤ d.used := by
          have h4 := usedR_take rs hk
          have h5 := usedR_le rs (k + 1)
          omega
        have HRC := Lib.hid (HM2.out.c.cell (j := 1) rfl)
        have hw64 : wrap64 ((d.used : Int) + (l.length : Int)) = (d.used : Int) + (l.length : Int) := by unfold wrap64; omega
        clear hus
        obtain ⟨u, hu⟩ : ∃ u, d.used = u := ⟨_, rfl⟩
        rw [hu] at HUS hw64 hu1 hfit
        have HU := Lib.hid hu
        obtain ⟨rm, hrm⟩ : ∃ rm, d.step.room = rm := ⟨_, rfl⟩
        rw [hrm] at HRC
        have HRM := Lib.hid hrm
        clear hu hrm
        go_upto_region 20 with fail
        refine wp_region_mono _ (Chg Nil) (by kernel_rfl) (fun _ _ _ h k => h.trans k (fun _ h => h.elim)) [[], [0], [], [2], [1, 3], [], [5], [6], [7], [4, 8]] rfl (by kernel_rfl) (Chg.refl _ _).drew ?_
        ((with_reducible apply Walk.eq); case h => (intro w2 hw2 N hN; simp only [depsOf, List.filterMap_nil, List.filterMap_cons, List.getElem?_toArray, List.getElem?_cons_zero, List.getElem?_cons_succ, Option.bind_some, List.nil_append, List.cons_append, Ob]; go_simp; (try go_bits); with_reducible exact hN _ (Chg.refl _ _)))
        (with_reducible apply Walk.eq); case h =>
          intro w3 hw3 N hN
          simp only [depsOf, List.filterMap_nil, List.filterMap_cons, List.getElem?_toArray, List.getElem?_cons_zero, List.getElem?_cons_succ, Option.bind_some, List.nil_append, List.cons_append, Ob]
          go_simp
          refine (HUS.out w3 hw3).mono ?_
          rintro e w4 ⟨rfl, hc4⟩
          exact ⟨_, rfl, hN _ hc4⟩
        iterate 6 ((with_reducible apply Walk.eq); case h => (intro w2 hw2 N hN; simp only [depsOf, List.filterMap_nil, List.filterMap_cons, List.getElem?_toArray, List.getElem?_cons_zero, List.getElem?_cons_succ, Option.bind_some, List.nil_append, List.cons_append, Ob]; go_simp; (try go_bits); with_reducible exact hN _ (Chg.refl _ _)))
        (with_reducible apply Walk.eq); case h =>
          intro w3 hw3 N hN
          have hq := hw3.cell HRC.out (fun h => h)
          simp only [depsOf, List.filterMap_nil, List.filterMap_cons, List.getElem?_toArray, List.getElem?_cons_zero, List.getElem?_cons_succ, Option.bind_some, List.nil_append, List.cons_append, Ob]
          go_simp
          exact hN _ (Chg.refl _ _)
        ((with_reducible apply Walk.eq); case h => (intro w2 hw2 N hN; simp only [depsOf, List.filterMap_nil, List.filterMap_cons, List.getElem?_toArray, List.getElem?_cons_zero, List.getElem?_cons_succ, Option.bind_some, List.nil_append, List.cons_append, Ob]; go_simp; (try go_bits); with_reducible exact hN _ (Chg.refl _ _)))
        intro w3 hw3
        simp only [List.nil_append, List.cons_append, Fin]
        go_simp
        have HM3 := Lib.hid (HM2.out.chg hw3 (fun _ _ h => h))
        have HC3 := Lib.hid (HC2.out.trans hw3 (fun _ h => h.elim))
        have z1 := hw3.cell z1 (fun h => h)
        have f1 := HM3.out.o.free (k * 3 + 1)
        clear HUS HRC hw64 hw3 HM2 HC2 c0 z2
        by_cases hfull : rm < u + l.length
        · have hfi : (rm : Int) < (u : Int) + (l.length : Int) := by omega
          have HFU := Lib.hid hfull
          clear hfull
          go_wp2_with fail
          go_ret
          refine rdone_mk (n := 12) (d' := d.step) HT.out rfl HM3.out HFS.out HC3.out (fun k hk => .inl hk) (HR.out.symm.trans ((at_some HFD.out HX.out).trans ?_))
          have hcond : d.room < d.used + l.length := by rw [show d.room = rm from HRM.out, HU.out]; exact HFU.out
          simp only [if_pos hcond, id]
        · have hfi : ¬ (rm : Int) < (u : Int) + (l.length : Int) := by omega
          have HFU := Lib.hid hfull
          have HLL : Hid (rs[k].f.bytes.length + l.length ≤ 1048576) := by
            have h1 := HRM.out
            have h2 : d.step.room ≤ 1048576 := HOK.out.room
            unfold Hid; omega
          have HSRC := Lib.hid (bytes_keep HC3.out HBY.out (fun hne z hz hk => HBN.out hne z hz (HT.out _ hk)))
          have hmem := List.getElem_mem hk
          obtain ⟨a4, c4, hsv4, hby4, _, hcm4, hrm4⟩ := (HM3.out.b _ hmem).bytes
          have e4 := HSV.out.symm.trans hsv4
          simp only [Value.slice.injEq] at e4
          obtain ⟨rfl, _, rfl⟩ := e4
          have hal := (Chg.refl Nil w3).alloc (.cells #[] 5)
          have HBF := Lib.hid (hal.bytesAt hby4 (fun _ _ h => h))
          have HSR2 := Lib.hid (hal.bytesAt HSRC.out (fun _ _ h => h))
          have z1 := hal.cell z1 (fun h => h)
          have HO0 : Hid (OwnB 5 (w3.alloc (.cells #[] 5)) (.slice (some ⟨w3.heap.size, 0, none⟩) 0 0) []) := OwnB.new (l := []) (by simp)
          have HM4 := Lib.hid (HM3.out.chg hal (fun _ _ h => h))
          have HC4 := Lib.hid (HC3.out.trans hal (fun _ h => h.elim))
          clear hfull hsv4 hby4 hcm4 hrm4 hal f1
          have HNB : Hid (l ≠ [] → ∀ z, ba = some z → ¬ _root_.Go.Proofs.YthjdkhjdgmnliaaGreatDoor.Own (.slice (some ⟨w3.heap.size, 0, none⟩) 0 0) z.block) := fun hne z hz hk => by
            have hlen : 0 < l.length := List.length_pos_iff.2 hne
            obtain ⟨gz, oz, hz2, hcz⟩ := HSRC.out 0 hlen
            obtain rfl := Option.some.inj (hz.symm.trans hz2)
            have h9 : w3.heap.size = gz := Option.some.inj hk
            rw [← h9] at hcz
            simp [World.cell?] at hcz
          go_wp2_with (first
            | (at_builtin; refine wpList_append_bytes rfl (.tmp 85) (.tmp 89) 35 35 rfl bytT _ Tryz.underlying35 (by intro _; simp) _ [] rfl HO0.out _ rs[k].f.bytes rfl (Source.bytes HBF.out) (by have := HLL.out; simp; omega) ?_; intro u5 w5 hown5 hg5 _)
            | (at_builtin; go_must (refine wpList_append_bytes rfl (.tmp 90) (.tmp 91) 35 35 rfl bytT _ Tryz.underlying35 (by intro _; simp) u5 ([] ++ rs[k].f.bytes) rfl hown5 _ l rfl (Source.bytes (bytes_keep hg5.chg HSR2.out HNB.out)) (by have := HLL.out; simp; omega) ?_); intro u6 w6 hown6 hg6 _; have hc6 : Chg (fun b => w3.heap.size ≤ b) (w3.alloc (.cells #[] 5)) w6 := (hg5.chg.weak (fun b hb => .inl (Nat.le_of_eq (Option.some.inj hb)))).trans hg6.chg (fun b hb => (hg5.own b hb).elim (fun h => .inl (Nat.le_of_eq (Option.some.inj h))) (fun h => .inr h)); have hm6 := HM4.out.chg hc6 (fun b hb h9 => absurd (HM3.out.lt b hb) (by omega)); have z1 := hc6.cell z1 (fun h9 => absurd (HM3.out.lt g (.inr (.inl rfl))) (by have h9 : w3.heap.size ≤ g := h9; omega)); have f1 := hm6.o.free (k * 3 + 1); have HM6 := Lib.hid hm6; have HC6 := Lib.hid hc6; have HO6 := Lib.hid hown6; have HG6 := Lib.hid hg6; have HG5 := Lib.hid hg5; obtain ⟨a6, c6, hv6, _, hm9, _⟩ := hown6.val; clear hm9 hown6 hg6 hg5 hc6 hm6; subst hv6))
          go_ret
          have hs1 : Chg (fun b => b = g) w6 (w6.setCell ⟨g, k * 3 + 1, none⟩ (.slice a6 ([] ++ rs[k].f.bytes ++ l).length c6)) := Chg.setCell (S := fun b => b = g) (p := ⟨g, k * 3 + 1, none⟩) (Chg.refl _ w6) (.inl rfl) _
          have hnew : ∀ b, (Value.slice a6 ([] ++ rs[k].f.bytes ++ l).length c6).ownBlock = some b → w3.heap.size ≤ b := fun b hb => by
            rcases HG6.out.own b hb with h | h
            · rcases HG5.out.own b h with h | h
              · exact Nat.le_of_eq (Option.some.inj h)
              · rw [World.size_alloc] at h; omega
            · have := HC6.out.size
              have h5 : (w3.alloc (.cells #[] 5)).heap.size ≤ w5.heap.size := HG5.out.chg.size
              rw [World.size_alloc] at h5; omega
          have hglt : g < w3.heap.size := HM3.out.lt g (.inr (.inl rfl))
          have hsz3 := HC3.out.size
          have hflen : ([] ++ rs[k].f.bytes ++ l).length = rs[k].f.bytes.length + l.length := by simp
          rw [← hflen]
          have ho6 : OwnB 5 (w6.setCell ⟨g, k * 3 + 1, none⟩ (.slice a6 ([] ++ rs[k].f.bytes ++ l).length c6)) (.slice a6 ([] ++ rs[k].f.bytes ++ l).length c6) (rs[k].f.bytes ++ l) := HO6.out.chg hs1 (fun b hb e => by have := hnew b hb; omega)
          have hrow6 : SlcRow (w6.setCell ⟨g, k * 3 + 1, none⟩ (.slice a6 ([] ++ rs[k].f.bytes ++ l).length c6)) 5 1 (.slice a6 ([] ++ rs[k].f.bytes ++ l).length c6) (rs[k].f.bytes ++ l).length ((rs[k].f.bytes ++ l).map bval) := SlcRow.of_own ho6
          refine rturn_mk HT.out rfl HM6.out HFS.out HOK.out hk HXK.out ⟨rs[k].x, ⟨rs[k].f.bytes ++ l, rs[k].f.safe⟩, .slice a6 ([] ++ rs[k].f.bytes ++ l).length c6⟩ HXK.out (HM6.out.o.put hk (j := 1) (by omega) (.slice a6 ([] ++ rs[k].f.bytes ++ l).length c6) ⟨rs[k].x, ⟨rs[k].f.bytes ++ l, rs[k].f.safe⟩, .slice a6 ([] ++ rs[k].f.bytes ++ l).length c6⟩ rfl) hs1 hrow6 (fun b hb => .inr (by have := hnew b (room_own hb); omega)) (HC4.out.trans HC6.out (fun b hb => .inr (by have hb : w3.heap.size ≤ b := hb; omega))) (HR.out.symm.trans ((at_some HFD.out HX.out).trans ?_))
          have hcond : ¬ d.room < d.used + l.length := by rw [show d.room = rm from HRM.out, HU.out]; exact HFU.out
          simp only [if_neg hcond]
      · rw [h1]
        have HFN : Hid (d.find x = none) := by unfold Hid; rw [find_rs HFS.out x]; exact h3
        clear h1 h2 h3
        go_wp2_with fail
        go_ret
        exact rdone_mk (n := 7) (d' := d.step) HT.out rfl HM2.out HFS.out HC2.out (fun k hk => .inl hk) (HR.out.symm.trans (at_none HFN.out HX.out))
end Go.Proofs.YthjdkhjdgmnliaaGreatDoor
