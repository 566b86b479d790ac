/-
  The document's disk: Do of make, rename. (Written by mkrdo.py.)
-/
import Derived.Test.YthjdkhjdgmnliaaGreatDoorRkName
import Derived.Deep.CutBlock
set_option linter.unusedSimpArgs false
set_option linter.unusedVariables false
namespace Go.Proofs.YthjdkhjdgmnliaaGreatDoor
open Go.RowKit Go.Maps Go.Sort Go.Shelf

theorem make_not {d : Dk} {x : Nm} (h : didB d.left = false) : d.make x = (14, d) := if_pos h
theorem does_ne {d : Dk} (h : didB d.left = true) : ¬ d.does = false := by show ¬ didB d.left = false; rw [h]; decide
theorem make_name {d : Dk} {x : Nm} (h : didB d.left = true) (hn : dkName x = false) : d.make x = (5, d.step) := (if_neg (does_ne h)).trans (if_pos hn)
theorem name_ne {x : Nm} (h : dkName x = true) : ¬ dkName x = false := by rw [h]; decide
theorem make_twice {d : Dk} {x : Nm} {f : Fl} (h : didB d.left = true) (hn : dkName x = true) (hf : d.find x = some f) : d.make x = (9, d.step) :=
  (if_neg (does_ne h)).trans ((if_neg (name_ne hn)).trans (if_pos (by rw [hf]; rfl)))
theorem make_many {d : Dk} {x : Nm} (h : didB d.left = true) (hn : dkName x = true) (hf : d.find x = none) (hl : d.fs.length = 200) : d.make x = (4, d.step) :=
  (if_neg (does_ne h)).trans ((if_neg (name_ne hn)).trans ((if_neg (by rw [hf]; decide)).trans (if_pos hl)))
theorem make_new {d : Dk} {x : Nm} (h : didB d.left = true) (hn : dkName x = true) (hf : d.find x = none) (hl : ¬ d.fs.length = 200) : d.make x = (0, d.step.put x ⟨[], 0⟩) :=
  (if_neg (does_ne h)).trans ((if_neg (name_ne hn)).trans ((if_neg (by rw [hf]; decide)).trans (if_neg hl)))
theorem ref_disk_l (x : Nm) (w : World) (hs : x.length ≤ 1000) : Calls Tryz.prog 30 #[.string ⟨x.toArray⟩] w fun e w' => e = .returned (.bool (dkName x)) ∧ w' = w := by
  have := ref_disk_any ⟨x.toArray⟩ w (by show x.toArray.size ≤ 1000; simpa using hs)
  exact this
theorem put_rs {d : Dk} {rs : List Rf} (hfs : d.fs = rs.map (fun r => (r.x, r.f))) {x : Nm} (hno : ∀ r ∈ rs, ¬ r.x = x) (f : Fl) (v : Value) : (d.put x f).fs = (rs ++ [(⟨x, f, v⟩ : Rf)]).map (fun r => (r.x, r.f)) := by
  show (d.fs.filter _) ++ [(x, f)] = _
  rw [hfs, List.map_append, List.filter_eq_self.2]
  · rfl
  · intro q hq
    obtain ⟨r, hr, rfl⟩ := List.mem_map.1 hq
    simpa using hno r hr
theorem named_fs {d : Dk} {rs rs7 rs8 : List Rf} {r7 : Rf} {f : Fl} {v : Value} (hfs : d.fs = rs.map (fun r => (r.x, r.f))) (x y : Nm) (h7 : rs7 = sans y (sans x rs)) (hr : r7 = ⟨y, f, v⟩) (h8 : rs8 = rs7 ++ [r7]) : ((d.del x).put y f).fs = rs8.map (fun r => (r.x, r.f)) := by
  subst h8 h7 hr
  show ((d.del x).del y).fs ++ [(y, f)] = _
  rw [sans_fs (d := d.del x) (sans_fs hfs x) y, List.map_append]
  rfl
theorem made_own {w : World} {v : Value} {rs : List Rf} {x : Nm} {n : Nat} {xs : List Value} (h : w.ownsRow 0 64 3 v n xs) (hn : n = rs.length + 1 := by rfl) (hx : xs = rs.flatMap Rf.cells ++ [.string ⟨x.toArray⟩, .slice none 0 0, .int .i64 0] := by rfl) :
    ∃ rs6, Hid (rs6 = rs ++ [⟨x, ⟨[], 0⟩, .slice none 0 0⟩]) ∧ Hid (OwnF w v rs6) := by
  refine ⟨_, rfl, ?_⟩
  subst hn hx
  unfold Hid OwnF
  rw [List.length_append, List.flatMap_append]
  exact h
theorem made_facts {w2 w6 : World} {q : Nat} {v u : Value} {rs : List Rf} {room : Nat} {left : Int} {o : Obj} (h : Rm w2 q v rs room left) (hg : Grew (w2.alloc o) w6 v u) :
    Hid (Chg (fun k => v.ownBlock = some k) w2 w6) ∧ Hid (Box w6 q [v, .int .i64 (room : Nat), .int .i64 left] 33) ∧ Hid (∀ b, u.ownBlock = some b → v.ownBlock = some b ∨ w2.heap.size ≤ b) := by
  have hal := (Chg.refl Nil w2).alloc o
  have hc : Chg (fun k => v.ownBlock = some k) w2 w6 := (hal.weak (fun _ h => h.elim)).trans hg.chg (fun k hk => .inl hk)
  exact ⟨hc, h.c.chg hc h.ne.1, fun b hb => (hg.own b hb).imp id (fun h => by rw [World.size_alloc] at h; omega)⟩
/-- No block of a row of bytes is the disk's, or the list's. -/
theorem Rm.row_ne {w : World} {q : Nat} {v : Value} {rs : List Rf} {room : Nat} {left : Int} (h : Rm w q v rs room left) {u : Value} {n : Nat} {xs : List Value} (hr : SlcRow w 5 1 u n xs) : Value.room u ≠ some q ∧ ∀ k, v.ownBlock = some k → Value.room u ≠ some k := by
  have hq : w.heap[q]? = _ := h.c
  refine ⟨fun e => ?_, fun k hk e => ?_⟩
  · obtain ⟨cur, hcur⟩ := hr.row q e
    rw [hq] at hcur
    have := (Obj.cells.inj (Option.some.inj hcur)).2.1
    exact absurd this (by decide)
  · obtain ⟨cur, hcur⟩ := h.o.row hk
    obtain ⟨cur2, hcur2⟩ := hr.row k e
    rw [hcur] at hcur2
    have := (Obj.cells.inj (Option.some.inj hcur2)).2.1
    exact absurd this (by decide)
/-- An end of an operation that puts a file behind the others. -/
theorem rmade_mk {w w2 w6 : World} {q : Nat} {v0 v : Value} {rs0 rs rs6 : List Rf} {T : Nat → Prop} {d' : Dk} {R : Nat × Dk} {a6 : Option Addr} {c6 : Nat} {r6 : Rf}
    (hT : ∀ b, RHas q v0 rs0 b → T b) (hm : Rm w2 q v rs d'.room d'.left) (hc : Chg (RHas q v0 rs0) w w2) (hsub : ∀ b, RHas q v rs b → RHas q v0 rs0 b ∨ w.heap.size ≤ b)
    (hrs : rs6 = rs ++ [r6]) (ho : OwnF w6 (.slice a6 rs6.length c6) rs6) (hb : Box w6 q [v, .int .i64 (d'.room : Nat), .int .i64 d'.left] 33) (hc6 : Chg (fun k => v.ownBlock = some k) w2 w6)
    (hn6 : ∀ b, (Value.slice a6 rs6.length c6).ownBlock = some b → v.ownBlock = some b ∨ w2.heap.size ≤ b)
    (hrow : SlcRow w2 5 1 r6.v r6.f.bytes.length (r6.f.bytes.map bval)) (hrm : ∀ b, Value.room r6.v = some b → RHas q v0 rs0 b) (hfs : d'.fs = rs6.map (fun r => (r.x, r.f))) (hr : R = (0, d')) :
    Ending.returned (.int .i64 0) = .returned (.int .i64 (R.1 : Nat)) ∧ RefAt (w6.setCell ⟨q, 0, none⟩ (.slice a6 rs6.length c6)) q (Gr T w (w6.setCell ⟨q, 0, none⟩ (.slice a6 rs6.length c6))) R.2 ∧ Chg T w (w6.setCell ⟨q, 0, none⟩ (.slice a6 rs6.length c6)) := by
  have hs9 : Chg (fun k => k = q) w6 (w6.setCell ⟨q, 0, none⟩ (.slice a6 rs6.length c6)) := Chg.setCell (S := fun k => k = q) (p := ⟨q, 0, none⟩) (Chg.refl _ w6) (.inl rfl) _
  have hq := hm.lt q (.inl rfl)
  have hz := hc.size
  have hc9 : Chg (fun k => k = q ∨ v.ownBlock = some k) w2 (w6.setCell ⟨q, 0, none⟩ (.slice a6 rs6.length c6)) := (hc6.weak (fun k hk => .inl (.inr hk))).trans hs9 (fun k hk => .inl (.inl hk))
  refine rdone_mk (n := 0) (d' := d') (v' := .slice a6 rs6.length c6) (rs' := rs6) hT rfl ⟨hb.set 0 _, ho.chg hs9 (fun k hk e => ?_), fun r hr => ?_⟩ hfs (hc.trans hc9 (fun k hk => ?_)) (fun b hb => ?_) hr
  · subst e
    exact (hn6 k hk).elim (fun h => hm.ne.1 h) (fun h => by omega)
  · rw [hrs] at hr
    rcases List.mem_append.1 hr with hr | hr
    · exact (hm.b r hr).chg hc9 (fun k hk hs => hs.elim (fun e => (hm.ne.2 r hr).1 (hk.trans (congrArg some e))) (fun e => (hm.ne.2 r hr).2 k e hk))
    · obtain rfl := List.mem_singleton.1 hr
      exact hrow.chg hc9 (fun k hk hs => hs.elim (fun e => (hm.row_ne hrow).1 (hk.trans (congrArg some e))) (fun e => (hm.row_ne hrow).2 k e hk))
  · exact hsub k (hk.elim .inl (fun h => .inr (.inl h)))
  · rcases hb with hb | hb | ⟨r, hr, hb⟩
    · exact .inl (.inl hb)
    · rcases hn6 b hb with h | h
      · exact hsub b (.inr (.inl h))
      · exact .inr (by omega)
    · rw [hrs] at hr
      rcases List.mem_append.1 hr with hr | hr
      · exact hsub b (.inr (.inr ⟨r, hr, hb⟩))
      · obtain rfl := List.mem_singleton.1 hr
        exact .inl (hrm b hb)
theorem OwnF.form {w : World} {v : Value} {rs : List Rf} (h : OwnF w v rs) : v = .slice (vA v) rs.length (vC v) := by
  obtain ⟨a, c, rfl, _⟩ := h.val
  rfl
/-- What the operations of an append of a file leave, one by one. -/
def FapF (n0 : Nat) (u : Value) (l : List Rf) (r : Rf) : List Value → World → Prop
  | [], w => OwnF w u l
  | [v], w => OwnF w u l ∧ ∃ q, v = .slice (some ⟨q, 0, none⟩) 1 1 ∧ Box w q r.cells 64
  | [_, v], w => OwnF w v (l ++ [r]) ∧ ∀ k, v.ownBlock = some k → u.ownBlock = some k ∨ n0 ≤ k
  | _, _ => False

set_option maxHeartbeats 4000000 in
set_option maxRecDepth 20000 in
theorem rdo_make {w : World} {q : Nat} {T : Nat → Prop} {d : Dk} (h : RefAt w q T d) (hok : d.Ok) (x y : Nm) (hxl : x.length ≤ 1000) (ba : Option Addr) (bl bc : Nat) (n : Int) :
    Calls Tryz.prog 12 #[.pointer (some ⟨q, 0, none⟩), .string ⟨#[109, 97, 107, 101]⟩, .string ⟨x.toArray⟩, .string ⟨y.toArray⟩, .slice ba bl bc, .int .i64 n] w fun e w' =>
      e = .returned (.int .i64 ((d.make x).1 : Nat)) ∧ RefAt w' q (Gr T w w') (d.make x).2 ∧ Chg T w w' := by
  obtain ⟨v, rs, hm, hfs, hT⟩ := h
  have hn : rs.length ≤ 200 := by have := hok.few; rw [hfs, List.length_map] at this; exact this
  have HM := Lib.hid hm
  have HFS := Lib.hid hfs
  have HT := Lib.hid hT
  have HOK := Lib.hid hok
  have c2 := hm.c.cell (j := 2) rfl
  have y2 := hm.c.free 2
  have HXL := Lib.hid hxl
  clear hxl
  obtain ⟨R, hR⟩ : ∃ R, d.make x = R := ⟨_, rfl⟩
  have HR := Lib.hid hR
  rw [hR]
  have hlf := hok.left
  by_cases h0 : d.left = 0
  · have hx : didB d.left = false := by rw [h0]; rfl
    have HX := Lib.hid hx
    have hb : (d.left == 0) = true := by simp [h0]
    clear hm hfs hT hok hR hx h0
    go_enter Tryz.func12, Tryz.ntmps12
    go_wp2_with fail
    go_ret
    exact rdone_mk (n := 14) (d' := d) HT.out rfl HM.out HFS.out (Chg.refl _ _) (fun k hk => .inl hk) (HR.out.symm.trans (make_not HX.out))
  · have HX : Hid (didB d.left = true) := decide_eq_true h0
    have hb : (d.left == 0) = false := beq_eq_false_iff_ne.2 h0
    by_cases hp : 0 < d.left
    · have hw64 : wrap64 (d.left - 1) = d.left - 1 := by unfold wrap64; omega
      obtain ⟨t1, t2⟩ := hm.lefts (d.left - 1)
      have HM1 : Hid (Rm (w.setCell ⟨q, 2, none⟩ (.int .i64 (d.left - 1))) q v rs d.step.room d.step.left) := by
        have e : d.step.left = d.left - 1 := if_pos hp
        unfold Hid
        rw [e]; exact t1
      have HC1 : Hid (Chg (fun k => k = q) w (w.setCell ⟨q, 2, none⟩ (.int .i64 (d.left - 1)))) := t2
      clear hm hfs hT hok hR h0 t1 t2
      go_enter Tryz.func12, Tryz.ntmps12
      go_upto_region 5 with fail
      generalize w.setCell ⟨q, 2, none⟩ (.int .i64 (d.left - 1)) = w1 at *
      clear c2 y2 hb hp hw64 hlf
      have HAT := Lib.hid (at_any HM1.out hn x)
      go_wp2_with (go_at_call 29; refine HAT.out.mono ?_)
      rintro e w2 ⟨rfl, hc2⟩
      have HM2 := Lib.hid (HM1.out.chg hc2 (fun _ _ h => h))
      have HC2 : Hid (Chg (RHas q v rs) w w2) := (HC1.out.weak (fun k hk => .inl (.inl hk))).trans hc2 (fun _ h => h.elim)
      clear hc2 HAT
      have HNM := Lib.hid (ref_disk_l x w2 HXL.out)
      obtain ⟨b, hb9⟩ : ∃ b, dkName x = b := ⟨_, rfl⟩
      rw [hb9] at HNM
      have HB9 := Lib.hid hb9
      clear hb9
      go_wp2_with (go_at_call 30; refine HNM.out.mono ?_)
      rintro e w3 ⟨rfl, hw3⟩
      obtain rfl := hw3.symm
      clear HNM
      cases b with
      | false =>
        go_wp2_with fail
        go_ret
        exact rdone_mk (n := 5) (d' := d.step) HT.out rfl HM2.out HFS.out HC2.out (fun k hk => .inl hk) (HR.out.symm.trans (make_name HX.out HB9.out))
      | true =>
        rcases plc_cases rs x with ⟨k, hk, h1, h2, h3⟩ | ⟨h1, h2, h3⟩
        · rw [h1]
          have HFD : Hid (d.find x = some rs[k].f) := by unfold Hid; rw [find_rs HFS.out x]; exact h3
          have hk0 : (0 : Int) ≤ (k : Int) := by omega
          clear h1 h2 h3
          go_wp2_with fail
          go_ret
          exact rdone_mk (n := 9) (d' := d.step) HT.out rfl HM2.out HFS.out HC2.out (fun k hk => .inl hk) (HR.out.symm.trans (make_twice HX.out HB9.out HFD.out))
        · rw [h1]
          have HFN : Hid (d.find x = none) := by unfold Hid; rw [find_rs HFS.out x]; exact h3
          have HNO := Lib.hid h2
          have HDL : Hid (d.fs.length = rs.length) := by unfold Hid; rw [HFS.out, List.length_map]
          clear h1 h2 h3
          obtain ⟨a0, cap0, hv0, _, _, _⟩ := HM2.out.o.val
          subst hv0
          have c0 := HM2.out.c.cell (j := 0) rfl
          by_cases hmany : rs.length = 200
          · have hm1 : (200 : Int) ≤ (rs.length : Int) := by omega
            have HL2 : Hid (d.fs.length = 200) := HDL.out.trans hmany
            clear hmany
            go_wp2_with fail
            go_ret
            exact rdone_mk (n := 4) (d' := d.step) HT.out rfl HM2.out HFS.out HC2.out (fun k hk => .inl hk) (HR.out.symm.trans (make_many HX.out HB9.out HFN.out HL2.out))
          · have hm1 : ¬ (200 : Int) ≤ (rs.length : Int) := by omega
            have HL2 : Hid (¬ d.fs.length = 200) := fun h => hmany (HDL.out.symm.trans h)
            have HLN := Lib.hid hn
            clear hmany
            go_wp2_with (at_builtin; go_must (refine wpList_append_grew rfl (.tmp 56) (.tmp 59) 31 31 rfl refT _ Tryz.underlying31 (by intro _; simp) (.slice a0 rs.length cap0) _ _ rfl (ownsRow_chg HM2.out.o ((Chg.refl Nil _).alloc _) (fun _ _ h => h)) _ 1 [.string ⟨x.toArray⟩, .slice none 0 0, .int .i64 0] rfl (Source.box (Box.new _ [.string ⟨x.toArray⟩, .slice none 0 0, .int .i64 0] _) rfl (cells_one x none 0 0 0)) (by have := HLN.out; unfold maxLen; omega) (by have := HLN.out; omega) ?_); intro u6 w6 hown6 hg6 _; obtain ⟨rs6, HRS, HO6⟩ := made_own hown6; obtain ⟨HC6, HQ6, HN6⟩ := made_facts HM2.out hg6; have c6 := HQ6.out.cell (j := 0) rfl; have y6 := HQ6.out.free 0; obtain ⟨a6, cp6, hv6, _⟩ := HO6.out.val; subst hv6; clear hown6 hg6 c0)
            go_ret
            exact rmade_mk (d' := d.step.put x ⟨[], 0⟩) HT.out HM2.out HC2.out (fun _ h => .inl h) HRS.out HO6.out HQ6.out HC6.out HN6.out (SlcRow.nil _ _ _) (fun b hb => by cases hb) ((put_rs (d := d.step) HFS.out HNO.out _ _).trans (by rw [HRS.out])) (HR.out.symm.trans (make_new HX.out HB9.out HFN.out HL2.out))
    · have HM1 : Hid (Rm w q v rs d.step.room d.step.left) := by
        have e : d.step.left = d.left := if_neg hp
        unfold Hid
        rw [e]; exact hm
      have HC1 : Hid (Chg (fun k => k = q) w w) := Chg.refl _ w
      clear hm hfs hT hok hR h0
      go_enter Tryz.func12, Tryz.ntmps12
      go_upto_region 5 with fail
      clear c2 y2 hb hp hlf
      have HAT := Lib.hid (at_any HM1.out hn x)
      go_wp2_with (go_at_call 29; refine HAT.out.mono ?_)
      rintro e w2 ⟨rfl, hc2⟩
      have HM2 := Lib.hid (HM1.out.chg hc2 (fun _ _ h => h))
      have HC2 : Hid (Chg (RHas q v rs) w w2) := (HC1.out.weak (fun k hk => .inl (.inl hk))).trans hc2 (fun _ h => h.elim)
      clear hc2 HAT
      have HNM := Lib.hid (ref_disk_l x w2 HXL.out)
      obtain ⟨b, hb9⟩ : ∃ b, dkName x = b := ⟨_, rfl⟩
      rw [hb9] at HNM
      have HB9 := Lib.hid hb9
      clear hb9
      go_wp2_with (go_at_call 30; refine HNM.out.mono ?_)
      rintro e w3 ⟨rfl, hw3⟩
      obtain rfl := hw3.symm
      clear HNM
      cases b with
      | false =>
        go_wp2_with fail
        go_ret
        exact rdone_mk (n := 5) (d' := d.step) HT.out rfl HM2.out HFS.out HC2.out (fun k hk => .inl hk) (HR.out.symm.trans (make_name HX.out HB9.out))
      | true =>
        rcases plc_cases rs x with ⟨k, hk, h1, h2, h3⟩ | ⟨h1, h2, h3⟩
        · rw [h1]
          have HFD : Hid (d.find x = some rs[k].f) := by unfold Hid; rw [find_rs HFS.out x]; exact h3
          have hk0 : (0 : Int) ≤ (k : Int) := by omega
          clear h1 h2 h3
          go_wp2_with fail
          go_ret
          exact rdone_mk (n := 9) (d' := d.step) HT.out rfl HM2.out HFS.out HC2.out (fun k hk => .inl hk) (HR.out.symm.trans (make_twice HX.out HB9.out HFD.out))
        · rw [h1]
          have HFN : Hid (d.find x = none) := by unfold Hid; rw [find_rs HFS.out x]; exact h3
          have HNO := Lib.hid h2
          have HDL : Hid (d.fs.length = rs.length) := by unfold Hid; rw [HFS.out, List.length_map]
          clear h1 h2 h3
          obtain ⟨a0, cap0, hv0, _, _, _⟩ := HM2.out.o.val
          subst hv0
          have c0 := HM2.out.c.cell (j := 0) rfl
          by_cases hmany : rs.length = 200
          · have hm1 : (200 : Int) ≤ (rs.length : Int) := by omega
            have HL2 : Hid (d.fs.length = 200) := HDL.out.trans hmany
            clear hmany
            go_wp2_with fail
            go_ret
            exact rdone_mk (n := 4) (d' := d.step) HT.out rfl HM2.out HFS.out HC2.out (fun k hk => .inl hk) (HR.out.symm.trans (make_many HX.out HB9.out HFN.out HL2.out))
          · have hm1 : ¬ (200 : Int) ≤ (rs.length : Int) := by omega
            have HL2 : Hid (¬ d.fs.length = 200) := fun h => hmany (HDL.out.symm.trans h)
            have HLN := Lib.hid hn
            clear hmany
            go_wp2_with (at_builtin; go_must (refine wpList_append_grew rfl (.tmp 56) (.tmp 59) 31 31 rfl refT _ Tryz.underlying31 (by intro _; simp) (.slice a0 rs.length cap0) _ _ rfl (ownsRow_chg HM2.out.o ((Chg.refl Nil _).alloc _) (fun _ _ h => h)) _ 1 [.string ⟨x.toArray⟩, .slice none 0 0, .int .i64 0] rfl (Source.box (Box.new _ [.string ⟨x.toArray⟩, .slice none 0 0, .int .i64 0] _) rfl (cells_one x none 0 0 0)) (by have := HLN.out; unfold maxLen; omega) (by have := HLN.out; omega) ?_); intro u6 w6 hown6 hg6 _; obtain ⟨rs6, HRS, HO6⟩ := made_own hown6; obtain ⟨HC6, HQ6, HN6⟩ := made_facts HM2.out hg6; have c6 := HQ6.out.cell (j := 0) rfl; have y6 := HQ6.out.free 0; obtain ⟨a6, cp6, hv6, _⟩ := HO6.out.val; subst hv6; clear hown6 hg6 c0)
            go_ret
            exact rmade_mk (d' := d.step.put x ⟨[], 0⟩) HT.out HM2.out HC2.out (fun _ h => .inl h) HRS.out HO6.out HQ6.out HC6.out HN6.out (SlcRow.nil _ _ _) (fun b hb => by cases hb) ((put_rs (d := d.step) HFS.out HNO.out _ _).trans (by rw [HRS.out])) (HR.out.symm.trans (make_new HX.out HB9.out HFN.out HL2.out))

set_option maxHeartbeats 4000000 in
set_option maxRecDepth 20000 in
theorem rdo_rename {w : World} {q : Nat} {T : Nat → Prop} {d : Dk} (h : RefAt w q T d) (hok : d.Ok) (x y : Nm) (hyl : y.length ≤ 1000) (ba : Option Addr) (bl bc : Nat) (n : Int) :
    Calls Tryz.prog 12 #[.pointer (some ⟨q, 0, none⟩), .string ⟨#[114, 101, 110, 97, 109, 101]⟩, .string ⟨x.toArray⟩, .string ⟨y.toArray⟩, .slice ba bl bc, .int .i64 n] w fun e w' =>
      e = .returned (.int .i64 ((d.rename x y).1 : Nat)) ∧ RefAt w' q (Gr T w w') (d.rename x y).2 ∧ Chg T w w' := by
  obtain ⟨v, rs, hm, hfs, hT⟩ := h
  have hn : rs.length ≤ 200 := by have := hok.few; rw [hfs, List.length_map] at this; exact this
  have HM := Lib.hid hm
  have HFS := Lib.hid hfs
  have HT := Lib.hid hT
  have HOK := Lib.hid hok
  have c2 := hm.c.cell (j := 2) rfl
  have y2 := hm.c.free 2
  have HYL := Lib.hid hyl
  clear hyl
  obtain ⟨R, hR⟩ : ∃ R, d.rename x y = R := ⟨_, rfl⟩
  have HR := Lib.hid hR
  rw [hR]
  have hlf := hok.left
  by_cases h0 : d.left = 0
  · have hx : didB d.left = false := by rw [h0]; rfl
    have HX := Lib.hid hx
    have hb : (d.left == 0) = true := by simp [h0]
    clear hm hfs hT hok hR hx h0
    go_enter Tryz.func12, Tryz.ntmps12
    go_wp2_with fail
    go_ret
    exact rdone_mk (n := 14) (d' := d) HT.out rfl HM.out HFS.out (Chg.refl _ _) (fun k hk => .inl hk) (HR.out.symm.trans (at_not HX.out))
  · have HX : Hid (didB d.left = true) := decide_eq_true h0
    have hb : (d.left == 0) = false := beq_eq_false_iff_ne.2 h0
    by_cases hp : 0 < d.left
    · have hw64 : wrap64 (d.left - 1) = d.left - 1 := by unfold wrap64; omega
      obtain ⟨t1, t2⟩ := hm.lefts (d.left - 1)
      have HM1 : Hid (Rm (w.setCell ⟨q, 2, none⟩ (.int .i64 (d.left - 1))) q v rs d.step.room d.step.left) := by
        have e : d.step.left = d.left - 1 := if_pos hp
        unfold Hid
        rw [e]; exact t1
      have HC1 : Hid (Chg (fun k => k = q) w (w.setCell ⟨q, 2, none⟩ (.int .i64 (d.left - 1)))) := t2
      clear hm hfs hT hok hR h0 t1 t2
      go_enter Tryz.func12, Tryz.ntmps12
      go_upto_region 5 with fail
      generalize w.setCell ⟨q, 2, none⟩ (.int .i64 (d.left - 1)) = w1 at *
      clear c2 y2 hb hp hw64 hlf
      have HAT := Lib.hid (at_any HM1.out hn x)
      go_wp2_with (go_at_call 29; refine HAT.out.mono ?_)
      rintro e w2 ⟨rfl, hc2⟩
      have HM2 := Lib.hid (HM1.out.chg hc2 (fun _ _ h => h))
      have HC2 : Hid (Chg (RHas q v rs) w w2) := (HC1.out.weak (fun k hk => .inl (.inl hk))).trans hc2 (fun _ h => h.elim)
      clear hc2 HAT
      rcases plc_cases rs x with ⟨k, hk, h1, h2, h3⟩ | ⟨h1, h2, h3⟩
      · rw [h1]
        have HFD : Hid (d.find x = some rs[k].f) := by unfold Hid; rw [find_rs HFS.out x]; exact h3
        have HXK := Lib.hid h2
        have hk0 : ¬ (k : Int) < 0 := by omega
        have hkn : (k : Int) < (rs.length : Int) := by omega
        have c0 := HM2.out.c.cell (j := 0) rfl
        obtain ⟨a0, cap0, hv0, _, _, hcl⟩ := HM2.out.o.val
        obtain ⟨g, rfl, z0, z1, z2⟩ := hcl k hk
        rw [hv0] at c0
        clear h1 h2 h3 hcl
        subst hv0
        obtain ⟨a3, c3, hsv, hby3, hle3, hcm3, hrm3⟩ := (HM2.out.b _ (List.getElem_mem hk)).bytes
        rw [hsv] at z1
        rw [HXK.out] at z0
        simp only [encStr] at z0
        have HRV := Lib.hid (HM2.out.b _ (List.getElem_mem hk))
        have HRC : Hid ((⟨y, rs[k].f, rs[k].v⟩ : Rf).cells = [.string ⟨y.toArray⟩, .slice a3 rs[k].f.bytes.length c3, .int .i64 (rs[k].f.safe : Nat)]) := by unfold Hid Rf.cells; rw [hsv]
        have HMK := Lib.hid (fun (b : Nat) (hb : Value.room rs[k].v = some b) => (show RHas q (.slice (some ⟨g, 0, none⟩) rs.length cap0) rs b from .inr (.inr ⟨rs[k], List.getElem_mem hk, hb⟩)))
        clear hsv hby3 hle3 hcm3 hrm3
        have HNM := Lib.hid (ref_disk_l y w2 HYL.out)
        obtain ⟨b, hb9⟩ : ∃ b, dkName y = b := ⟨_, rfl⟩
        rw [hb9] at HNM
        have HB9 := Lib.hid hb9
        clear hb9
        cases b with
        | false =>
          go_wp2_with (go_at_call 30; refine HNM.out.mono ?_)
          rintro e w3 ⟨rfl, hw3⟩
          obtain rfl := hw3.symm
          go_wp2_with fail
          go_ret
          refine rdone_mk (n := 5) (d' := d.step) HT.out rfl HM2.out HFS.out HC2.out (fun k hk => .inl hk) (HR.out.symm.trans ((at_some HFD.out HX.out).trans ?_))
          simp only [if_pos HB9.out, id]
        | true =>
          obtain ⟨ln, hln⟩ : ∃ ln, rs[k].f.bytes.length = ln := ⟨_, rfl⟩
          obtain ⟨sf, hsf⟩ : ∃ sf, rs[k].f.safe = sf := ⟨_, rfl⟩
          rw [hln] at z1 HRC
          rw [hsf] at z2 HRC
          clear hln hsf
          go_wp2_with (go_at_call 30; refine HNM.out.mono ?_)
          rintro e wx ⟨rfl, hw3⟩
          obtain rfl := hw3.symm
          clear HNM
          have hbx := Box.new w2 [.string ⟨x.toArray⟩, .slice a3 ln c3, .int .i64 (sf : Nat)] 64
          have hal := (Chg.refl Nil w2).alloc (.cells #[.string ⟨x.toArray⟩, .slice a3 ln c3, .int .i64 (sf : Nat)] 64)
          go_upto_region 34 with fail
          have hbx : Box (w2.alloc (.cells #[.string ⟨x.toArray⟩, .slice a3 ln c3, .int .i64 (sf : Nat)] 64)) w2.heap.size [.string ⟨x.toArray⟩, .slice a3 ln c3, .int .i64 (sf : Nat)] 64 := hbx
          clear z0 z1 z2 c0
          have HSZ : Hid (w2.heap.size < (w2.alloc (.cells #[.string ⟨x.toArray⟩, .slice a3 ln c3, .int .i64 (sf : Nat)] 64)).heap.size) := by unfold Hid; rw [World.size_alloc]; omega
          generalize w2.alloc (.cells #[.string ⟨x.toArray⟩, .slice a3 ln c3, .int .i64 (sf : Nat)] 64) = w4 at *
          obtain ⟨gb, hgb⟩ : ∃ gb, w2.heap.size = gb := ⟨_, rfl⟩
          have HGB := Lib.hid hgb
          rw [hgb] at hbx HSZ
          rw [hgb]
          have y0 := hbx.cell (j := 0) rfl
          have yf := hbx.free 0
          have hst : Chg Nil w2 (w4.setCell ⟨gb, 0, none⟩ (.string ⟨y.toArray⟩)) := hal.setCell (.inr (by show w2.heap.size ≤ gb; omega)) _
          have hbx5 := hbx.set 0 (.string ⟨y.toArray⟩)
          have HSZ5 : Hid (gb < (w4.setCell ⟨gb, 0, none⟩ (.string ⟨y.toArray⟩)).heap.size) := by have := HSZ.out; unfold Hid; rw [World.size_setCell]; exact this
          clear hgb
          go_upto_region 35 with fail
          clear y0 yf hbx hal
          have hbx5 : Box (w4.setCell ⟨gb, 0, none⟩ (.string ⟨y.toArray⟩)) gb [.string ⟨y.toArray⟩, .slice a3 ln c3, .int .i64 (sf : Nat)] 64 := hbx5
          generalize w4.setCell ⟨gb, 0, none⟩ (.string ⟨y.toArray⟩) = w5 at *
          have HM5 := Lib.hid (HM2.out.chg hst (fun _ _ h => h))
          have HC5 := Lib.hid (HC2.out.trans hst (fun _ h => h.elim))
          have HB5 := Lib.hid hbx5
          have HRM := Lib.hid (rremove_any HM5.out hn x)
          have HQG : Hid (q < gb) := by have := HM2.out.lt q (.inl rfl); have := HGB.out; unfold Hid; omega
          clear hbx5 HSZ
          go_wp2_with (go_at_call 31; refine HRM.out.mono ?_)
          rintro e w6 ⟨rfl, v6, hm6, hv6, hc6⟩
          have hn6 := Nat.le_trans (sans_len x rs) hn
          have HRM := Lib.hid (rremove_any hm6 hn6 y)
          have HB6 := Lib.hid (HB5.out.chg hc6 (fun h => by have := HQG.out; omega))
          have HZ56 := Lib.hid hc6.size
          have HC6 := Lib.hid hc6
          clear hm6 hv6 hc6 hn6 HB5
          go_wp2_with (go_at_call 31; refine HRM.out.mono ?_)
          rintro e w7 ⟨rfl, v7, hm7, hv7, hc7⟩
          have hcj := hm7.c.cell (j := 0) rfl
          have HB7 := Lib.hid (HB6.out.chg hc7 (fun h => by have := HQG.out; omega))
          have HNG : Hid (¬ v7.ownBlock = some gb) := fun e => by have := hv7 gb e; have := HZ56.out; have := HSZ5.out; omega
          have HNE := Lib.hid hm7.ne.1
          have HM7 := Lib.hid hm7
          have HV7 := Lib.hid hv7
          have HC7 : Hid (Chg (RHas q (.slice (some ⟨g, 0, none⟩) rs.length cap0) rs) w w7) := (HC5.out.trans HC6.out (fun k hk => .inl (.inl hk))).trans hc7 (fun k hk => .inl (.inl hk))
          have HZ7 := Lib.hid hc7.size
          obtain ⟨rs7, hrs7⟩ : ∃ l, l = sans y (sans x rs) := ⟨_, rfl⟩
          rw [← hrs7] at HM7
          have HR7 := Lib.hid hrs7
          have hl7 : rs7.length ≤ 200 := by rw [hrs7]; exact Nat.le_trans (sans_len _ _) (Nat.le_trans (sans_len _ _) hn)
          have HL7 := Lib.hid hl7
          have x0 := HB7.out.cell (j := 0) rfl
          have x1 := HB7.out.cell (j := 1) rfl
          have x2 := HB7.out.cell (j := 2) rfl
          obtain ⟨r7, hr7⟩ : ∃ r : Rf, r = ⟨y, rs[k].f, rs[k].v⟩ := ⟨_, rfl⟩
          rw [← hr7] at HRC
          have HRR := Lib.hid hr7
          have HMK : Hid (∀ b, Value.room r7.v = some b → RHas q (.slice (some ⟨g, 0, none⟩) rs.length cap0) rs b) := by rw [hr7]; exact HMK.out
          have hc27 : Chg (fun k => k = q) w2 w7 := ((hst.weak (fun _ h => h.elim)).trans HC6.out (fun _ h => .inl h)).trans hc7 (fun _ h => .inl h)
          have HRV7 : Hid (SlcRow w7 5 1 r7.v r7.f.bytes.length (r7.f.bytes.map bval)) := by
            rw [hr7]
            exact HRV.out.chg hc27 (fun b hb e => (HM2.out.ne.2 _ (List.getElem_mem hk)).1 (hb.trans (congrArg some e)))
          have HSB : Hid (∀ b, RHas q v7 rs7 b → RHas q (.slice (some ⟨g, 0, none⟩) rs.length cap0) rs b ∨ w.heap.size ≤ b) := by
            rintro b (hb | hb | ⟨r, hr, hb⟩)
            · exact .inl (.inl hb)
            · exact .inr (by have := hv7 b hb; have := HZ56.out; have := HC5.out.size; omega)
            · rw [hrs7] at hr
              exact .inl (.inr (.inr ⟨r, (List.mem_filter.1 (List.mem_filter.1 hr).1).1, hb⟩))
          clear hm7 hv7 hc7 HC6 HB6 HRM hrs7 hl7 hr7 HC5 hst hc27 HRV
          go_upto_region 37 with fail
          refine Ch.wp_region_last2 _ _ rfl (Chg (fun i => v7.ownBlock = some i)) [6, 7] (FapF w7.heap.size v7 rs7 r7) (by kernel_rfl) (fun _ => Chg.refl _ _) (fun _ _ _ h k => h.trans k (fun _ h => .inl h)) [[], [], [1], [2], [3], [], [5], [4, 6], [0], [8]] rfl (by kernel_rfl) (by kernel_rfl) (by kernel_rfl) (Chg.refl _ _).drew ?_ ?_
          · exact HM7.out.o.chg (Chg.refl Nil _).drew (fun _ _ h => h)
          simp only [List.dropLast_cons_cons, List.dropLast_singleton]
          iterate 4 ((with_reducible apply Ch.Walk.eq); (case hd => rfl); (case hi => rfl); case h => (intro w2 hw2 N hN; simp only [Ch.depsOf, List.filterMap_nil, List.filterMap_cons, List.getElem?_toArray, List.getElem?_cons_zero, List.getElem?_cons_succ, Option.bind_some, List.nil_append, List.cons_append, Ch.Ob]; go_simp; (try go_bits); with_reducible exact hN _ (Chg.refl _ _) (fun _ h => h)))
          ((with_reducible apply Ch.Walk.eq); (case hd => rfl); (case hi => rfl); case h => (intro w2 hw2 N hN; (have hq := hw2.cell hcj (fun e => HNE.out e)); simp only [Ch.depsOf, List.filterMap_nil, List.filterMap_cons, List.getElem?_toArray, List.getElem?_cons_zero, List.getElem?_cons_succ, Option.bind_some, List.nil_append, List.cons_append, Ch.Ob]; go_simp; (try go_bits); with_reducible exact hN _ (Chg.refl _ _) (fun _ h => h)))
          ((with_reducible apply Ch.Walk.eq); (case hd => rfl); (case hi => rfl); case h => (intro w2 hw2 N hN; (have hx0 := hw2.cell x0 (fun e => HNG.out e); have hx1 := hw2.cell x1 (fun e => HNG.out e); have hx2 := hw2.cell x2 (fun e => HNG.out e)); simp only [Ch.depsOf, List.filterMap_nil, List.filterMap_cons, List.getElem?_toArray, List.getElem?_cons_zero, List.getElem?_cons_succ, Option.bind_some, List.nil_append, List.cons_append, Ch.Ob]; go_simp; (try go_bits); with_reducible exact hN _ (Chg.refl _ _) (fun _ h => h)))
          refine Ch.Walk.chain 0 rfl rfl ?_ ?_
          · intro w8 hw8 vs hvs hF N hN
            obtain rfl := List.eq_nil_of_length_eq_zero hvs
            simp only [Ch.depsOf, List.filterMap_nil, List.filterMap_cons, List.getElem?_toArray, List.getElem?_cons_zero, List.getElem?_cons_succ, Option.bind_some, List.nil_append, List.cons_append, Ch.Ob, Ch.chained_get, Option.map_some, List.idxOf?, List.findIdx?, List.findIdx?.go, Nat.reduceBEq, List.getD_cons_zero, List.getD_cons_succ, Nat.reduceAdd, if_true, if_false, Bool.false_eq_true]
            go_simp
            have hal := (Chg.refl Nil w8).alloc (.cells #[.string ⟨y.toArray⟩, .slice a3 ln c3, .int .i64 (sf : Nat)] 64)
            exact hN _ _ (hal.weak (fun _ h => h.elim)) ⟨OwnF.chg hF hal (fun _ _ h => h), w8.heap.size, rfl, by rw [HRC.out]; exact Box.new w8 [.string ⟨y.toArray⟩, .slice a3 ln c3, .int .i64 (sf : Nat)] _⟩
          refine Ch.Walk.chain 1 rfl rfl ?_ ?_
          · intro w8 hw8 vs hvs hF N hN
            obtain ⟨v1, rfl⟩ := List.length_eq_one_iff.1 hvs
            simp only [Ch.depsOf, List.filterMap_nil, List.filterMap_cons, List.getElem?_toArray, List.getElem?_cons_zero, List.getElem?_cons_succ, Option.bind_some, List.nil_append, List.cons_append, Ch.Ob, Ch.chained_get, Option.map_some, List.idxOf?, List.findIdx?, List.findIdx?.go, Nat.reduceBEq, List.getD_cons_zero, List.getD_cons_succ, Nat.reduceAdd, if_true, if_false, Bool.false_eq_true]
            obtain ⟨f1, q8, rfl, f3⟩ := hF
            have hz3 := hw8.size
            refine Ch.if_append_row rfl (.tmp 157) (.tmp 159) 31 31 rfl refT _ Tryz.underlying31 (by intro _; simp) v7 rs7.length (rs7.flatMap Rf.cells) rfl f1 (.slice (some ⟨q8, 0, none⟩) 1 1) 1 r7.cells rfl (Source.box f3 rfl (by rw [HRC.out]; exact cells_one y a3 ln c3 sf)) (by have := HL7.out; unfold maxLen; omega) (by have := HL7.out; omega) (fun v' w' h1 h2 => hN _ _ h2.chg ?_)
            refine ⟨?_, fun k hk => (h2.own k hk).imp id fun h => ?_⟩
            · unfold OwnF
              rw [List.length_append, List.flatMap_append, List.flatMap_cons, List.flatMap_nil, List.append_nil]
              exact h1
            · have hz3 : w7.heap.size ≤ w8.heap.size := hz3
              omega
          iterate 2 ((with_reducible apply Ch.Walk.eq); (case hd => rfl); (case hi => rfl); case h => (intro w2 hw2 N hN; simp only [Ch.depsOf, List.filterMap_nil, List.filterMap_cons, List.getElem?_toArray, List.getElem?_cons_zero, List.getElem?_cons_succ, Option.bind_some, List.nil_append, List.cons_append, Ch.Ob]; go_simp; (try go_bits); with_reducible exact hN _ (Chg.refl _ _) (fun _ h => h)))
          intro w8 hw8
          simp only [List.nil_append, List.cons_append, Ch.Fin, List.map_cons, List.map_nil, List.getD_cons_zero, List.getD_cons_succ]
          intro v5 _ v8 _ hF
          have f1 : OwnF w8 v8 (rs7 ++ [r7]) := hF.1
          have f2 : ∀ k, v8.ownBlock = some k → v7.ownBlock = some k ∨ w7.heap.size ≤ k := hF.2
          clear hF
          have hw8 : Chg (fun i => v7.ownBlock = some i) w7 w8 := hw8
          generalize hrs8 : rs7 ++ [r7] = rs8 at f1
          have hv8 := f1.form
          generalize vA v8 = a8 at hv8
          generalize vC v8 = c8 at hv8
          subst hv8
          simp only [Ch.Then, Oper.wp]
          have hcb := HM7.out.c.chg hw8 HNE.out
          have hcp := hcb.cell (j := 0) rfl
          have hcf := hcb.free 0
          have HCB := Lib.hid hcb
          have HF1 := Lib.hid f1
          have HF2 := Lib.hid f2
          have HW8 := Lib.hid hw8
          have HR8 := Lib.hid hrs8.symm
          clear f1 f2 hw8 hrs8 hcb x0 x1 x2 hcj
          go_simp
          go_wp2_with fail
          go_ret
          refine rmade_mk (d' := (d.step.del x).put y rs[k].f) HT.out HM7.out HC7.out HSB.out HR8.out HF1.out HCB.out HW8.out HF2.out HRV7.out HMK.out (named_fs (d := d.step) HFS.out x y HR7.out HRR.out HR8.out) (HR.out.symm.trans ((at_some HFD.out HX.out).trans ?_))
          have hb : ¬ dkName y = false := by rw [HB9.out]; decide
          simp only [if_neg hb]
      · rw [h1]
        have HFN : Hid (d.find x = none) := by unfold Hid; rw [find_rs HFS.out x]; exact h3
        clear h1 h2 h3
        go_wp2_with fail
        go_ret
        exact rdone_mk (n := 7) (d' := d.step) HT.out rfl HM2.out HFS.out HC2.out (fun k hk => .inl hk) (HR.out.symm.trans (at_none HFN.out HX.out))
    · have HM1 : Hid (Rm w q v rs d.step.room d.step.left) := by
        have e : d.step.left = d.left := if_neg hp
        unfold Hid
        rw [e]; exact hm
      have HC1 : Hid (Chg (fun k => k = q) w w) := Chg.refl _ w
      clear hm hfs hT hok hR h0
      go_enter Tryz.func12, Tryz.ntmps12
      go_upto_region 5 with fail
      clear c2 y2 hb hp hlf
      have HAT := Lib.hid (at_any HM1.out hn x)
      go_wp2_with (go_at_call 29; refine HAT.out.mono ?_)
      rintro e w2 ⟨rfl, hc2⟩
      have HM2 := Lib.hid (HM1.out.chg hc2 (fun _ _ h => h))
      have HC2 : Hid (Chg (RHas q v rs) w w2) := (HC1.out.weak (fun k hk => .inl (.inl hk))).trans hc2 (fun _ h => h.elim)
      clear hc2 HAT
      rcases plc_cases rs x with ⟨k, hk, h1, h2, h3⟩ | ⟨h1, h2, h3⟩
      · rw [h1]
        have HFD : Hid (d.find x = some rs[k].f) := by unfold Hid; rw [find_rs HFS.out x]; exact h3
        have HXK := Lib.hid h2
        have hk0 : ¬ (k : Int) < 0 := by omega
        have hkn : (k : Int) < (rs.length : Int) := by omega
        have c0 := HM2.out.c.cell (j := 0) rfl
        obtain ⟨a0, cap0, hv0, _, _, hcl⟩ := HM2.out.o.val
        obtain ⟨g, rfl, z0, z1, z2⟩ := hcl k hk
        rw [hv0] at c0
        clear h1 h2 h3 hcl
        subst hv0
        obtain ⟨a3, c3, hsv, hby3, hle3, hcm3, hrm3⟩ := (HM2.out.b _ (List.getElem_mem hk)).bytes
        rw [hsv] at z1
        rw [HXK.out] at z0
        simp only [encStr] at z0
        have HRV := Lib.hid (HM2.out.b _ (List.getElem_mem hk))
        have HRC : Hid ((⟨y, rs[k].f, rs[k].v⟩ : Rf).cells = [.string ⟨y.toArray⟩, .slice a3 rs[k].f.bytes.length c3, .int .i64 (rs[k].f.safe : Nat)]) := by unfold Hid Rf.cells; rw [hsv]
        have HMK := Lib.hid (fun (b : Nat) (hb : Value.room rs[k].v = some b) => (show RHas q (.slice (some ⟨g, 0, none⟩) rs.length cap0) rs b from .inr (.inr ⟨rs[k], List.getElem_mem hk, hb⟩)))
        clear hsv hby3 hle3 hcm3 hrm3
        have HNM := Lib.hid (ref_disk_l y w2 HYL.out)
        obtain ⟨b, hb9⟩ : ∃ b, dkName y = b := ⟨_, rfl⟩
        rw [hb9] at HNM
        have HB9 := Lib.hid hb9
        clear hb9
        cases b with
        | false =>
          go_wp2_with (go_at_call 30; refine HNM.out.mono ?_)
          rintro e w3 ⟨rfl, hw3⟩
          obtain rfl := hw3.symm
          go_wp2_with fail
          go_ret
          refine rdone_mk (n := 5) (d' := d.step) HT.out rfl HM2.out HFS.out HC2.out (fun k hk => .inl hk) (HR.out.symm.trans ((at_some HFD.out HX.out).trans ?_))
          simp only [if_pos HB9.out, id]
        | true =>
          obtain ⟨ln, hln⟩ : ∃ ln, rs[k].f.bytes.length = ln := ⟨_, rfl⟩
          obtain ⟨sf, hsf⟩ : ∃ sf, rs[k].f.safe = sf := ⟨_, rfl⟩
          rw [hln] at z1 HRC
          rw [hsf] at z2 HRC
          clear hln hsf
          go_wp2_with (go_at_call 30; refine HNM.out.mono ?_)
          rintro e wx ⟨rfl, hw3⟩
          obtain rfl := hw3.symm
          clear HNM
          have hbx := Box.new w2 [.string ⟨x.toArray⟩, .slice a3 ln c3, .int .i64 (sf : Nat)] 64
          have hal := (Chg.refl Nil w2).alloc (.cells #[.string ⟨x.toArray⟩, .slice a3 ln c3, .int .i64 (sf : Nat)] 64)
          go_upto_region 34 with fail
          have hbx : Box (w2.alloc (.cells #[.string ⟨x.toArray⟩, .slice a3 ln c3, .int .i64 (sf : Nat)] 64)) w2.heap.size [.string ⟨x.toArray⟩, .slice a3 ln c3, .int .i64 (sf : Nat)] 64 := hbx
          clear z0 z1 z2 c0
          have HSZ : Hid (w2.heap.size < (w2.alloc (.cells #[.string ⟨x.toArray⟩, .slice a3 ln c3, .int .i64 (sf : Nat)] 64)).heap.size) := by unfold Hid; rw [World.size_alloc]; omega
          generalize w2.alloc (.cells #[.string ⟨x.toArray⟩, .slice a3 ln c3, .int .i64 (sf : Nat)] 64) = w4 at *
          obtain ⟨gb, hgb⟩ : ∃ gb, w2.heap.size = gb := ⟨_, rfl⟩
          have HGB := Lib.hid hgb
          rw [hgb] at hbx HSZ
          rw [hgb]
          have y0 := hbx.cell (j := 0) rfl
          have yf := hbx.free 0
          have hst : Chg Nil w2 (w4.setCell ⟨gb, 0, none⟩ (.string ⟨y.toArray⟩)) := hal.setCell (.inr (by show w2.heap.size ≤ gb; omega)) _
          have hbx5 := hbx.set 0 (.string ⟨y.toArray⟩)
          have HSZ5 : Hid (gb < (w4.setCell ⟨gb, 0, none⟩ (.string ⟨y.toArray⟩)).heap.size) := by have := HSZ.out; unfold Hid; rw [World.size_setCell]; exact this
          clear hgb
          go_upto_region 35 with fail
          clear y0 yf hbx hal
          have hbx5 : Box (w4.setCell ⟨gb, 0, none⟩ (.string ⟨y.toArray⟩)) gb [.string ⟨y.toArray⟩, .slice a3 ln c3, .int .i64 (sf : Nat)] 64 := hbx5
          generalize w4.setCell ⟨gb, 0, none⟩ (.string ⟨y.toArray⟩) = w5 at *
          have HM5 := Lib.hid (HM2.out.chg hst (fun _ _ h => h))
          have HC5 := Lib.hid (HC2.out.trans hst (fun _ h => h.elim))
          have HB5 := Lib.hid hbx5
          have HRM := Lib.hid (rremove_any HM5.out hn x)
          have HQG : Hid (q < gb) := by have := HM2.out.lt q (.inl rfl); have := HGB.out; unfold Hid; omega
          clear hbx5 HSZ
          go_wp2_with (go_at_call 31; refine HRM.out.mono ?_)
          rintro e w6 ⟨rfl, v6, hm6, hv6, hc6⟩
          have hn6 := Nat.le_trans (sans_len x rs) hn
          have HRM := Lib.hid (rremove_any hm6 hn6 y)
          have HB6 := Lib.hid (HB5.out.chg hc6 (fun h => by have := HQG.out; omega))
          have HZ56 := Lib.hid hc6.size
          have HC6 := Lib.hid hc6
          clear hm6 hv6 hc6 hn6 HB5
          go_wp2_with (go_at_call 31; refine HRM.out.mono ?_)
          rintro e w7 ⟨rfl, v7, hm7, hv7, hc7⟩
          have hcj := hm7.c.cell (j := 0) rfl
          have HB7 := Lib.hid (HB6.out.chg hc7 (fun h => by have := HQG.out; omega))
          have HNG : Hid (¬ v7.ownBlock = some gb) := fun e => by have := hv7 gb e; have := HZ56.out; have := HSZ5.out; omega
          have HNE := Lib.hid hm7.ne.1
          have HM7 := Lib.hid hm7
          have HV7 := Lib.hid hv7
          have HC7 : Hid (Chg (RHas q (.slice (some ⟨g, 0, none⟩) rs.length cap0) rs) w w7) := (HC5.out.trans HC6.out (fun k hk => .inl (.inl hk))).trans hc7 (fun k hk => .inl (.inl hk))
          have HZ7 := Lib.hid hc7.size
          obtain ⟨rs7, hrs7⟩ : ∃ l, l = sans y (sans x rs) := ⟨_, rfl⟩
          rw [← hrs7] at HM7
          have HR7 := Lib.hid hrs7
          have hl7 : rs7.length ≤ 200 := by rw [hrs7]; exact Nat.le_trans (sans_len _ _) (Nat.le_trans (sans_len _ _) hn)
          have HL7 := Lib.hid hl7
          have x0 := HB7.out.cell (j := 0) rfl
          have x1 := HB7.out.cell (j := 1) rfl
          have x2 := HB7.out.cell (j := 2) rfl
          obtain ⟨r7, hr7⟩ : ∃ r : Rf, r = ⟨y, rs[k].f, rs[k].v⟩ := ⟨_, rfl⟩
          rw [← hr7] at HRC
          have HRR := Lib.hid hr7
          have HMK : Hid (∀ b, Value.room r7.v = some b → RHas q (.slice (some ⟨g, 0, none⟩) rs.length cap0) rs b) := by rw [hr7]; exact HMK.out
          have hc27 : Chg (fun k => k = q) w2 w7 := ((hst.weak (fun _ h => h.elim)).trans HC6.out (fun _ h => .inl h)).trans hc7 (fun _ h => .inl h)
          have HRV7 : Hid (SlcRow w7 5 1 r7.v r7.f.bytes.length (r7.f.bytes.map bval)) := by
            rw [hr7]
            exact HRV.out.chg hc27 (fun b hb e => (HM2.out.ne.2 _ (List.getElem_mem hk)).1 (hb.trans (congrArg some e)))
          have HSB : Hid (∀ b, RHas q v7 rs7 b → RHas q (.slice (some ⟨g, 0, none⟩) rs.length cap0) rs b ∨ w.heap.size ≤ b) := by
            rintro b (hb | hb | ⟨r, hr, hb⟩)
            · exact .inl (.inl hb)
            · exact .inr (by have := hv7 b hb; have := HZ56.out; have := HC5.out.size; omega)
            · rw [hrs7] at hr
              exact .inl (.inr (.inr ⟨r, (List.mem_filter.1 (List.mem_filter.1 hr).1).1, hb⟩))
          clear hm7 hv7 hc7 HC6 HB6 HRM hrs7 hl7 hr7 HC5 hst hc27 HRV
          go_upto_region 37 with fail
          refine Ch.wp_region_last2 _ _ rfl (Chg (fun i => v7.ownBlock = some i)) [6, 7] (FapF w7.heap.size v7 rs7 r7) (by kernel_rfl) (fun _ => Chg.refl _ _) (fun _ _ _ h k => h.trans k (fun _ h => .inl h)) [[], [], [1], [2], [3], [], [5], [4, 6], [0], [8]] rfl (by kernel_rfl) (by kernel_rfl) (by kernel_rfl) (Chg.refl _ _).drew ?_ ?_
          · exact HM7.out.o.chg (Chg.refl Nil _).drew (fun _ _ h => h)
          simp only [List.dropLast_cons_cons, List.dropLast_singleton]
          iterate 4 ((with_reducible apply Ch.Walk.eq); (case hd => rfl); (case hi => rfl); case h => (intro w2 hw2 N hN; simp only [Ch.depsOf, List.filterMap_nil, List.filterMap_cons, List.getElem?_toArray, List.getElem?_cons_zero, List.getElem?_cons_succ, Option.bind_some, List.nil_append, List.cons_append, Ch.Ob]; go_simp; (try go_bits); with_reducible exact hN _ (Chg.refl _ _) (fun _ h => h)))
          ((with_reducible apply Ch.Walk.eq); (case hd => rfl); (case hi => rfl); case h => (intro w2 hw2 N hN; (have hq := hw2.cell hcj (fun e => HNE.out e)); simp only [Ch.depsOf, List.filterMap_nil, List.filterMap_cons, List.getElem?_toArray, List.getElem?_cons_zero, List.getElem?_cons_succ, Option.bind_some, List.nil_append, List.cons_append, Ch.Ob]; go_simp; (try go_bits); with_reducible exact hN _ (Chg.refl _ _) (fun _ h => h)))
          ((with_reducible apply Ch.Walk.eq); (case hd => rfl); (case hi => rfl); case h => (intro w2 hw2 N hN; (have hx0 := hw2.cell x0 (fun e => HNG.out e); have hx1 := hw2.cell x1 (fun e => HNG.out e); have hx2 := hw2.cell x2 (fun e => HNG.out e)); simp only [Ch.depsOf, List.filterMap_nil, List.filterMap_cons, List.getElem?_toArray, List.getElem?_cons_zero, List.getElem?_cons_succ, Option.bind_some, List.nil_append, List.cons_append, Ch.Ob]; go_simp; (try go_bits); with_reducible exact hN _ (Chg.refl _ _) (fun _ h => h)))
          refine Ch.Walk.chain 0 rfl rfl ?_ ?_
          · intro w8 hw8 vs hvs hF N hN
            obtain rfl := List.eq_nil_of_length_eq_zero hvs
            simp only [Ch.depsOf, List.filterMap_nil, List.filterMap_cons, List.getElem?_toArray, List.getElem?_cons_zero, List.getElem?_cons_succ, Option.bind_some, List.nil_append, List.cons_append, Ch.Ob, Ch.chained_get, Option.map_some, List.idxOf?, List.findIdx?, List.findIdx?.go, Nat.reduceBEq, List.getD_cons_zero, List.getD_cons_succ, Nat.reduceAdd, if_true, if_false, Bool.false_eq_true]
            go_simp
            have hal := (Chg.refl Nil w8).alloc (.cells #[.string ⟨y.toArray⟩, .slice a3 ln c3, .int .i64 (sf : Nat)] 64)
            exact hN _ _ (hal.weak (fun _ h => h.elim)) ⟨OwnF.chg hF hal (fun _ _ h => h), w8.heap.size, rfl, by rw [HRC.out]; exact Box.new w8 [.string ⟨y.toArray⟩, .slice a3 ln c3, .int .i64 (sf : Nat)] _⟩
          refine Ch.Walk.chain 1 rfl rfl ?_ ?_
          · intro w8 hw8 vs hvs hF N hN
            obtain ⟨v1, rfl⟩ := List.length_eq_one_iff.1 hvs
            simp only [Ch.depsOf, List.filterMap_nil, List.filterMap_cons, List.getElem?_toArray, List.getElem?_cons_zero, List.getElem?_cons_succ, Option.bind_some, List.nil_append, List.cons_append, Ch.Ob, Ch.chained_get, Option.map_some, List.idxOf?, List.findIdx?, List.findIdx?.go, Nat.reduceBEq, List.getD_cons_zero, List.getD_cons_succ, Nat.reduceAdd, if_true, if_false, Bool.false_eq_true]
            obtain ⟨f1, q8, rfl, f3⟩ := hF
            have hz3 := hw8.size
            refine Ch.if_append_row rfl (.tmp 157) (.tmp 159) 31 31 rfl refT _ Tryz.underlying31 (by intro _; simp) v7 rs7.length (rs7.flatMap Rf.cells) rfl f1 (.slice (some ⟨q8, 0, none⟩) 1 1) 1 r7.cells rfl (Source.box f3 rfl (by rw [HRC.out]; exact cells_one y a3 ln c3 sf)) (by have := HL7.out; unfold maxLen; omega) (by have := HL7.out; omega) (fun v' w' h1 h2 => hN _ _ h2.chg ?_)
            refine ⟨?_, fun k hk => (h2.own k hk).imp id fun h => ?_⟩
            · unfold OwnF
              rw [List.length_append, List.flatMap_append, List.flatMap_cons, List.flatMap_nil, List.append_nil]
              exact h1
            · have hz3 : w7.heap.size ≤ w8.heap.size := hz3
              omega
          iterate 2 ((with_reducible apply Ch.Walk.eq); (case hd => rfl); (case hi => rfl); case h => (intro w2 hw2 N hN; simp only [Ch.depsOf, List.filterMap_nil, List.filterMap_cons, List.getElem?_toArray, List.getElem?_cons_zero, List.getElem?_cons_succ, Option.bind_some, List.nil_append, List.cons_append, Ch.Ob]; go_simp; (try go_bits); with_reducible exact hN _ (Chg.refl _ _) (fun _ h => h)))
          intro w8 hw8
          simp only [List.nil_append, List.cons_append, Ch.Fin, List.map_cons, List.map_nil, List.getD_cons_zero, List.getD_cons_succ]
          intro v5 _ v8 _ hF
          have f1 : OwnF w8 v8 (rs7 ++ [r7]) := hF.1
          have f2 : ∀ k, v8.ownBlock = some k → v7.ownBlock = some k ∨ w7.heap.size ≤ k := hF.2
          clear hF
          have hw8 : Chg (fun i => v7.ownBlock = some i) w7 w8 := hw8
          generalize hrs8 : rs7 ++ [r7] = rs8 at f1
          have hv8 := f1.form
          generalize vA v8 = a8 at hv8
          generalize vC v8 = c8 at hv8
          subst hv8
          simp only [Ch.Then, Oper.wp]
          have hcb := HM7.out.c.chg hw8 HNE.out
          have hcp := hcb.cell (j := 0) rfl
          have hcf := hcb.free 0
          have HCB := Lib.hid hcb
          have HF1 := Lib.hid f1
          have HF2 := Lib.hid f2
          have HW8 := Lib.hid hw8
          have HR8 := Lib.hid hrs8.symm
          clear f1 f2 hw8 hrs8 hcb x0 x1 x2 hcj
          go_simp
          go_wp2_with fail
          go_ret
          refine rmade_mk (d' := (d.step.del x).put y rs[k].f) HT.out HM7.out HC7.out HSB.out HR8.out HF1.out HCB.out HW8.out HF2.out HRV7.out HMK.out (named_fs (d := d.step) HFS.out x y HR7.out HRR.out HR8.out) (HR.out.symm.trans ((at_some HFD.out HX.out).trans ?_))
          have hb : ¬ dkName y = false := by rw [HB9.out]; decide
          simp only [if_neg hb]
      · rw [h1]
        have HFN : Hid (d.find x = none) := by unfold Hid; rw [find_rs HFS.out x]; exact h3
        clear h1 h2 h3
        go_wp2_with fail
        go_ret
        exact rdone_mk (n := 7) (d' := d.step) HT.out rfl HM2.out HFS.out HC2.out (fun k hk => .inl hk) (HR.out.symm.trans (at_none HFN.out HX.out))
end Go.Proofs.YthjdkhjdgmnliaaGreatDoor
