/-
  The document's disk: remove, Read.
-/
import Derived.Test.YthjdkhjdgmnliaaGreatDoorRkL
set_option linter.unusedSimpArgs false
set_option linter.unusedVariables false
namespace Go.Proofs.YthjdkhjdgmnliaaGreatDoor
open Go.RowKit Go.Maps Go.Sort Go.Shelf

theorem OwnF.row {w : World} {v : Value} {rs : List Rf} (h : OwnF w v rs) {k : Nat} (hk : v.ownBlock = some k) : ∃ cur, w.heap[k]? = some (.cells cur 64 (0, 0)) := by
  rcases h.2 with ⟨rfl, _⟩ | ⟨g, cap, cur, rfl, _, hg, _⟩
  · cases hk
  · obtain rfl : g = k := Option.some.inj hk
    exact ⟨cur, hg⟩
/-- No two of the disk's blocks of other kinds are one. -/
theorem Rm.ne {w : World} {q : Nat} {v : Value} {rs : List Rf} {room : Nat} {left : Int} (h : Rm w q v rs room left) : v.ownBlock ≠ some q ∧ ∀ r ∈ rs, Value.room r.v ≠ some q ∧ ∀ k, v.ownBlock = some k → Value.room r.v ≠ some k := by
  have hq : w.heap[q]? = _ := h.c
  refine ⟨fun e => ?_, fun r hr => ⟨fun e => ?_, fun k hk e => ?_⟩⟩
  · obtain ⟨cur, hcur⟩ := h.o.row e
    rw [hq] at hcur
    have := (Obj.cells.inj (Option.some.inj hcur)).2.1
    exact absurd this (by decide)
  · obtain ⟨cur, hcur⟩ := (h.b r hr).row q e
    rw [hq] at hcur
    have := (Obj.cells.inj (Option.some.inj hcur)).2.1
    exact absurd this (by decide)
  · obtain ⟨cur, hcur⟩ := h.o.row hk
    obtain ⟨cur2, hcur2⟩ := (h.b r hr).row k e
    rw [hcur] at hcur2
    have := (Obj.cells.inj (Option.some.inj hcur2)).2.1
    exact absurd this (by decide)
theorem cells_one (x : Nm) (a1 : Option Addr) (n1 c1 s1 : Nat) : ∀ u ∈ ([.string ⟨x.toArray⟩, .slice a1 n1 c1, .int .i64 (s1 : Nat)] : List Value), u.oneCell' = true := by
  intro u hu
  simp only [List.mem_cons, List.not_mem_nil, or_false] at hu
  rcases hu with rfl | rfl | rfl <;> rfl
/-- Those that are not of this name. -/
def sans (t : Nm) (rs : List Rf) : List Rf := rs.filter fun r => decide (r.x ≠ t)
theorem sans_take (t : Nm) (rs : List Rf) {i : Nat} (hi : i < rs.length) : sans t (rs.take (i + 1)) = sans t (rs.take i) ++ (if rs[i].x = t then [] else [rs[i]]) := by
  unfold sans
  rw [List.take_succ_eq_append_getElem hi, List.filter_append]
  congr 1
  by_cases hp : rs[i].x = t
  · simp [hp]
  · simp [hp]
theorem sans_len (t : Nm) (l : List Rf) : (sans t l).length ≤ l.length := List.length_filter_le _ _

set_option maxHeartbeats 4000000 in
theorem rremove_any {w : World} {q : Nat} {v : Value} {rs : List Rf} {room : Nat} {left : Int} (h : Rm w q v rs room left) (hn : rs.length ≤ 200) (t : Nm) :
    Calls Tryz.prog 31 #[.pointer (some ⟨q, 0, none⟩), .string ⟨t.toArray⟩] w fun e w' => e = .returned (.tuple #[]) ∧ ∃ v', Rm w' q v' (sans t rs) room left ∧ (∀ k, v'.ownBlock = some k → w.heap.size ≤ k) ∧ Chg (fun k => k = q) w w' := by
  obtain ⟨a, cap, rfl, hcap, _, hcell⟩ := h.o.val
  have c0 := h.c.cell (j := 0) rfl
  have HCELL := Lib.hid hcell
  have HB := Lib.hid h.b
  have HM := Lib.hid h
  clear hcell h
  go_enter Tryz.func31, Tryz.ntmps31
  go_wp2_with fail
  clear c0
  go_loopw [12, 4] (fun ii uu wr => ∃ (wq : World) (uq : Value) (i : Nat), wq = wr ∧ uq = uu ∧ i ≤ rs.length ∧ ii = .int .i64 i ∧ OwnF wr uu (sans t (rs.take i)) ∧ (∀ k, uu.ownBlock = some k → w.heap.size ≤ k) ∧ Chg Nil w wr) (fun ii _ _ => rs.length - (RowKit.intOf ii).toNat)
  case atStart => exact ⟨_, _, 0, rfl, rfl, by omega, rfl, World.ownsRow_nil _ _ _ _, fun k hk => (by cases hk), Chg.refl _ _⟩
  case round =>
    obtain ⟨wr, uu, i, rfl, rfl, hi, rfl, hown, hub, hc⟩ := hrel
    have HC := Lib.hid hc
    have HO := Lib.hid hown
    have HU := Lib.hid hub
    clear hc hown hub
    by_cases hil : i < rs.length
    · have hii : (i : Int) < (rs.length : Int) := by omega
      have hi64 : wrap64 ((i : Int) + 1) = (i : Int) + 1 := by unfold wrap64; omega
      obtain ⟨g, rfl, z0, z1, z2⟩ := HCELL.out i hil
      obtain ⟨a1, c1, hv, _, _⟩ := (HB.out _ (List.getElem_mem hil)).form
      rw [hv] at z1
      have z0 := HC.out.cell z0 (fun h => h)
      have z1 := HC.out.cell z1 (fun h => h)
      have z2 := HC.out.cell z2 (fun h => h)
      have HBT := Lib.hid (sans_take t rs hil)
      have hbl : (sans t (rs.take i)).length ≤ 200 := by
        have h1 := sans_len t (rs.take i)
        rw [List.length_take] at h1
        omega
      have HCL : Hid (rs[i].cells = [.string ⟨rs[i].x.toArray⟩, .slice a1 rs[i].f.bytes.length c1, .int .i64 (rs[i].f.safe : Nat)]) := by unfold Hid Rf.cells; rw [hv]
      generalize rs[i] = r at *
      obtain ⟨x, ⟨bytes, s1⟩, rv⟩ := r
      simp only [encStr] at z0 z1 z2 HBT HCL hv
      clear hv
      generalize bytes.length = n1 at *
      have hbx := Box.new wr [.string ⟨x.toArray⟩, .slice a1 n1 c1, .int .i64 (s1 : Nat)] 64
      have hal := (Chg.refl Nil wr).alloc (.cells #[.string ⟨x.toArray⟩, .slice a1 n1 c1, .int .i64 (s1 : Nat)] 64)
      have HC2 := Lib.hid (HC.out.trans hal (fun _ h => h.elim))
      have HO2 : Hid (OwnF (wr.alloc (.cells #[.string ⟨x.toArray⟩, .slice a1 n1 c1, .int .i64 (s1 : Nat)] 64)) uu (sans t (rs.take i))) := ownsRow_chg HO.out hal (fun _ _ h => h)
      go_upto_region 4 with fail
      clear z0 z1 z2 hal
      have hbx : Box (wr.alloc (.cells #[.string ⟨x.toArray⟩, .slice a1 n1 c1, .int .i64 (s1 : Nat)] 64)) wr.heap.size [.string ⟨x.toArray⟩, .slice a1 n1 c1, .int .i64 (s1 : Nat)] 64 := hbx
      generalize wr.alloc (.cells #[.string ⟨x.toArray⟩, .slice a1 n1 c1, .int .i64 (s1 : Nat)] 64) = w2 at *
      generalize wr.heap.size = g2 at *
      have y0 := hbx.cell (j := 0) rfl
      have y1 := hbx.cell (j := 1) rfl
      have y2 := hbx.cell (j := 2) rfl
      obtain ⟨ys, hys⟩ : ∃ ys, sans t (rs.take i) = ys := ⟨_, rfl⟩
      rw [hys] at HBT HO2 hbl
      have HBL := Lib.hid hbl
      clear hbx hys HO
      by_cases hp : x = t
      · have hb1 : (x == t) = true := by simp [hp]
        have hb2 := HBT.out
        rw [if_pos hp, List.append_nil] at hb2
        have HB2 := Lib.hid hb2
        clear hp hb2 HBT
        go_wp2_with fail
        exact ⟨⟨_, _, i + 1, rfl, rfl, by omega, by go_num, by rw [HB2.out]; exact HO2.out, HU.out, HC2.out⟩, meas_one hil⟩
      · have hb1 : (x == t) = false := beq_eq_false_iff_ne.2 hp
        have hb2 := HBT.out
        rw [if_neg hp] at hb2
        have HB2 := Lib.hid hb2
        clear hp hb2 HBT
        go_wp2_with (at_builtin; go_must (refine wpList_append_grew rfl (.tmp 20) (.tmp 22) 31 31 rfl refT _ Tryz.underlying31 (by intro _; simp) uu _ _ rfl (ownsRow_chg HO2.out ((Chg.refl Nil _).alloc _) (fun _ _ h => h)) _ 1 [.string ⟨x.toArray⟩, .slice a1 n1 c1, .int .i64 (s1 : Nat)] rfl (Source.box (Box.new _ [.string ⟨x.toArray⟩, .slice a1 n1 c1, .int .i64 (s1 : Nat)] _) rfl (cells_one _ _ _ _ _)) (by have := HBL.out; unfold maxLen; omega) (by have := HBL.out; omega) ?_); intro u2 w8 hown2 hg2 _)
        have hal8 := (Chg.refl Nil w2).alloc (.cells #[.string ⟨x.toArray⟩, .slice a1 n1 c1, .int .i64 (s1 : Nat)] 64)
        have hsz := HC2.out.size
        refine ⟨⟨_, _, i + 1, rfl, rfl, by omega, by go_num, ?_, fun k hk => ?_, ?_⟩, meas_one hil⟩
        · rw [HB2.out]
          unfold OwnF
          rw [List.length_append, List.flatMap_append, List.flatMap_cons, List.flatMap_nil, List.append_nil, HCL.out]
          exact hown2
        · rcases hg2.own k hk with g | g
          · exact HU.out k g
          · rw [World.size_alloc] at g; omega
        · exact (HC2.out.trans hal8 (fun _ h => h.elim)).trans hg2.chg (fun k hk => .inr (HU.out k hk))
    · have hii : ¬ (i : Int) < (rs.length : Int) := by omega
      obtain rfl : i = rs.length := by omega
      have ho := HO.out
      rw [List.take_length] at ho
      have HO2 := Lib.hid ho
      have HM2 := Lib.hid (HM.out.chg HC.out (fun _ _ h => h))
      have z0 := HM2.out.c.free 0
      have c0 := HM2.out.c.cell (j := 0) rfl
      obtain ⟨a5, c5, hvv, _⟩ := ho.val
      rw [hvv] at HO2 HU
      have HOU := Lib.hid hvv
      clear ho HO
      rw [hvv]
      clear hvv
      go_wp2_with fail
      go_end0
      have hset : Chg (fun k => k = q) wr (wr.setCell ⟨q, 0, none⟩ (.slice a5 (sans t rs).length c5)) := Chg.setCell (S := fun k => k = q) (p := ⟨q, 0, none⟩) (Chg.refl _ wr) (.inl rfl) _
      have hqlt := HM.out.lt q (.inl rfl)
      refine ⟨rfl, _, ⟨HM2.out.c.set 0 _, HO2.out.chg hset (fun k hk e => by have := HU.out k hk; omega), fun r hr => ?_⟩, HU.out, (HC.out.weak (fun _ h => h.elim)).trans hset (fun k hk => .inl hk)⟩
      have hr2 := (List.mem_filter.1 hr).1
      exact (HM2.out.b r hr2).chg hset (fun k hk e => (HM2.out.ne.2 r hr2).1 (by rw [hk, e]))

theorem read_end {l : List UInt8} {F j : Nat} {most : Int} (hj : 0 < j → F + j ≤ l.length ∧ (j : Int) ≤ most) (hx : l.length ≤ F + j ∨ most ≤ (j : Int)) : (l.drop F).take j = readOf l F most := by
  unfold readOf
  by_cases h0 : most ≤ 0
  · have : j = 0 := by
      rcases Nat.eq_zero_or_pos j with h | h
      · exact h
      · have := (hj h).2; omega
    subst this
    rw [if_pos (.inr h0)]; rfl
  · rw [if_neg (by omega), Int.toNat_natCast]
    have hd : (l.drop F).length = l.length - F := List.length_drop
    rcases hx with hx | hx
    · rw [List.take_of_length_le (by omega)]
      rcases Nat.eq_zero_or_pos j with h | h
      · rw [List.take_of_length_le (by omega)]
      · have := (hj h).2
        rw [List.take_of_length_le (by omega)]
    · have h := (hj (by omega)).2
      congr 1
      omega
theorem byte_one (b : UInt8) : ∀ u ∈ ([bval b] : List Value), u.oneCell' = true := by
  intro u hu
  simp only [List.mem_cons, List.not_mem_nil, or_false] at hu
  subst hu; rfl

set_option maxHeartbeats 4000000 in
theorem rread_any {w : World} {q : Nat} {T : Nat → Prop} {d : Dk} (h : RefAt w q T d) (hok : d.Ok) (t : Nm) (frm most : Int) :
    Calls Tryz.prog 24 #[.pointer (some ⟨q, 0, none⟩), .string ⟨t.toArray⟩, .int .i64 frm, .int .i64 most] w fun e w' => ∃ a c, e = .returned (.slice a (d.read t frm most).length c) ∧ BytesAt w' a (d.read t frm most) ∧ Chg Nil w w' := by
  obtain ⟨v, rs, hm, hfs, _⟩ := h
  have hn : rs.length ≤ 200 := by have := hok.few; rw [hfs, List.length_map] at this; exact this
  have HAT := Lib.hid (at_any hm hn t)
  have hrd : d.read t frm most = match (rs.map fun r => (r.x, r.f)).lookup t with | some f => readOf f.bytes frm most | none => [] := by
    unfold Dk.read Dk.find
    rw [hfs]
    cases (rs.map fun r => (r.x, r.f)).lookup t <;> rfl
  rw [hrd]
  clear hrd
  have HM := Lib.hid hm
  rcases plc_cases rs t with ⟨k, hk, h1, h2, h3⟩ | ⟨h1, h2, h3⟩
  · rw [h3]
    show Calls Tryz.prog 24 #[.pointer (some ⟨q, 0, none⟩), .string ⟨t.toArray⟩, .int .i64 frm, .int .i64 most] w fun e w' => ∃ a c, e = .returned (.slice a (readOf rs[k].f.bytes frm most).length c) ∧ BytesAt w' a (readOf rs[k].f.bytes frm most) ∧ Chg Nil w w'
    obtain ⟨R, hR⟩ : ∃ R, readOf rs[k].f.bytes frm most = R := ⟨_, rfl⟩
    rw [hR]
    have HRR := Lib.hid hR
    clear hR
    rw [h1] at HAT
    have hbl : rs[k].f.bytes.length ≤ 1048576 := by
      have h4 := usedR_take rs hk
      have h5 := usedR_le rs (k + 1)
      have h6 := usedR_eq hfs
      have h7 := hok.fits
      have h8 := hok.room
      omega
    have HBL := Lib.hid hbl
    clear h1 h2 h3 hm hfs hok hbl
    go_enter Tryz.func24, Tryz.ntmps24
    go_wp2_with (go_at_call 29; refine HAT.out.mono ?_)
    rintro e w1 ⟨rfl, hc1⟩
    have HM1 := Lib.hid (HM.out.chg hc1 (fun _ _ h => h))
    have HC1 := Lib.hid hc1
    have hk0 : (0 : Int) ≤ (k : Int) := by omega
    have hkn : (k : Int) < (rs.length : Int) := by omega
    clear hc1 HAT
    by_cases hf0 : frm < 0
    · have hf1 : ¬ (0 : Int) ≤ frm := by omega
      have hr : R = [] := HRR.out.symm.trans (if_pos (.inl hf0))
      subst hr
      go_wp2_with fail
      go_ret
      exact ⟨none, 0, rfl, fun i hi => absurd hi (by simp), HC1.out⟩
    · obtain ⟨F, rfl⟩ : ∃ F : Nat, frm = (F : Int) := ⟨frm.toNat, by omega⟩
      have hf1 : (0 : Int) ≤ (F : Int) := by omega
      clear hf0
      obtain ⟨a, cap, rfl, hcap, _, hcell⟩ := HM1.out.o.val
      have c0 := HM1.out.c.cell (j := 0) rfl
      obtain ⟨g, rfl, z0, z1, z2⟩ := hcell k hk
      obtain ⟨a1, c1, hv, hby, hle, hcm9, hrm9⟩ := (HM1.out.b _ (List.getElem_mem hk)).bytes
      clear hcm9 hrm9
      rw [hv] at z1
      obtain ⟨l, hl⟩ : ∃ l, rs[k].f.bytes = l := ⟨_, rfl⟩
      rw [hl] at hby hle z1 HBL HRR
      have HBY := Lib.hid hby
      have HC0 := Lib.hid c0
      have HZ1 := Lib.hid z1
      clear hcell hv hl hby z0 z2 c0 z1
      go_wp2_with fail
      go_loopw [11, 9] (fun ii uu wr => ∃ (wq : World) (uq : Value) (j : Nat), wq = wr ∧ uq = uu ∧ ii = .int .i64 ((F + j : Nat) : Int) ∧ (0 < j → F + j ≤ l.length ∧ (j : Int) ≤ most) ∧ OwnB 5 wr uu ((l.drop F).take j) ∧ (∀ k, uu.ownBlock = some k → w1.heap.size ≤ k) ∧ Chg Nil w1 wr) (fun ii _ _ => l.length - (RowKit.intOf ii).toNat)
      case atStart => exact ⟨_, _, 0, rfl, rfl, rfl, fun h => absurd h (by omega), by simpa using OwnB.nil _ _, fun k hk => (by cases hk), Chg.refl _ _⟩
      case round =>
        obtain ⟨wr, uu, j, rfl, rfl, rfl, hj, hown, hub, hc⟩ := hrel
        have c0 := hc.cell HC0.out (fun h => h)
        have z1 := hc.cell HZ1.out (fun h => h)
        have HC := Lib.hid hc
        have HO := Lib.hid hown
        have HU := Lib.hid hub
        have HJ := Lib.hid hj
        obtain ⟨au, cu, hvu, hbu, hum9, hub9⟩ := hown.val
        clear hum9 hub9
        have HBU := Lib.hid hbu
        obtain ⟨I, hI⟩ : ∃ I, F + j = I := ⟨_, rfl⟩
        have HI := Lib.hid hI
        clear hown hub hbu
        rw [hI]
        by_cases hil : I < l.length
        · have hii : (I : Int) < (l.length : Int) := by omega
          have hlen : ((l.drop F).take j).length = j := by rw [List.length_take, List.length_drop]; omega
          rw [hlen] at hvu
          have hi64 : wrap64 ((I : Int) + 1) = (I : Int) + 1 := by have := HBL.out; unfold wrap64; omega
          by_cases hjm : (j : Int) < most
          · obtain ⟨gb, off, ha1, hcb⟩ := (hc.bytesAt HBY.out (fun _ _ h => h)) I hil
            have hnx : (l.drop F).take (j + 1) = (l.drop F).take j ++ [l[I]] := by
              have h9 : j < (l.drop F).length := by rw [List.length_drop]; omega
              rw [List.take_succ_eq_append_getElem h9, List.getElem_drop]
              simp only [hI]
            have HNX := Lib.hid hnx
            have HLEN := Lib.hid hlen
            have hjb : j ≤ 1048576 := by have := HBL.out; omega
            have HJB := Lib.hid hjb
            obtain ⟨bt, hbt⟩ : ∃ bt, l[I] = bt := ⟨_, rfl⟩
            rw [hbt] at hcb HNX
            simp only [bval] at hcb
            subst ha1
            have HVU := Lib.hid hvu
            rw [hvu]
            rw [hvu] at HO HU
            clear hc hj hI hnx hlen hjb hbt hvu
            go_wp2_with (at_builtin; go_must (refine wpList_append_bytes rfl (.tmp 41) (.tmp 53) 35 35 rfl bytT _ Tryz.underlying35 (by intro _; simp) (.slice au j cu) _ rfl (HO.out.alloc _) _ [bt] rfl (Source.box (Box.new _ [bval bt] _) rfl (byte_one bt)) (by rw [HLEN.out]; have := HJB.out; simp; omega) ?_); intro u2 w8 hown2 hg2 _)
            have hi2 := HI.out
            refine ⟨⟨_, _, j + 1, rfl, rfl, by rw [hi64]; congr 1; omega, fun _ => ⟨by omega, by omega⟩, ?_, fun k hk => ?_, ?_⟩, meas_step hil hi64⟩
            · rw [HNX.out]
              exact hown2
            · have hsz := HC.out.size
              rcases hg2.own k hk with g | g
              · exact HU.out k g
              · rw [World.size_alloc] at g; omega
            · exact (HC.out.trans ((Chg.refl Nil wr).alloc _) (fun _ h => h.elim)).trans hg2.chg (fun k hk => .inr (HU.out k hk))
          · have HF : Hid ((l.drop F).take j = R) := (read_end hj (.inr (by omega))).trans HRR.out
            have HLEN := Lib.hid hlen
            have HVU := Lib.hid hvu
            rw [hvu]
            clear hc hj hI hlen hvu
            go_wp2_with fail
            go_ret
            have hf := HF.out
            have hln := HLEN.out
            rw [hf] at hln
            exact ⟨au, ⟨cu, by rw [hln]; rfl⟩, by have := HBU.out; rwa [hf] at this, HC1.out.trans HC.out (fun _ h => h.elim)⟩
        · have hii : ¬ (I : Int) < (l.length : Int) := by omega
          have HF : Hid ((l.drop F).take j = R) := (read_end hj (.inl (by omega))).trans HRR.out
          have HVU := Lib.hid hvu
          rw [hvu]
          clear hc hj hI hvu
          go_wp2_with fail
          go_ret
          have hf := HF.out
          have hln : min j (l.length - F) = R.length := by rw [← hf, List.length_take, List.length_drop]
          exact ⟨au, ⟨cu, by rw [← hln]; rfl⟩, by have := HBU.out; rwa [hf] at this, HC1.out.trans HC.out (fun _ h => h.elim)⟩
  · rw [h3]
    rw [h1] at HAT
    clear h1 h2 h3 hm hfs hok
    go_enter Tryz.func24, Tryz.ntmps24
    go_wp2_with (go_at_call 29; refine HAT.out.mono ?_)
    rintro e w1 ⟨rfl, hc1⟩
    have HC1 := Lib.hid hc1
    clear hc1
    go_wp2_with fail
    go_ret
    exact ⟨none, 0, rfl, fun i hi => absurd hi (by simp), HC1.out⟩
end Go.Proofs.YthjdkhjdgmnliaaGreatDoor
