/-
  The document's disk: List, remove, Read.
-/
import Derived.Test.YthjdkhjdgmnliaaGreatDoorRkM
set_option linter.unusedSimpArgs false
set_option linter.unusedVariables false
namespace Go.Proofs.YthjdkhjdgmnliaaGreatDoor
open Go.RowKit Go.Maps Go.Sort Go.Shelf

theorem strsT : SliceT Tryz.prog 34 9 1 16 :=
  ⟨Tryz.underlying34, by
    obtain ⟨i, hi, hz, h1, h2⟩ := info_parts strInfo
    exact ⟨i, _, hi, hz, rfl, h1, h2⟩⟩

theorem sortStr_any {B : Nat} {w : World} {v : Value} {l : List Nm} (h : OwnS B w v l) (hl : l.length ≤ 1000000) :
    Calls Tryz.prog 36 #[v] w fun e w' => e = .returned (.tuple #[]) ∧ OwnS B w' v (sortN l) ∧ w.grownBy w' v.ownBlock := by
  have HS := Lib.hid (sortS_any h hl)
  clear h hl
  go_enter Tryz.func36, Tryz.ntmps36
  go_wp2_with (go_at_call 35; refine HS.out.mono ?_)
  rintro e w1 ⟨rfl, h1, h2⟩
  have H1 := Lib.hid h1
  have H2 := Lib.hid h2
  clear h1 h2
  go_wp2_with fail
  go_end0
  exact ⟨rfl, H1.out, H2.out⟩

theorem begins_take (bg : Nm) (rs : List Rf) {i : Nat} (hi : i < rs.length) : begins bg ((rs.take (i + 1)).map Rf.x) = begins bg ((rs.take i).map Rf.x) ++ (if bg.isPrefixOf rs[i].x = true then [rs[i].x] else []) := by
  rw [List.take_succ_eq_append_getElem hi, List.map_append]
  simp only [begins, List.filter_append, List.map_cons, List.map_nil]
  congr 1
  by_cases hp : bg.isPrefixOf rs[i].x = true
  · simp [hp]
  · simp [hp]
theorem begins_len (bg : Nm) (l : List Nm) : (begins bg l).length ≤ l.length := List.length_filter_le _ _

set_option maxHeartbeats 4000000 in
theorem rlist_any {w : World} {q : Nat} {v : Value} {rs : List Rf} {room : Nat} {left : Int} (h : Rm w q v rs room left) (hn : rs.length ≤ 200) (bg : Nm) :
    Calls Tryz.prog 22 #[.pointer (some ⟨q, 0, none⟩), .string ⟨bg.toArray⟩] w fun e w' => ∃ u, e = .returned u ∧ OwnS 0 w' u (sortN (begins bg (rs.map Rf.x))) ∧ Chg Nil w w' := by
  obtain ⟨a, cap, rfl, hcap, _, hcell⟩ := h.o.val
  have c0 := h.c.cell (j := 0) rfl
  have HCELL := Lib.hid hcell
  have HB := Lib.hid h.b
  clear hcell h
  go_enter Tryz.func22, Tryz.ntmps22
  go_wp2_with fail
  clear c0
  go_loopw [13, 5] (fun ii uu wr => ∃ (wq : World) (uq : Value) (i : Nat), wq = wr ∧ uq = uu ∧ i ≤ rs.length ∧ ii = .int .i64 i ∧ OwnS 0 wr uu (begins bg ((rs.take i).map Rf.x)) ∧ (∀ k, uu.ownBlock = some k → w.heap.size ≤ k) ∧ Chg Nil w wr) (fun ii _ _ => rs.length - (RowKit.intOf ii).toNat)
  case atStart => exact ⟨_, _, 0, rfl, rfl, by omega, rfl, World.ownsRow_nil _ _ _ _, fun k hk => (by cases hk), Chg.refl _ _⟩
  case round =>
    obtain ⟨wr, uu, i, rfl, rfl, hi, rfl, hown, hub, hc⟩ := hrel
    have HC := Lib.hid hc
    have HO := Lib.hid hown
    have HU := Lib.hid hub
    clear hc hown hub
    by_cases hil : i < rs.length
    · have hii : (i : Int) < (rs.length : Int) := by omega
      have hi64 : wrap64 ((i : Int) + 1) = (i : Int) + 1 := by unfold wrap64; omega
      obtain ⟨g, rfl, z0, z1, z2⟩ := HCELL.out i hil
      obtain ⟨a1, c1, hv, _, _⟩ := (HB.out _ (List.getElem_mem hil)).form
      rw [hv] at z1
      have z0 := HC.out.cell z0 (fun h => h)
      have z1 := HC.out.cell z1 (fun h => h)
      have z2 := HC.out.cell z2 (fun h => h)
      have HBT := Lib.hid (begins_take bg rs hil)
      have hbl : (begins bg ((rs.take i).map Rf.x)).length ≤ 200 := by
        have h1 := begins_len bg ((rs.take i).map Rf.x)
        rw [List.length_map, List.length_take] at h1
        omega
      generalize rs[i].f.bytes.length = n1 at *
      generalize rs[i].f.safe = s1 at *
      generalize rs[i].x = x at *
      simp only [encStr] at z0
      clear hv
      have hbx := Box.new wr [.string ⟨x.toArray⟩, .slice a1 n1 c1, .int .i64 (s1 : Nat)] 64
      have hal := (Chg.refl Nil wr).alloc (.cells #[.string ⟨x.toArray⟩, .slice a1 n1 c1, .int .i64 (s1 : Nat)] 64)
      have HC2 := Lib.hid (HC.out.trans hal (fun _ h => h.elim))
      have HO2 : Hid (OwnS 0 (wr.alloc (.cells #[.string ⟨x.toArray⟩, .slice a1 n1 c1, .int .i64 (s1 : Nat)] 64)) uu (begins bg ((rs.take i).map Rf.x))) := ownsRow_chg HO.out hal (fun _ _ h => h)
      have hHP := fun W => Any.strings_HasPrefix Tryz.lays99 ⟨x.toArray⟩ ⟨bg.toArray⟩ W
      go_upto_region 5 with fail
      clear z0 z1 z2 hal
      have hbx : Box (wr.alloc (.cells #[.string ⟨x.toArray⟩, .slice a1 n1 c1, .int .i64 (s1 : Nat)] 64)) wr.heap.size [.string ⟨x.toArray⟩, .slice a1 n1 c1, .int .i64 (s1 : Nat)] 64 := hbx
      generalize wr.alloc (.cells #[.string ⟨x.toArray⟩, .slice a1 n1 c1, .int .i64 (s1 : Nat)] 64) = w2 at *
      generalize wr.heap.size = g2 at *
      have y0 := hbx.cell (j := 0) rfl
      obtain ⟨ys, hys⟩ : ∃ ys, begins bg ((rs.take i).map Rf.x) = ys := ⟨_, rfl⟩
      rw [hys] at HBT HO2 hbl
      have HBL := Lib.hid hbl
      clear hbx hys HO
      by_cases hp : bg.isPrefixOf x = true
      · have hpp : Lib.hasPrefix x bg = true := hp
        have hb2 := HBT.out
        rw [if_pos hp] at hb2
        have HB2 := Lib.hid hb2
        clear hp hb2 HBT
        go_wp2_with (first
          | (go_at_call 34; refine (hHP _).mono ?_; rintro e w' ⟨rfl, hw'⟩; obtain rfl := hw'.symm)
          | (at_builtin; go_must (refine wpList_append_grew rfl (.tmp 21) (.tmp 24) 34 34 rfl strsT _ Tryz.underlying34 (by intro _; simp) uu _ _ rfl (ownsRow_chg HO2.out ((Chg.refl Nil _).alloc _) (fun _ _ h => h)) _ 1 [encStr x] rfl (Source.box (Box.new _ [encStr x] _) rfl (by intro v hv; simp [encStr] at hv; subst hv; rfl)) (by have := HBL.out; unfold maxLen; omega) (by have := HBL.out; omega) ?_); intro u2 w8 hown2 hg2 _))
        have hal8 := (Chg.refl Nil w2).alloc (.cells #[encStr x] 9)
        have hsz := HC2.out.size
        refine ⟨⟨_, _, i + 1, rfl, rfl, by omega, by go_num, ?_, fun k hk => ?_, ?_⟩, meas_one hil⟩
        · rw [HB2.out]
          unfold OwnS
          rw [List.length_append, List.map_append]
          exact hown2
        · rcases hg2.own k hk with g | g
          · exact HU.out k g
          · rw [World.size_alloc] at g; omega
        · refine (HC2.out.trans hal8 (fun _ h => h.elim)).trans hg2.chg (fun k hk => .inr (HU.out k hk))
      · have hpp : Lib.hasPrefix x bg = false := by
          cases h : Lib.hasPrefix x bg with
          | false => rfl
          | true => exact absurd h hp
        have hb2 := HBT.out
        rw [if_neg hp, List.append_nil] at hb2
        have HB2 := Lib.hid hb2
        clear hp hb2 HBT
        go_wp2_with (go_at_call 34; refine (hHP _).mono ?_; rintro e w' ⟨rfl, hw'⟩; obtain rfl := hw'.symm)
        exact ⟨⟨_, _, i + 1, rfl, rfl, by omega, by go_num, by rw [HB2.out]; exact HO2.out, HU.out, HC2.out⟩, meas_one hil⟩
    · have hii : ¬ (i : Int) < (rs.length : Int) := by omega
      obtain rfl : i = rs.length := by omega
      have ho := HO.out
      rw [List.take_length] at ho
      have hbl : (begins bg (rs.map Rf.x)).length ≤ 200 := by
        have h1 := begins_len bg (rs.map Rf.x)
        rw [List.length_map] at h1
        omega
      have HS := Lib.hid (sortStr_any ho (by omega))
      clear ho hbl HO
      go_wp2_with (go_at_call 36; refine HS.out.mono ?_)
      rintro e w2 rfl h1 h2
      have H1 := Lib.hid h1
      have hch : Chg Nil w w2 := HC.out.trans ⟨h2.os, h2.tape, h2.output, h2.size, fun k hk hn => h2.block k hk (fun e => hn e.symm)⟩ (fun k hk => .inr (HU.out k hk))
      have HCH := Lib.hid hch
      clear h1 h2 hch HS
      go_wp2_with fail
      go_ret
      exact ⟨_, rfl, H1.out, HCH.out⟩
end Go.Proofs.YthjdkhjdgmnliaaGreatDoor
