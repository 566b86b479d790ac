/-
  The least offset since a time. (Of the segments' seat.)
-/
import Derived.Test.YtmaomebnigcgeaaGreatDoorPl32
set_option linter.unusedSimpArgs false
set_option linter.unusedVariables false
namespace Go.Proofs.YtmaomebnigcgeaaGreatDoor
open Go.RowKit Go.Maps

theorem OwnM.val {w : World} {v : Value} {l : List Bm} (h : OwnM w v l) : ∃ a cap, v = .slice a l.length cap ∧ l.length ≤ cap ∧
    ∀ i (h : i < l.length), ∃ g, a = some ⟨g, 0, none⟩ ∧ ∀ j u, (l[i].c3)[j]? = some u → w.cell? ⟨g, i * 3 + j, none⟩ = some u := by
  rcases h.2 with ⟨rfl, hn⟩ | ⟨g, cap, cur, rfl, _, _, hle, _⟩
  · exact ⟨none, 0, by rw [hn], by omega, fun i hi => absurd hi (by omega)⟩
  · have e1 : ∀ j, (⟨g, 0, none⟩ : Addr).add j = ⟨g, j, none⟩ := fun j => by unfold Addr.add; split <;> simp_all
    refine ⟨some ⟨g, 0, none⟩, cap, rfl, hle, fun i hi => ⟨g, rfl, fun j u hj => ?_⟩⟩
    have := World.ownsRow.cells h (g := g) rfl (i * 3 + j) _ (fm_get (f := Bm.c3) (n := 3) (fun _ => rfl) l i hi j _ hj)
    rwa [e1] at this
theorem fold_ge : ∀ (rs : List Rec) (a : Int), a ≤ rs.foldl (fun t r => max t r.time) a ∧ ∀ r ∈ rs, r.time ≤ rs.foldl (fun t r => max t r.time) a
  | [], a => ⟨Int.le_refl _, fun r hr => by cases hr⟩
  | x :: rs, a => by
    have h := fold_ge rs (max a x.time)
    rw [List.foldl_cons]
    refine ⟨by omega, fun r hr => ?_⟩
    rcases List.mem_cons.1 hr with rfl | hr
    · omega
    · exact h.2 r hr
theorem timeOf_ge (rs : List Rec) : ∀ r ∈ rs, r.time ≤ timeOf rs := (fold_ge rs (-1)).2
def sinceV : Option Rec → Value
  | some r => .tuple #[.int .i64 r.off, .bool true]
  | none => .tuple #[.int .i64 0, .bool false]
theorem since_none {l : List Bt} {t : Int} (h : ∀ b ∈ l, ∀ r ∈ b.rs, r.time < t) : sinceL l t = none := by
  unfold sinceL
  rw [List.find?_eq_none]
  intro r hr
  obtain ⟨b, hb, hr⟩ := List.mem_flatMap.1 hr
  have := h b hb r hr
  simp
  omega
theorem since_found {l : List Bt} {t : Int} {i j : Nat} (hi : i < l.length) (hj : j < l[i].rs.length) (h1 : ∀ b ∈ l.take i, ∀ r ∈ b.rs, r.time < t) (h2 : ∀ r ∈ l[i].rs.take j, r.time < t) (h3 : t ≤ l[i].rs[j].time) : sinceL l t = some l[i].rs[j] := by
  have e : l = l.take i ++ l[i] :: l.drop (i + 1) := by rw [List.getElem_cons_drop, List.take_append_drop]
  have e2 : l[i].rs = l[i].rs.take j ++ l[i].rs[j] :: l[i].rs.drop (j + 1) := by rw [List.getElem_cons_drop, List.take_append_drop]
  have n1 : ((l.take i).flatMap Bt.rs).find? (fun r => decide (t ≤ r.time)) = none := since_none h1
  have n2 : (l[i].rs.take j).find? (fun r => decide (t ≤ r.time)) = none := by
    rw [List.find?_eq_none]
    intro r hr
    have := h2 r hr
    simp
    omega
  unfold sinceL
  rw [show l.flatMap Bt.rs = (l.take i).flatMap Bt.rs ++ (l[i].rs ++ (l.drop (i + 1)).flatMap Bt.rs) by
    conv => lhs; rw [e]
    rw [List.flatMap_append, List.flatMap_cons]]
  rw [List.find?_append, n1, Option.none_or, List.find?_append]
  conv => lhs; arg 1; rw [e2]
  rw [List.find?_append, n2, Option.none_or, List.find?_cons_of_pos (by simpa using h3)]
  rfl
/-- Read at a batch's own offset is that batch. -/
theorem readL_one {n : Int} {l : List Bt} (hok : ∀ b ∈ l, b.Ok) (hup : rising n l) {k : Nat} (hk : k < l.length) : readL l l[k].base 0 = [l[k]] := by
  have h1 : l.dropWhile (fun b => decide (b.en ≤ l[k].base)) = l.drop k :=
    drop_search (Nat.le_of_lt hk) (fun i hi hik => rising_lt hok hup hk hik) (fun _ => (hok _ (List.getElem_mem hk)).nums.lt)
  unfold readL
  rw [h1, List.drop_eq_getElem_cons hk]
  unfold readGo
  rw [if_neg (fun h => by cases h.1)]
  congr 1
  have h2 := (hok _ (List.getElem_mem hk)).nums
  cases hd : l.drop (k + 1) with
  | nil => rfl
  | cons b r =>
    unfold readGo
    rw [if_pos]
    refine ⟨rfl, ?_⟩
    have h3 := h2.some
    have h4 := h2.len
    unfold wrap64
    omega

set_option maxHeartbeats 0 in
set_option maxRecDepth 20000 in
theorem ssince_any {B : Nat → Prop} {w : World} {p s : Nat} {S : Nat → Prop} {v : Value} {d : Dk} {g : Sg} (h : SgS B w p s S v d g) (hg : g.name.length ≤ 1000) (l : List Bt) (hof : SgOf g l) (sf : Nat) (hf : d.find g.name = some ⟨batBs l, sf⟩) (t : Int) :
    Calls Tryz.prog 14 #[.pointer (some ⟨s, 0, none⟩), .int .i64 t] w fun e w' => e = .returned (sinceV (sinceL l t)) ∧ Chg Nil w w' := by
  have HL : Hid (l.length ≤ 99999) := by
    have h1 := batBs_len hof.ok
    have h2 := used_le hf
    have h3 := h.a.ok.fits
    have h4 := h.a.ok.room
    have h2 : (batBs l).length ≤ d.used := h2
    unfold Hid
    omega
  have hpl : g.pls.length = l.length := by rw [hof.pls, plsOf_length]
  have hgp : ∀ i (hi : i < l.length), g.pls[i]? = some ⟨(batBs (l.take i)).length, l[i].bytes.length, l[i].base, l[i].en, timeOf l[i].rs⟩ := fun i hi => by
    rw [hof.pls, plsOf_get 0 l i hi, Nat.zero_add]
  obtain ⟨a, c, hv, hle, _, hcell⟩ := h.m.o.val
  have HRD := Lib.hid (fun (w' : World) (hw : Chg Nil w w') (frm : Int) => sread_any (h.nil hw) hg l hof sf hf frm 0)
  have c3 := h.m.c.cell (j := 3) rfl
  have HOF := Lib.hid hof
  have HPL := Lib.hid hpl
  have HGP := Lib.hid hgp
  have HCELL := Lib.hid hcell
  subst hv
  rw [hpl] at c3
  obtain ⟨R, hR⟩ : ∃ R, sinceL l t = R := ⟨_, rfl⟩
  rw [hR]
  have HR := Lib.hid hR
  have HNL : Hid (l.length ≤ 99999) := HL
  have hnn : l.length ≤ 99999 := HL.out
  clear h hof hpl hgp hcell hle hf hg hR
  go_enter Tryz.func14, Tryz.ntmps14
  go_wp2_with fail
  clear c3
  go_loopw [17] (fun iv wr => ∃ (wq : World) (i : Nat), wq = wr ∧ i ≤ l.length ∧ iv = .int .i64 i ∧ Hid (∀ b ∈ l.take i, ∀ r ∈ b.rs, r.time < t) ∧ Chg Nil w wr) (fun iv _ => l.length - (RowKit.intOf iv).toNat)
  case atStart => exact ⟨_, 0, rfl, by omega, rfl, fun b hb => (by simp at hb), Chg.refl _ _⟩
  case round =>
    obtain ⟨wr, i, rfl, hi, rfl, hno, hc⟩ := hrel
    have HC := Lib.hid hc
    have HNO : Hid _ := hno
    clear hc hno
    by_cases hil : i < l.length
    · have hii : (i : Int) < (l.length : Int) := by omega
      obtain ⟨bt, hbt⟩ : ∃ bt : Bt, l[i] = bt := ⟨_, rfl⟩
      obtain ⟨qt, hqt⟩ : ∃ qt, timeOf bt.rs = qt := ⟨_, rfl⟩
      obtain ⟨qs, hqs⟩ : ∃ qs, bt.bytes.length = qs := ⟨_, rfl⟩
      obtain ⟨qa, hqa⟩ : ∃ qa, (batBs (l.take i)).length = qa := ⟨_, rfl⟩
      obtain ⟨g2, rfl, hz⟩ := HCELL.out i (by have := HPL.out; omega)
      have hgq : g.pls[i]'(by have := HPL.out; omega) = ⟨qa, qs, bt.base, bt.en, qt⟩ := by
        have h2 := HGP.out i hil
        rw [List.getElem?_eq_getElem (by have := HPL.out; omega)] at h2
        rw [Option.some.inj h2, hbt, hqa, hqs, hqt]
      rw [hgq] at hz
      have z0 := HC.out.cell (hz 0 _ rfl) (fun h => h)
      have z1 := HC.out.cell (hz 1 _ rfl) (fun h => h)
      have z2 := HC.out.cell (hz 2 _ rfl) (fun h => h)
      have z3 := HC.out.cell (hz 3 _ rfl) (fun h => h)
      have z4 := HC.out.cell (hz 4 _ rfl) (fun h => h)
      rw [Nat.add_zero] at z0
      have HBT := Lib.hid hbt
      have HQT := Lib.hid hqt
      have HNX : Hid ((∀ r ∈ bt.rs, r.time < t) → ∀ b ∈ l.take (i + 1), ∀ r ∈ b.rs, r.time < t) := by
        intro h b hb r hr
        rw [List.take_succ_eq_append_getElem hil] at hb
        rcases List.mem_append.1 hb with hb | hb
        · exact HNO.out b hb r hr
        · rw [List.mem_singleton.1 hb, hbt] at hr
          exact h r hr
      have HONE : Hid (readL l bt.base 0 = [bt]) := by rw [← hbt]; exact readL_one HOF.out.ok HOF.out.up hil
      have HFND : Hid (∀ j (hj : j < bt.rs.length), (∀ r ∈ bt.rs.take j, r.time < t) → t ≤ bt.rs[j].time → R = some bt.rs[j]) := by
        intro j hj h2 h3
        subst hbt
        rw [← HR.out]
        exact since_found hil hj HNO.out h2 h3
      have HFEW : Hid (bt.rs.length ≤ 50) := by rw [← hbt]; exact (HOF.out.ok _ (List.getElem_mem hil)).nums.few
      have HIL := Lib.hid hil
      clear hz hgq hqa hqs hqt hbt
      have hal := (Chg.refl Nil wr).alloc (.cells #[.int .i64 (qa : Nat), .int .i64 (qs : Nat), .int .i64 bt.base, .int .i64 bt.en, .int .i64 qt] 94)
      have hbx := Box.new wr [.int .i64 (qa : Nat), .int .i64 (qs : Nat), .int .i64 bt.base, .int .i64 bt.en, .int .i64 qt] 94
      go_upto_region 4 with fail
      clear z0 z1 z2 z3 z4
      have hbx : Box (wr.alloc (.cells #[.int .i64 (qa : Nat), .int .i64 (qs : Nat), .int .i64 bt.base, .int .i64 bt.en, .int .i64 qt] 94)) wr.heap.size [.int .i64 (qa : Nat), .int .i64 (qs : Nat), .int .i64 bt.base, .int .i64 bt.en, .int .i64 qt] 94 := hbx
      have HC2 := Lib.hid (HC.out.trans hal (fun _ h => h.elim))
      clear hal
      generalize wr.alloc (.cells #[.int .i64 (qa : Nat), .int .i64 (qs : Nat), .int .i64 bt.base, .int .i64 bt.en, .int .i64 qt] 94) = w2 at *
      generalize wr.heap.size = gq at *
      have y4 := hbx.cell (j := 4) rfl
      have y2 := hbx.cell (j := 2) rfl
      clear hbx
      by_cases hqt : qt < t
      · have HA := Lib.hid (HNX.out (fun r hr => by have h1 := timeOf_ge bt.rs r hr; have h2 := HQT.out; omega))
        go_wp2_with fail
        go_roundw
        case rel => exact ⟨_, i + 1, rfl, HIL.out, by go_num, HA.out, HC2.out⟩
        case measure => exact meas_two HIL.out
      · go_wp2_with fail
        refine (HRD.out w2 HC2.out bt.base).mono ?_
        rintro e w3 ⟨u, rfl, hrd, hc3⟩
        rw [HONE.out] at hrd
        obtain ⟨ms, hown, hmap, hms, hnew⟩ := hrd
        obtain ⟨m, rfl⟩ : ∃ m, ms = [m] := by
          rcases ms with _ | ⟨m, _ | ⟨m2, r⟩⟩
          · simp at hmap
          · exact ⟨m, rfl⟩
          · simp at hmap
        obtain ⟨mb, ra, rc⟩ := m
        obtain rfl : mb = bt := by simpa using hmap
        have hrs := (hms _ (List.mem_singleton.2 rfl)).1
        have HC3 := Lib.hid (HC2.out.trans hc3 (fun _ h => h.elim))
        obtain ⟨ua, uc, hu, hle, hcl⟩ := hown.val
        obtain ⟨ux, hua, hux⟩ := hcl 0 (by simp)
        have u2 := hux 2 _ rfl
        subst hua
        subst hu
        have u2 : w3.cell? ⟨ux, 2, none⟩ = some (.slice ra mb.rs.length rc) := u2
        have HRS := Lib.hid hrs
        have h1u : ([⟨mb, ra, rc⟩] : List Bm).length = 1 := rfl
        rw [h1u]
        clear hown hmap hms hnew hrs hcl hux hle y2 y4 h1u hc3
        generalize hrr : mb.rs = rs at *
        have hfw : rs.length ≤ 50 := HFEW.out
        go_wp2_with fail
        clear u2
        go_loopw [39] (fun jv wr => ∃ (wq : World) (j : Nat), wq = wr ∧ j ≤ rs.length ∧ jv = .int .i64 j ∧ Hid (∀ r ∈ rs.take j, r.time < t) ∧ Chg Nil w3 wr) (fun jv _ => rs.length - (RowKit.intOf jv).toNat)
        case atStart => exact ⟨_, 0, rfl, by omega, rfl, fun r hr => (by simp at hr), Chg.refl _ _⟩
        case round =>
          obtain ⟨w4, j, rfl, hj, rfl, hnj, hc4⟩ := hrel
          have HC4 := Lib.hid hc4
          have HNJ : Hid _ := hnj
          clear hc4 hnj
          by_cases hjl : j < rs.length
          · have hjj : (j : Int) < (rs.length : Int) := by omega
            obtain ⟨rb, off, hra, hcell⟩ := HRS.out j hjl
            subst hra
            obtain ⟨q, hq⟩ : ∃ q, q = rs[j] := ⟨_, rfl⟩
            rw [← hq] at hcell
            have HF1 : Hid ((∀ r ∈ rs.take j, r.time < t) → t ≤ q.time → R = some q) := by rw [hq]; exact HFND.out j hjl
            have HN1 : Hid (q.time < t → ∀ r ∈ rs.take (j + 1), r.time < t) := by
              intro h r hr
              rw [List.take_succ_eq_append_getElem hjl] at hr
              rcases List.mem_append.1 hr with hr | hr
              · exact HNJ.out r hr
              · rw [List.mem_singleton.1 hr, ← hq]; exact h
            have HJL := Lib.hid hjl
            clear hq
            obtain ⟨qo, qt2, qk, qkey, qg, qv⟩ := q
            have z0 := HC4.out.cell (hcell 0 _ rfl) (fun h => h)
            have z1 := HC4.out.cell (hcell 1 _ rfl) (fun h => h)
            have z2 := HC4.out.cell (hcell 2 _ rfl) (fun h => h)
            have z3 := HC4.out.cell (hcell 3 _ rfl) (fun h => h)
            have z4 := HC4.out.cell (hcell 4 _ rfl) (fun h => h)
            have z5 := HC4.out.cell (hcell 5 _ rfl) (fun h => h)
            rw [Nat.add_zero] at z0
            clear hcell
            have hbr := Box.new w4 [.int .i64 qo, .int .i64 qt2, .bool qk, .string qkey, .bool qg, .string qv] 55
            have halr := (Chg.refl Nil w4).alloc (.cells #[.int .i64 qo, .int .i64 qt2, .bool qk, .string qkey, .bool qg, .string qv] 55)
            go_upto_region 11 with fail
            clear z0 z1 z2 z3 z4 z5
            have hbr : Box (w4.alloc (.cells #[.int .i64 qo, .int .i64 qt2, .bool qk, .string qkey, .bool qg, .string qv] 55)) w4.heap.size [.int .i64 qo, .int .i64 qt2, .bool qk, .string qkey, .bool qg, .string qv] 55 := hbr
            have HC5 := Lib.hid (HC4.out.trans halr (fun _ h => h.elim))
            generalize w4.alloc (.cells #[.int .i64 qo, .int .i64 qt2, .bool qk, .string qkey, .bool qg, .string qv] 55) = w5 at *
            generalize w4.heap.size = g5 at *
            have y0 := hbr.cell (j := 0) rfl
            have y1 := hbr.cell (j := 1) rfl
            clear hbr halr
            by_cases hqt2 : t ≤ qt2
            · have HRR := Lib.hid (HF1.out HNJ.out hqt2)
              go_wp2_with fail
              go_ret2
              rw [HRR.out]
              exact ⟨rfl, HC3.out.trans HC5.out (fun _ h => h.elim)⟩
            · have HA := Lib.hid (HN1.out (by show qt2 < t; omega))
              go_wp2_with fail
              go_roundw
              case rel => exact ⟨_, j + 1, rfl, HJL.out, by go_num, HA.out, HC5.out⟩
              case measure => exact meas_two HJL.out
          · have hjj : ¬ (j : Int) < (rs.length : Int) := by omega
            have HA : Hid (∀ b ∈ l.take (i + 1), ∀ r ∈ b.rs, r.time < t) := by
              refine HNX.out (fun r hr => HNJ.out r ?_)
              rw [show j = rs.length by omega, List.take_length]
              exact hr
            go_wp2_with fail
            go_roundw
            case rel => exact ⟨_, i + 1, rfl, HIL.out, by go_num, HA.out, HC3.out.trans HC4.out (fun _ h => h.elim)⟩
            case measure => exact meas_two HIL.out
    · have hii : ¬ (i : Int) < (l.length : Int) := by omega
      have HNONE : Hid (R = none) := by
        rw [show i = l.length by omega, List.take_length] at HNO
        unfold Hid
        rw [← HR.out]
        exact since_none HNO.out
      go_wp2_with fail
      go_ret2
      rw [HNONE.out]
      exact ⟨rfl, HC.out⟩
end Go.Proofs.YtmaomebnigcgeaaGreatDoor
