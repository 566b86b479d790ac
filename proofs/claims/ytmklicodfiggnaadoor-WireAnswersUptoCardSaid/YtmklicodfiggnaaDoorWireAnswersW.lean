/-
  The walk of WireAnswers.
-/
import Derived.Test.YtmklicodfiggnaaDoorFramedW
import Derived.Test.YtmklicodfiggnaaDoorPickW
import Derived.Test.YtmklicodfiggnaaDoorTellW
import Derived.Test.YtmklicodfiggnaaDoorToldW
import Derived.Test.YtmklicodfiggnaaDoorBackAL
import Derived.Test.YtmklicodfiggnaaDoorBareW
set_option linter.unusedSimpArgs false
set_option linter.unusedVariables false
namespace Go.Proofs.YtmklicodfiggnaaDoor
open Go.RowKit

set_option maxHeartbeats 4000000 in
set_option maxRecDepth 100000 in
theorem wireAnswers_in (kind corr err offset start fin : Int) (found : Bool) (recs : List Rec) (a : Option Addr) (cap : Nat) (tops : List Tp) (b : Option Addr) (bcap : Nat) (ma : Option Addr) (more : List UInt8) (mcap : Nat) (cut : Int) (w : World) (hgl : Handle w) (hl : recs.length + tops.length ≤ 100) (hml : more.length ≤ 2000) (hsz : ∀ r ∈ recs, r.key.size ≤ 1048576 ∧ r.value.size ≤ 1048576) (hr : RecsAt w a recs) (hst : ∀ t ∈ tops, t.name.size ≤ 1048576) (htp : TopsAt w b tops) (hmb : BytesAt w ma more) :
    Calls Tryd.prog 8 #[.agg #[.int .i64 kind, .int .i64 corr, .int .i64 err, .int .i64 offset, .int .i64 start, .int .i64 fin, .bool found, .slice a recs.length cap, .slice b tops.length bcap], .slice ma more.length mcap, .int .i64 cut] w fun e w' => e = .returned (.bool true) ∧ Chg Nil w w' := by
  have hx := Box.new w [.int .i64 kind, .int .i64 corr, .int .i64 err, .int .i64 offset, .int .i64 start, .int .i64 fin, .bool found, .slice a recs.length cap, .slice b tops.length bcap] 37
  have hal0 := (Chg.refl Nil w).alloc (.cells #[.int .i64 kind, .int .i64 corr, .int .i64 err, .int .i64 offset, .int .i64 start, .int .i64 fin, .bool found, .slice a recs.length cap, .slice b tops.length bcap] 37)
  have hr0 := hr.chg hal0 (fun _ _ h => h)
  have ht0 := TopsAt.chg hal0 htp (fun _ _ h => h)
  have HM := Lib.hid (hal0.bytesAt hmb (fun _ _ h => h))
  have hg0 := hgl.chg hal0 (fun h => h)
  have HWA := Lib.hid (wtell_any kind corr err offset start fin found recs a cap tops b bcap _ (by omega) hsz (by omega) hst hr0 ht0)
  clear hr hr0 hsz htp ht0 hst hgl hmb
  have x0 := hx.cell (j := 0) rfl
  have x1 := hx.cell (j := 1) rfl
  have x2 := hx.cell (j := 2) rfl
  have x3 := hx.cell (j := 3) rfl
  have x4 := hx.cell (j := 4) rfl
  have x5 := hx.cell (j := 5) rfl
  have x6 := hx.cell (j := 6) rfl
  have x7 := hx.cell (j := 7) rfl
  have x8 := hx.cell (j := 8) rfl
  go_enter Tryd.func8, Tryd.ntmps8
  go_wp2_with fail
  generalize w.alloc (.cells #[.int .i64 kind, .int .i64 corr, .int .i64 err, .int .i64 offset, .int .i64 start, .int .i64 fin, .bool found, .slice a recs.length cap, .slice b tops.length bcap] 37) = w0 at *
  refine HWA.out.mono ?_
  rintro e w1 ⟨hc1, hpost⟩
  have hg1 := hg0.chg hc1 (fun h => h)
  have hch1 := hal0.trans hc1 (fun _ h => .inl h)
  clear x0 x1 x2 x3 x4 x5 x6 x7 x8 hx hal0 HWA hg0
  rcases hpost with ⟨hbad, rfl⟩ | ⟨hgood, v, rfl, hown, hvb⟩
  · have he : errV 26 (tellErr ⟨kind, corr, err, offset, start, fin, found, recs, tops⟩) = .iface 26 (.int .i64 ((tellErr ⟨kind, corr, err, offset, start, fin, found, recs, tops⟩ : Nat) : Int)) := by unfold errV; rw [if_neg hbad]
    rw [he]
    clear he hbad
    generalize tellErr ⟨kind, corr, err, offset, start, fin, found, recs, tops⟩ = ce at *
    go_wp2_with fail
    refine (framed_any w1).mono ?_
    rintro e w4 ⟨rfl, hc4⟩
    go_wp2_with fail
    refine (framed_any w4).mono ?_
    rintro e w5 ⟨rfl, hc5⟩
    go_wp2_with fail
    go_ret
    exact ⟨rfl, (hch1.trans hc4 (fun _ h => .inl h)).trans hc5 (fun _ h => .inl h)⟩
  · have HBA := Lib.hid (tell_back_all ⟨kind, corr, err, offset, start, fin, found, recs, tops⟩ hgood more)
    obtain ⟨q1, q2, q3, q4, q5, q6, q7, q9, q8, hlo, hhi⟩ := HBA.out
    have HQ1 := Lib.hid q1
    have HQ2 := Lib.hid q2
    have HQ3 := Lib.hid q3
    have HQ4 := Lib.hid q4
    have HQ5 := Lib.hid q5
    have HQ6 := Lib.hid q6
    have HQ7 := Lib.hid q7
    have HQ8 := Lib.hid q8
    have HQ9 := Lib.hid q9
    have e0 : errV 26 0 = .nilIface := rfl
    rw [e0]
    clear q1 q2 q3 q4 q5 q6 q7 q8 q9 HBA hgood
    have HM1 := Lib.hid (hc1.bytesAt HM.out (fun _ _ h => h))
    clear HM
    generalize tellB ⟨kind, corr, err, offset, start, fin, found, recs, tops⟩ = L at *
    go_wp2_with fail
    refine (framed_any w1).mono ?_
    rintro e w4 ⟨rfl, hc4⟩
    have hch5 := hch1.trans hc4 (fun _ h => .inl h)
    have hown4 := hown.chg hc4 (fun _ _ h => h)
    obtain ⟨g, cap5, rfl, hcap5⟩ := hown4.slice (by intro h; subst h; simp at hlo)
    obtain ⟨a6, cap6, hv6, hby6, hcap6, hm6⟩ := hown4.room
    simp only [Value.slice.injEq] at hv6
    obtain ⟨rfl, _, rfl⟩ := hv6
    have HB4 := Lib.hid hby6
    have HM4 := Lib.hid (hc4.bytesAt HM1.out (fun _ _ h => h))
    have hgl4 := hg1.chg hc4 (fun h => h)
    clear hown4 hown hvb hch1 hby6 HM1 hg1 hc4
    have hown0 : OwnB 5 (w4.alloc (.cells #[] 5)) (.slice (some ⟨w4.heap.size, 0, none⟩) 0 0) [] := OwnB.made (l := []) (heap_alloc_new w4 _) rfl (Nat.le_refl _) (Nat.zero_le _) rfl
    have hal := (Chg.refl Nil w4).alloc (.cells #[] 5)
    have HO0 := Lib.hid hown0
    have HB0 := Lib.hid (hal.bytesAt HB4.out (fun _ _ h => h))
    have hq0 : ([] : List UInt8).length + L.length ≤ 140737488355328 := by simp; omega
    have hq1 : L.length + more.length ≤ 140737488355328 := by omega
    have HR0 := Lib.hid hq0
    have HR1 := Lib.hid hq1
    clear hown0 hq0 hq1
    have HMA := Lib.hid (hal.bytesAt HM4.out (fun _ _ h => h))
    go_wp2_with (first
      | (at_builtin; refine wpList_append_bytes rfl (.tmp 41) (.tmp 42) 25 25 rfl bytesT _ Tryd.underlying25 (by intro _; simp) _ _ rfl HO0.out _ L rfl (Source.bytes HB0.out) HR0.out ?_; intro v5 w5 hown5 hg5 _; have hcN := (hg5.full rfl).1; have HO5 := Lib.hid hown5; have HM5 := Lib.hid (hcN.bytesAt HMA.out (fun _ _ h => h)); clear hown5)
      | (at_builtin; refine wpList_append_bytes rfl (.tmp 43) (.tmp 44) 25 25 rfl bytesT _ Tryd.underlying25 (by intro _; simp) _ _ rfl HO5.out _ more rfl (Source.bytes HM5.out) HR1.out ?_; intro v6 w6 hown6 hg6 _; have HO6 := Lib.hid hown6; clear hown6))
    have hv5 : ∀ k, v5.ownBlock = some k → w4.heap.size ≤ k := by
      intro k hk
      rcases hg5.own k hk with h | h
      · have : w4.heap.size = k := Option.some.inj h
        omega
      · simp at h; omega
    have hcN : Chg Nil w4 w6 := (hal.trans (hg5.full rfl).1 (fun _ h => .inl h)).trans hg6.chg (fun i hi => .inr (hv5 i hi))
    obtain ⟨a7, cap7, rfl, hby7, hcap7, hm7⟩ := HO6.out.room
    simp only [List.nil_append] at hby7 hcap7
    have hch6 := hch5.trans hcN (fun _ h => .inl h)
    have HB6 := Lib.hid (hcN.bytesAt HB4.out (fun _ _ h => h))
    have hgl6 := hgl4.chg hcN (fun h => h)
    have HDK := Lib.hid (wtold_any a7 (L ++ more) cap7 w6 hcap7 hm7 hby7)
    clear hg5 hg6 hv5 hal HO0 HB0 HO5 HM5 HO6 HB4 hgl4 hch5 hby7 HMA HM4 hcN HR0 HR1
    simp only [List.nil_append]
    generalize (chainA (bodyQ (L ++ more))).1 = P at *
    refine HDK.out.mono ?_
    rintro e w8 ⟨hc8, ⟨hbad, _⟩ | ⟨_, u, su, rfl, hou, hos, _⟩⟩
    · exact absurd HQ1.out hbad
    rw [HQ2.out, e0]
    obtain ⟨f0, f1, f2, f3, f4, f5, f6, ys, ts⟩ := P
    simp only [arCells] at HQ5 HQ6 HQ7 HQ9 hou hos ⊢
    obtain ⟨ya, yc, rfl, hrecu, huc⟩ := hou.recs
    obtain ⟨ta, tc, rfl, htopu, htc⟩ := hos.tops
    have hch8 := hch6.trans hc8 (fun _ h => .inl h)
    have hgl8 := hgl6.chg hc8 (fun h => h)
    have hal := (Chg.refl Nil w8).alloc (.cells #[.int .i64 f0, .int .i64 f1, .int .i64 f2, .int .i64 f3, .int .i64 f4, .int .i64 f5, .bool f6, .slice ya ys.length yc, .slice ta ts.length tc] 37)
    have hy8 := Box.new w8 [.int .i64 f0, .int .i64 f1, .int .i64 f2, .int .i64 f3, .int .i64 f4, .int .i64 f5, .bool f6, .slice ya ys.length yc, .slice ta ts.length tc] 37
    have hch9 := hch8.trans hal (fun _ h => .inl h)
    have hgl9 := hgl8.chg hal (fun h => h)
    have HRY9 := Lib.hid (hrecu.chg hal (fun _ _ h => h))
    have HTY9 := Lib.hid (TopsAt.chg hal htopu (fun _ _ h => h))
    have HB9 := Lib.hid (hal.bytesAt (hc8.bytesAt HB6.out (fun _ _ h => h)) (fun _ _ h => h))
    have HWB := Lib.hid (wtell_any f0 f1 f2 f3 f4 f5 f6 ys ya yc ts ta tc _ HQ5.out HQ6.out HQ7.out HQ9.out HRY9.out HTY9.out)
    clear hou hos hrecu htopu hch8 hgl8 hch6 hgl6 HB6 hc8 HDK hal HQ1 HQ2 HQ5 HQ6 HQ7 HQ9 HRY9 HTY9
    have y0 := hy8.cell (j := 0) rfl
    have y1 := hy8.cell (j := 1) rfl
    have y2 := hy8.cell (j := 2) rfl
    have y3 := hy8.cell (j := 3) rfl
    have y4 := hy8.cell (j := 4) rfl
    have y5 := hy8.cell (j := 5) rfl
    have y6 := hy8.cell (j := 6) rfl
    have y7 := hy8.cell (j := 7) rfl
    have y8 := hy8.cell (j := 8) rfl
    go_wp2_with fail
    generalize (w8.alloc (.cells #[.int .i64 f0, .int .i64 f1, .int .i64 f2, .int .i64 f3, .int .i64 f4, .int .i64 f5, .bool f6, .slice ya ys.length yc, .slice ta ts.length tc] 37)) = w9 at *
    refine HWB.out.mono ?_
    rintro e w10 ⟨hc10, ⟨hbad, _⟩ | ⟨_, c, rfl, hoc, _⟩⟩
    · exact absurd HQ3.out hbad
    rw [HQ4.out] at hoc
    obtain ⟨ca, cc, rfl, hcby, _⟩ := hoc.val
    have HCB := Lib.hid hcby
    have hch10 := hch9.trans hc10 (fun _ h => .inl h)
    have hgl10 := hgl9.chg hc10 (fun h => h)
    have HB10 := Lib.hid (hc10.bytesAt HB9.out (fun _ _ h => h))
    rw [e0]
    clear y0 y1 y2 y3 y4 y5 y6 y7 y8 hy8 HWB hoc hcby hch9 hgl9 HB9 hc10 HQ3 HQ4
    go_wp2_with fail
    refine (pick_any cut L.length w10 (by omega) (by omega)).mono ?_
    rintro e w11 ⟨rfl, rfl⟩
    have hk := pickN_lt (a := cut) (n := L.length) (by omega)
    have HLS := Lib.hid (HQ8.out _ hk)
    generalize pickN cut L.length = k at *
    have hkl : (L.take k).length = k := by rw [List.length_take]; omega
    have hdec := wtold_any (some ⟨g, 0, none⟩) (L.take k) cap5 w10 (by omega) hm6 (HB10.out.take k)
    rw [hkl] at hdec
    have HDEC := Lib.hid hdec
    clear hdec hkl HQ8
    have hkc : (k : Int) ≤ (cap5 : Int) := by omega
    go_wp2_with fail
    refine HDEC.out.mono ?_
    rintro e w12 ⟨hc12, ⟨_, he⟩ | ⟨hgood, _⟩⟩
    · rw [HLS.out] at he
      replace he : e = .returned (.tuple #[.agg #[.int .i64 0, .int .i64 0, .int .i64 0, .int .i64 0, .int .i64 0, .int .i64 0, .bool false, .slice none 0 0, .slice none 0 0], .int .i64 0, .iface 26 (.int .i64 12)]) := he
      subst he
      have hal := (Chg.refl Nil w12).alloc (.cells #[.int .i64 0, .int .i64 0, .int .i64 0, .int .i64 0, .int .i64 0, .int .i64 0, .bool false, .slice none 0 0, .slice none 0 0] 37)
      have hcA := hc12.trans hal (fun _ h => .inl h)
      have hgl13 := hgl10.chg hcA (fun h => h)
      have hch13 := hch10.trans hcA (fun _ h => .inl h)
      have hcv := conv_bytes (dst := 9) Tryd.underlying25 Tryd.underlying5 Tryd.underlying9 (hcA.bytesAt HCB.out (fun _ _ h => h)) cc
      have hcu := conv_bytes (dst := 9) Tryd.underlying25 Tryd.underlying5 Tryd.underlying9 (hcA.bytesAt HB10.out (fun _ _ h => h)) cap5
      clear hgl10 hch10 hal hcA HDEC HLS HB10 HCB hc12
      go_wp2_with fail
      refine (tell_errno 12 _ hgl13).mono ?_
      rintro e w14 ⟨rfl, hc14⟩
      go_wp2_with fail
      go_ret
      exact ⟨rfl, hch13.trans hc14 (fun _ h => .inl h)⟩
    · rw [HLS.out] at hgood; cases hgood

set_option maxHeartbeats 1000000 in
set_option maxRecDepth 100000 in
theorem wireAnswers_any (kind corr err offset start fin : Int) (found : Bool) (recs : List Rec) (a : Option Addr) (cap : Nat) (tops : List Tp) (b : Option Addr) (bcap : Nat) (ma : Option Addr) (more : List UInt8) (mcap : Nat) (cut : Int) (w : World) (hgl : Handle w) (hl : recs.length ≤ 1048576) (hsz : ∀ r ∈ recs, r.key.size ≤ 1048576 ∧ r.value.size ≤ 1048576) (hr : RecsAt w a recs) (hlt : tops.length ≤ 1048576) (hst : ∀ t ∈ tops, t.name.size ≤ 1048576) (htp : TopsAt w b tops) (hml : more.length ≤ mcap) (hmc : mcap ≤ maxLen) (hmb : BytesAt w ma more) :
    Calls Tryd.prog 8 #[.agg #[.int .i64 kind, .int .i64 corr, .int .i64 err, .int .i64 offset, .int .i64 start, .int .i64 fin, .bool found, .slice a recs.length cap, .slice b tops.length bcap], .slice ma more.length mcap, .int .i64 cut] w fun e w' => e = .returned (.bool true) ∧ Chg Nil w w' := by
  unfold maxLen at hmc
  have hx := Box.new w [.int .i64 kind, .int .i64 corr, .int .i64 err, .int .i64 offset, .int .i64 start, .int .i64 fin, .bool found, .slice a recs.length cap, .slice b tops.length bcap] 37
  have hal0 := (Chg.refl Nil w).alloc (.cells #[.int .i64 kind, .int .i64 corr, .int .i64 err, .int .i64 offset, .int .i64 start, .int .i64 fin, .bool found, .slice a recs.length cap, .slice b tops.length bcap] 37)
  have x7 := hx.cell (j := 7) rfl
  have x8 := hx.cell (j := 8) rfl
  by_cases h1 : 100 < recs.length + tops.length
  · have hd : (100 : Int) < (recs.length : Int) + (tops.length : Int) := by omega
    go_enter Tryd.func8, Tryd.ntmps8
    go_wp2_with fail
    go_ret
    exact ⟨rfl, hal0⟩
  · have hd : ¬ (100 : Int) < (recs.length : Int) + (tops.length : Int) := by omega
    by_cases h3 : 2000 < more.length
    · go_enter Tryd.func8, Tryd.ntmps8
      go_wp2_with fail
      go_ret
      exact ⟨rfl, hal0⟩
    · exact wireAnswers_in kind corr err offset start fin found recs a cap tops b bcap ma more mcap cut w hgl (by omega) (by omega) hsz hr hst htp hmb
end Go.Proofs.YtmklicodfiggnaaDoor
