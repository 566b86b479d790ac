/-
  The walk of WireTolds.
-/
import Derived.Test.YtmklicodfiggnaaDoorRefToldW
import Derived.Test.YtmklicodfiggnaaDoorSameAW
import Derived.Test.YtmklicodfiggnaaDoorBareW
set_option linter.unusedSimpArgs false
namespace Go.Proofs.YtmklicodfiggnaaDoor
open Go.RowKit

set_option maxHeartbeats 4000000 in
set_option maxRecDepth 100000 in
theorem wireTolds_any (a : Option Addr) (l : List UInt8) (cap : Nat) (w : World) (hg : Handle w) (hcap : l.length ≤ cap) (hl : cap ≤ maxLen) (hb : BytesAt w a l) :
    Calls Tryd.prog 6 #[.slice a l.length cap] w fun e w' => e = .returned (.bool true) ∧ Chg Nil w w' := by
  have HRK := Lib.hid (mtold_any a l cap w hcap hl hb)
  have HDK := Lib.hid (fun w' h => wtold_any a l cap w' hcap hl h)
  have HAL := Lib.hid (told_alike l)
  have HCP := Lib.hid (@told_parse l)
  have HBY := Lib.hid hb
  have HB := Lib.hid (lawBare_any (toldErr l))
  clear hb
  unfold maxLen at hl
  by_cases h80 : 15000 < l.length
  · have hd : (15000 : Int) < (l.length : Int) := by omega
    go_enter Tryd.func6, Tryd.ntmps6
    go_wp2_with fail
    go_ret
    exact ⟨rfl, Chg.refl _ _⟩
  · have hd : ¬ (15000 : Int) < (l.length : Int) := by omega
    go_enter Tryd.func6, Tryd.ntmps6
    go_wp2_with fail
    refine HRK.out.mono ?_
    rintro e w1 ⟨hc1, hr⟩
    rcases hr with ⟨hbad, rfl⟩ | ⟨hgood, v, tv, rfl, hown, hot, hfr, hft⟩
    · have hx1 := Box.new w1 [.int .i64 0, .int .i64 0, .int .i64 0, .int .i64 0, .int .i64 0, .int .i64 0, .bool false, .slice none 0 0, .slice none 0 0] 37
      have hcx := (Chg.refl Nil w1).alloc (.cells #[.int .i64 0, .int .i64 0, .int .i64 0, .int .i64 0, .int .i64 0, .int .i64 0, .bool false, .slice none 0 0, .slice none 0 0] 37)
      have hby1 := (hc1.trans hcx (fun _ h => .inl h)).bytesAt HBY.out (fun _ _ h => h)
      have HBY1 := Lib.hid hby1
      rw [HAL.out.1] at hbad ⊢
      have HBD := Lib.hid hbad
      clear hby1 hbad HRK HCP
      go_wp2_with fail
      refine (HDK.out _ HBY1.out).mono ?_
      rintro e w2 ⟨hc2, ⟨_, rfl⟩ | ⟨hgd, _⟩⟩
      rotate_left
      · exact absurd hgd HBD.out
      have hx2 := hx1.chg hc2 (fun h => h)
      have hy2 := Box.new w2 [.int .i64 0, .int .i64 0, .int .i64 0, .int .i64 0, .int .i64 0, .int .i64 0, .bool false, .slice none 0 0, .slice none 0 0] 37
      have hcy := (Chg.refl Nil w2).alloc (.cells #[.int .i64 0, .int .i64 0, .int .i64 0, .int .i64 0, .int .i64 0, .int .i64 0, .bool false, .slice none 0 0, .slice none 0 0] 37)
      have hx3 := hx2.chg hcy (fun h => h)
      have hch3 := ((hc1.trans hcx (fun _ h => .inl h)).trans hc2 (fun _ h => .inl h)).trans hcy (fun _ h => .inl h)
      have hg3 := hg.chg hch3 (fun h => h)
      generalize toldErr l = ce at *
      clear hx1 hcx HDK HAL HBY1 hx2 hcy hc1 hc2
      go_wp2_with fail
      refine (HB.out _ hg3).mono ?_
      rintro e w4 ⟨rfl, hc4⟩
      have hx4 := hx3.chg hc4 (fun h => h)
      have hy4 := hy2.chg hc4 (fun h => h)
      have hch4 := hch3.trans hc4 (fun _ h => .inl h)
      clear hx3 hy2 hch3 hc4
      have x0 := hx4.cell (j := 0) rfl
      have x1 := hx4.cell (j := 1) rfl
      have x2 := hx4.cell (j := 2) rfl
      have x3 := hx4.cell (j := 3) rfl
      have x4 := hx4.cell (j := 4) rfl
      have x5 := hx4.cell (j := 5) rfl
      have x6 := hx4.cell (j := 6) rfl
      have x7 := hx4.cell (j := 7) rfl
      have x8 := hx4.cell (j := 8) rfl
      have y0 := hy4.cell (j := 0) rfl
      have y1 := hy4.cell (j := 1) rfl
      have y2 := hy4.cell (j := 2) rfl
      have y3 := hy4.cell (j := 3) rfl
      have y4 := hy4.cell (j := 4) rfl
      have y5 := hy4.cell (j := 5) rfl
      have y6 := hy4.cell (j := 6) rfl
      have y7 := hy4.cell (j := 7) rfl
      have y8 := hy4.cell (j := 8) rfl
      have HSM := Lib.hid (sameA_any 0 0 0 0 0 0 false [] [] none none none none 0 0 0 0 w4 (by simp) (by simp) (fun i hi => by simp at hi) (fun i hi => by simp at hi) (fun i hi => by simp at hi) (fun i hi => by simp at hi))
      simp only [List.length_nil, Int.cast_ofNat_Int] at HSM
      go_wp2_with fail
      refine HSM.out.mono ?_
      rintro e w5 ⟨rfl, hc5⟩
      go_wp2_with fail
      go_ret
      exact ⟨rfl, hch4.trans hc5 (fun _ h => .inl h)⟩
    · have h0 : toldErr l = 0 := by rw [← HAL.out.1]; exact hgood
      have hP : (chainA (bodyQ l)).1 = (parseA tkText (bodyQ l)).1 := by rw [HCP.out h0, HAL.out.2 h0]
      rw [h0] at HB
      have HB0 : Hid (∀ w', Handle w' → Calls Tryd.prog 11 #[.nilIface, .int .i64 0] w' fun e w'' => e = .returned (.bool true) ∧ Chg Nil w' w'') := fun w' h => HB.out w' h
      have hrl := hown.le
      have HRL := Lib.hid hrl
      have htl := hot.le
      have HTL := Lib.hid htl
      have HDK2 : Hid (∀ w', BytesAt w' a l → Calls Tryd.prog 18 #[.slice a l.length cap] w' fun e w'' => Chg Nil w' w'' ∧ ∃ v u, e = .returned (.tuple #[.agg (arCells (parseA tkText (bodyQ l)).1 v u).toArray, .int .i64 ((fromB l + 4 : Nat) : Int), .nilIface]) ∧ OwnR 99 w'' v (parseA tkText (bodyQ l)).1.recs ∧ OwnT 74 w'' u (parseA tkText (bodyQ l)).1.tops) := by
        intro w' h
        refine (HDK.out w' h).mono ?_
        rintro e w2 ⟨hc2, ⟨hbd, _⟩ | ⟨_, u, su, rfl, hou, hos, _⟩⟩
        · exact absurd h0 hbd
        · rw [hP] at hou hos ⊢
          exact ⟨hc2, u, su, rfl, hou, hos⟩
      clear h0 HB hgood hrl htl HDK HAL HCP hP
      generalize (parseA tkText (bodyQ l)).1 = P at *
      generalize fromB l + 4 = n at *
      obtain ⟨f0, f1, f2, f3, f4, f5, f6, rs, ts⟩ := P
      simp only [arCells] at HDK2 hown hot HRL HTL ⊢
      obtain ⟨va, vc, rfl, hrec, hvc⟩ := hown.recs
      obtain ⟨ta, tc, rfl, htop, htc⟩ := hot.tops
      have hx1 := Box.new w1 [.int .i64 f0, .int .i64 f1, .int .i64 f2, .int .i64 f3, .int .i64 f4, .int .i64 f5, .bool f6, .slice va rs.length vc, .slice ta ts.length tc] 37
      have hcx := (Chg.refl Nil w1).alloc (.cells #[.int .i64 f0, .int .i64 f1, .int .i64 f2, .int .i64 f3, .int .i64 f4, .int .i64 f5, .bool f6, .slice va rs.length vc, .slice ta ts.length tc] 37)
      have hby1 := (hc1.trans hcx (fun _ h => .inl h)).bytesAt HBY.out (fun _ _ h => h)
      have HBY1 := Lib.hid hby1
      have hrec1 := hrec.chg hcx (fun _ _ h => h)
      have HRC1 := Lib.hid hrec1
      have HTC1 := Lib.hid (TopsAt.chg hcx htop (fun _ _ h => h))
      clear hby1 hown hot hrec hrec1 htop hfr hft HRK
      go_wp2_with fail
      refine (HDK2.out _ HBY1.out).mono ?_
      rintro e w2 ⟨hc2, u, su, rfl, hou, hos⟩
      obtain ⟨ua, uc, rfl, hrecu, huc⟩ := hou.recs
      obtain ⟨sa, sc, rfl, htopu, hsc⟩ := hos.tops
      have hx2 := hx1.chg hc2 (fun h => h)
      have hy2 := Box.new w2 [.int .i64 f0, .int .i64 f1, .int .i64 f2, .int .i64 f3, .int .i64 f4, .int .i64 f5, .bool f6, .slice ua rs.length uc, .slice sa ts.length sc] 37
      have hcy := (Chg.refl Nil w2).alloc (.cells #[.int .i64 f0, .int .i64 f1, .int .i64 f2, .int .i64 f3, .int .i64 f4, .int .i64 f5, .bool f6, .slice ua rs.length uc, .slice sa ts.length sc] 37)
      have hx3 := hx2.chg hcy (fun h => h)
      have hch3 := ((hc1.trans hcx (fun _ h => .inl h)).trans hc2 (fun _ h => .inl h)).trans hcy (fun _ h => .inl h)
      have hg3 := hg.chg hch3 (fun h => h)
      have HRV := Lib.hid ((HRC1.out.chg hc2 (fun _ _ h => h)).chg hcy (fun _ _ h => h))
      have HRU := Lib.hid (hrecu.chg hcy (fun _ _ h => h))
      have HTV := Lib.hid (TopsAt.chg hcy (TopsAt.chg hc2 HTC1.out (fun _ _ h => h)) (fun _ _ h => h))
      have HTU := Lib.hid (TopsAt.chg hcy htopu (fun _ _ h => h))
      clear hou hos hrecu htopu HDK2 hx1 hx2 hcx hcy hc1 hc2
      go_wp2_with fail
      refine (HB0.out _ hg3).mono ?_
      rintro e w4 ⟨rfl, hc4⟩
      have hx4 := hx3.chg hc4 (fun h => h)
      have hy4 := hy2.chg hc4 (fun h => h)
      have hch4 := hch3.trans hc4 (fun _ h => .inl h)
      have HSM := Lib.hid (sameA_any f0 f1 f2 f3 f4 f5 f6 rs ts ua va sa ta uc vc sc tc w4 HRL.out HTL.out (HRU.out.chg hc4 (fun _ _ h => h)) (HRV.out.chg hc4 (fun _ _ h => h)) (TopsAt.chg hc4 HTU.out (fun _ _ h => h)) (TopsAt.chg hc4 HTV.out (fun _ _ h => h)))
      clear hx3 hy2 hch3 hc4
      have x0 := hx4.cell (j := 0) rfl
      have x1 := hx4.cell (j := 1) rfl
      have x2 := hx4.cell (j := 2) rfl
      have x3 := hx4.cell (j := 3) rfl
      have x4 := hx4.cell (j := 4) rfl
      have x5 := hx4.cell (j := 5) rfl
      have x6 := hx4.cell (j := 6) rfl
      have x7 := hx4.cell (j := 7) rfl
      have x8 := hx4.cell (j := 8) rfl
      have y0 := hy4.cell (j := 0) rfl
      have y1 := hy4.cell (j := 1) rfl
      have y2 := hy4.cell (j := 2) rfl
      have y3 := hy4.cell (j := 3) rfl
      have y4 := hy4.cell (j := 4) rfl
      have y5 := hy4.cell (j := 5) rfl
      have y6 := hy4.cell (j := 6) rfl
      have y7 := hy4.cell (j := 7) rfl
      have y8 := hy4.cell (j := 8) rfl
      go_wp2_with fail
      refine HSM.out.mono ?_
      rintro e w5 ⟨rfl, hc5⟩
      go_wp2_with fail
      go_ret
      exact ⟨rfl, hch4.trans hc5 (fun _ h => .inl h)⟩
end Go.Proofs.YtmklicodfiggnaaDoor
