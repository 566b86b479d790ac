/-
  The walk of WireAskeds.
-/
import Derived.Test.YtmklicodfiggnaaDoorRefAskedW
import Derived.Test.YtmklicodfiggnaaDoorSameQW
import Derived.Test.YtmklicodfiggnaaDoorBareW
set_option linter.unusedSimpArgs false
namespace Go.Proofs.YtmklicodfiggnaaDoor
open Go.RowKit

set_option maxHeartbeats 4000000 in
set_option maxRecDepth 100000 in
theorem wireAskeds_any (a : Option Addr) (l : List UInt8) (cap : Nat) (w : World) (hg : Handle w) (hcap : l.length ≤ cap) (hl : cap ≤ maxLen) (hb : BytesAt w a l) :
    Calls Tryd.prog 5 #[.slice a l.length cap] w fun e w' => e = .returned (.bool true) ∧ Chg Nil w w' := by
  have HRK := Lib.hid (masked_any a l cap w hcap hl hb)
  have HDK := Lib.hid (fun w' h => wasked_any a l cap w' hcap hl h)
  have HAL := Lib.hid (asked_alike l)
  have HCP := Lib.hid (@chain_parse l)
  have HBY := Lib.hid hb
  have HB := Lib.hid (lawBare_any (askedErr l))
  clear hb
  unfold maxLen at hl
  by_cases h80 : 15000 < l.length
  · have hd : (15000 : Int) < (l.length : Int) := by omega
    go_enter Tryd.func5, Tryd.ntmps5
    go_wp2_with fail
    go_ret
    exact ⟨rfl, Chg.refl _ _⟩
  · have hd : ¬ (15000 : Int) < (l.length : Int) := by omega
    go_enter Tryd.func5, Tryd.ntmps5
    go_wp2_with fail
    refine HRK.out.mono ?_
    rintro e w1 ⟨hc1, hr⟩
    rcases hr with ⟨hbad, rfl⟩ | ⟨hgood, v, rfl, hown, hfr⟩
    · have hx1 := Box.new w1 [.int .i64 0, .int .i64 0, .string ⟨#[]⟩, .int .i64 0, .int .i64 0, .int .i64 0, .int .i64 0, .int .i64 0, .int .i64 0, .int .i64 0, .bool false, .bool false, .slice none 0 0] 24
      have hcx := (Chg.refl Nil w1).alloc (.cells #[.int .i64 0, .int .i64 0, .string ⟨#[]⟩, .int .i64 0, .int .i64 0, .int .i64 0, .int .i64 0, .int .i64 0, .int .i64 0, .int .i64 0, .bool false, .bool false, .slice none 0 0] 24)
      have hby1 := (hc1.trans hcx (fun _ h => .inl h)).bytesAt HBY.out (fun _ _ h => h)
      have HBY1 := Lib.hid hby1
      rw [HAL.out.1] at hbad ⊢
      have HBD := Lib.hid hbad
      clear hby1 hbad HRK HCP
      go_wp2_with fail
      refine (HDK.out _ HBY1.out).mono ?_
      rintro e w2 ⟨hc2, ⟨_, rfl⟩ | ⟨hgd, _⟩⟩
      rotate_left
      · exact absurd hgd HBD.out
      have hx2 := hx1.chg hc2 (fun h => h)
      have hy2 := Box.new w2 [.int .i64 0, .int .i64 0, .string ⟨#[]⟩, .int .i64 0, .int .i64 0, .int .i64 0, .int .i64 0, .int .i64 0, .int .i64 0, .int .i64 0, .bool false, .bool false, .slice none 0 0] 24
      have hcy := (Chg.refl Nil w2).alloc (.cells #[.int .i64 0, .int .i64 0, .string ⟨#[]⟩, .int .i64 0, .int .i64 0, .int .i64 0, .int .i64 0, .int .i64 0, .int .i64 0, .int .i64 0, .bool false, .bool false, .slice none 0 0] 24)
      have hx3 := hx2.chg hcy (fun h => h)
      have hch3 := ((hc1.trans hcx (fun _ h => .inl h)).trans hc2 (fun _ h => .inl h)).trans hcy (fun _ h => .inl h)
      have hg3 := hg.chg hch3 (fun h => h)
      generalize askedErr l = ce at *
      clear hx1 hcx HDK HAL HBY1 hx2 hcy hc1 hc2
      go_wp2_with fail
      refine (HB.out _ hg3).mono ?_
      rintro e w4 ⟨rfl, hc4⟩
      have hx4 := hx3.chg hc4 (fun h => h)
      have hy4 := hy2.chg hc4 (fun h => h)
      have hch4 := hch3.trans hc4 (fun _ h => .inl h)
      clear hx3 hy2 hch3 hc4
      have x0 := hx4.cell (j := 0) rfl
      have x1 := hx4.cell (j := 1) rfl
      have x2 := hx4.cell (j := 2) rfl
      have x3 := hx4.cell (j := 3) rfl
      have x4 := hx4.cell (j := 4) rfl
      have x5 := hx4.cell (j := 5) rfl
      have x6 := hx4.cell (j := 6) rfl
      have x7 := hx4.cell (j := 7) rfl
      have x8 := hx4.cell (j := 8) rfl
      have x9 := hx4.cell (j := 9) rfl
      have x10 := hx4.cell (j := 10) rfl
      have x11 := hx4.cell (j := 11) rfl
      have x12 := hx4.cell (j := 12) rfl
      have y0 := hy4.cell (j := 0) rfl
      have y1 := hy4.cell (j := 1) rfl
      have y2 := hy4.cell (j := 2) rfl
      have y3 := hy4.cell (j := 3) rfl
      have y4 := hy4.cell (j := 4) rfl
      have y5 := hy4.cell (j := 5) rfl
      have y6 := hy4.cell (j := 6) rfl
      have y7 := hy4.cell (j := 7) rfl
      have y8 := hy4.cell (j := 8) rfl
      have y9 := hy4.cell (j := 9) rfl
      have y10 := hy4.cell (j := 10) rfl
      have y11 := hy4.cell (j := 11) rfl
      have y12 := hy4.cell (j := 12) rfl
      have HSM := Lib.hid (sameQ_any 0 0 0 0 0 0 0 0 0 ⟨#[]⟩ false false [] none none 0 0 w4 (by simp) (fun i hi => by simp at hi) (fun i hi => by simp at hi))
      simp only [List.length_nil, Int.cast_ofNat_Int] at HSM
      go_wp2_with fail
      refine HSM.out.mono ?_
      rintro e w5 ⟨rfl, hc5⟩
      go_wp2_with fail
      go_ret
      exact ⟨rfl, hch4.trans hc5 (fun _ h => .inl h)⟩
    · have h0 : askedErr l = 0 := by rw [← HAL.out.1]; exact hgood
      have hP : (chainQ (bodyQ l)).1 = (parseQ tkText (bodyQ l)).1 := by rw [HCP.out h0, HAL.out.2 h0]
      rw [h0] at HB
      have HB0 : Hid (∀ w', Handle w' → Calls Tryd.prog 11 #[.nilIface, .int .i64 0] w' fun e w'' => e = .returned (.bool true) ∧ Chg Nil w' w'') := fun w' h => HB.out w' h
      have hrl := hown.le
      have HRL := Lib.hid hrl
      have HDK2 : Hid (∀ w', BytesAt w' a l → Calls Tryd.prog 15 #[.slice a l.length cap] w' fun e w'' => Chg Nil w' w'' ∧ ∃ v, e = .returned (.tuple #[.agg (rqCells (parseQ tkText (bodyQ l)).1 v).toArray, .int .i64 ((fromB l + 4 : Nat) : Int), .nilIface]) ∧ OwnR 99 w'' v (parseQ tkText (bodyQ l)).1.recs) := by
        intro w' h
        refine (HDK.out w' h).mono ?_
        rintro e w2 ⟨hc2, ⟨hbd, _⟩ | ⟨_, u, rfl, hou, _⟩⟩
        · exact absurd h0 hbd
        · rw [hP] at hou ⊢
          exact ⟨hc2, u, rfl, hou⟩
      clear h0 HB hgood hrl HDK HAL HCP hP
      generalize (parseQ tkText (bodyQ l)).1 = P at *
      generalize fromB l + 4 = n at *
      obtain ⟨f0, f1, f2, f3, f4, f5, f6, f7, f8, f9, f10, f11, rs⟩ := P
      simp only [rqCells] at HDK2 hown HRL ⊢
      obtain ⟨va, vc, rfl, hrec, hvc⟩ := hown.recs
      have hx1 := Box.new w1 [.int .i64 f0, .int .i64 f1, .string f2, .int .i64 f3, .int .i64 f4, .int .i64 f5, .int .i64 f6, .int .i64 f7, .int .i64 f8, .int .i64 f9, .bool f10, .bool f11, .slice va rs.length vc] 24
      have hcx := (Chg.refl Nil w1).alloc (.cells #[.int .i64 f0, .int .i64 f1, .string f2, .int .i64 f3, .int .i64 f4, .int .i64 f5, .int .i64 f6, .int .i64 f7, .int .i64 f8, .int .i64 f9, .bool f10, .bool f11, .slice va rs.length vc] 24)
      have hby1 := (hc1.trans hcx (fun _ h => .inl h)).bytesAt HBY.out (fun _ _ h => h)
      have HBY1 := Lib.hid hby1
      have hrec1 := hrec.chg hcx (fun _ _ h => h)
      have HRC1 := Lib.hid hrec1
      clear hby1 hown hrec hrec1 hfr HRK
      go_wp2_with fail
      refine (HDK2.out _ HBY1.out).mono ?_
      rintro e w2 ⟨hc2, u, rfl, hou⟩
      obtain ⟨ua, uc, rfl, hrecu, huc⟩ := hou.recs
      have hx2 := hx1.chg hc2 (fun h => h)
      have hy2 := Box.new w2 [.int .i64 f0, .int .i64 f1, .string f2, .int .i64 f3, .int .i64 f4, .int .i64 f5, .int .i64 f6, .int .i64 f7, .int .i64 f8, .int .i64 f9, .bool f10, .bool f11, .slice ua rs.length uc] 24
      have hcy := (Chg.refl Nil w2).alloc (.cells #[.int .i64 f0, .int .i64 f1, .string f2, .int .i64 f3, .int .i64 f4, .int .i64 f5, .int .i64 f6, .int .i64 f7, .int .i64 f8, .int .i64 f9, .bool f10, .bool f11, .slice ua rs.length uc] 24)
      have hx3 := hx2.chg hcy (fun h => h)
      have hch3 := ((hc1.trans hcx (fun _ h => .inl h)).trans hc2 (fun _ h => .inl h)).trans hcy (fun _ h => .inl h)
      have hg3 := hg.chg hch3 (fun h => h)
      have HRV := Lib.hid ((HRC1.out.chg hc2 (fun _ _ h => h)).chg hcy (fun _ _ h => h))
      have HRU := Lib.hid (hrecu.chg hcy (fun _ _ h => h))
      clear hou hrecu HDK2 hx1 hx2 hcx hcy hc1 hc2
      go_wp2_with fail
      refine (HB0.out _ hg3).mono ?_
      rintro e w4 ⟨rfl, hc4⟩
      have hx4 := hx3.chg hc4 (fun h => h)
      have hy4 := hy2.chg hc4 (fun h => h)
      have hch4 := hch3.trans hc4 (fun _ h => .inl h)
      have HSM := Lib.hid (sameQ_any f0 f1 f3 f4 f5 f6 f7 f8 f9 f2 f10 f11 rs ua va uc vc w4 HRL.out (HRU.out.chg hc4 (fun _ _ h => h)) (HRV.out.chg hc4 (fun _ _ h => h)))
      clear hx3 hy2 hch3 hc4
      have x0 := hx4.cell (j := 0) rfl
      have x1 := hx4.cell (j := 1) rfl
      have x2 := hx4.cell (j := 2) rfl
      have x3 := hx4.cell (j := 3) rfl
      have x4 := hx4.cell (j := 4) rfl
      have x5 := hx4.cell (j := 5) rfl
      have x6 := hx4.cell (j := 6) rfl
      have x7 := hx4.cell (j := 7) rfl
      have x8 := hx4.cell (j := 8) rfl
      have x9 := hx4.cell (j := 9) rfl
      have x10 := hx4.cell (j := 10) rfl
      have x11 := hx4.cell (j := 11) rfl
      have x12 := hx4.cell (j := 12) rfl
      have y0 := hy4.cell (j := 0) rfl
      have y1 := hy4.cell (j := 1) rfl
      have y2 := hy4.cell (j := 2) rfl
      have y3 := hy4.cell (j := 3) rfl
      have y4 := hy4.cell (j := 4) rfl
      have y5 := hy4.cell (j := 5) rfl
      have y6 := hy4.cell (j := 6) rfl
      have y7 := hy4.cell (j := 7) rfl
      have y8 := hy4.cell (j := 8) rfl
      have y9 := hy4.cell (j := 9) rfl
      have y10 := hy4.cell (j := 10) rfl
      have y11 := hy4.cell (j := 11) rfl
      have y12 := hy4.cell (j := 12) rfl
      go_wp2_with fail
      refine HSM.out.mono ?_
      rintro e w5 ⟨rfl, hc5⟩
      go_wp2_with fail
      go_ret
      exact ⟨rfl, hch4.trans hc5 (fun _ h => .inl h)⟩
end Go.Proofs.YtmklicodfiggnaaDoor
