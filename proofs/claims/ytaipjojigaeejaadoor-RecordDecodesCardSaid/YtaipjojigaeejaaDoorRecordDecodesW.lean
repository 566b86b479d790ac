/-
  The walk of RecordDecodes.
-/
import Derived.Test.YtaipjojigaeejaaDoorRefDecW
import Derived.Test.YtaipjojigaeejaaDoorSameW
import Derived.Test.YtaipjojigaeejaaDoorBareW
set_option linter.unusedSimpArgs false
namespace Go.Proofs.YtaipjojigaeejaaDoor
open Go.RowKit

theorem OwnR.le {e : TypeId} {w : World} {v : Value} {rs : List Rec} (h : OwnR e w v rs) : rs.length ≤ maxLen := by
  rcases h.2 with ⟨_, hn⟩ | ⟨g, cap, cur, _, _, _, hle, hm, _⟩
  · omega
  · exact Nat.le_trans hle hm

theorem refdecode_any (a : Option Addr) (l : List UInt8) (cap : Nat) (w : World) (hcap : l.length ≤ cap) (hl : cap ≤ maxLen) (hb : BytesAt w a l) :
    Calls Tryd.prog 12 #[.slice a l.length cap] w (RefDecPost w l) := by
  by_cases h8 : l.length < 8
  · exact refdecode_short a l cap w h8
  · exact refdecode_rest a l cap w h8 hcap hl hb

set_option maxHeartbeats 1000000 in
set_option maxRecDepth 100000 in
theorem recordDecodes_any (a : Option Addr) (l : List UInt8) (cap : Nat) (w : World) (hg : Handle w) (hcap : l.length ≤ cap) (hl : cap ≤ maxLen) (hb : BytesAt w a l) :
    Calls Tryd.prog 5 #[.slice a l.length cap] w fun e w' => e = .returned (.bool true) ∧ Chg Nil w w' := by
  have HRK := Lib.hid (refdecode_any a l cap w hcap hl hb)
  have HDK := Lib.hid (fun w' h => decode_any a l cap w' hcap hl h)
  have HAL := Lib.hid (dec_alike l)
  have HBY := Lib.hid hb
  have HB := Lib.hid (lawBare_any (decErr l))
  clear hb
  unfold maxLen at hl
  by_cases h80 : 8000 < l.length
  · have hd : (8000 : Int) < (l.length : Int) := by omega
    go_enter Tryd.func5, Tryd.ntmps5
    go_wp2_with fail
    go_ret
    exact ⟨rfl, Chg.refl _ _⟩
  · have hd : ¬ (8000 : Int) < (l.length : Int) := by omega
    go_enter Tryd.func5, Tryd.ntmps5
    go_wp2_with fail
    refine HRK.out.mono ?_
    rintro e w1 ⟨hc1, hr⟩
    have hal := (Chg.refl Nil w1)
    rcases hr with ⟨hbad, rfl⟩ | ⟨hgood, v, rfl, hown, hfr⟩
    · have hx1 := Box.new w1 [.int .i64 0, .int .i64 0, .slice none 0 0] 24
      have hcx := (Chg.refl Nil w1).alloc (.cells #[.int .i64 0, .int .i64 0, .slice none 0 0] 24)
      have hby1 := (hc1.trans hcx (fun _ h => .inl h)).bytesAt HBY.out (fun _ _ h => h)
      have HBY1 := Lib.hid hby1
      rw [HAL.out.1] at hbad ⊢
      have HBD := Lib.hid hbad
      clear hby1 hbad
      go_wp2_with fail
      refine (HDK.out _ HBY1.out).mono ?_
      rintro e w2 ⟨hc2, ⟨_, rfl⟩ | ⟨hgd, _⟩⟩
      rotate_left
      · exact absurd hgd HBD.out
      have hx2 := hx1.chg hc2 (fun h => h)
      have hy2 := Box.new w2 [.int .i64 0, .int .i64 0, .slice none 0 0] 24
      have hcy := (Chg.refl Nil w2).alloc (.cells #[.int .i64 0, .int .i64 0, .slice none 0 0] 24)
      have hx3 := hx2.chg hcy (fun h => h)
      have hch3 := ((hc1.trans hcx (fun _ h => .inl h)).trans hc2 (fun _ h => .inl h)).trans hcy (fun _ h => .inl h)
      have hg3 := hg.chg hch3 (fun h => h)
      generalize decErr l = ce at *
      go_wp2_with fail
      refine (HB.out _ hg3).mono ?_
      rintro e w4 ⟨rfl, hc4⟩
      have hx4 := hx3.chg hc4 (fun h => h)
      have hy4 := hy2.chg hc4 (fun h => h)
      have x0 := hx4.cell (j := 0) rfl
      have x1 := hx4.cell (j := 1) rfl
      have x2 := hx4.cell (j := 2) rfl
      have y0 := hy4.cell (j := 0) rfl
      have y1 := hy4.cell (j := 1) rfl
      have y2 := hy4.cell (j := 2) rfl
      have HSM := Lib.hid (same_any none none [] 0 0 w4 (by simp) (fun i hi => by simp at hi) (fun i hi => by simp at hi))
      simp only [List.length_nil] at HSM
      go_wp2_with fail
      refine HSM.out.mono ?_
      rintro e w5 ⟨rfl, hc5⟩
      go_wp2_with fail
      go_ret
      exact ⟨rfl, (hch3.trans hc4 (fun _ h => .inl h)).trans hc5 (fun _ h => .inl h)⟩
    · have h0 : decErr l = 0 := by rw [← HAL.out.1]; exact hgood
      have HTK := Lib.hid (HAL.out.2 h0)
      rw [h0] at HB
      have HB0 : Hid (∀ w', Handle w' → Calls Tryd.prog 7 #[.nilIface, .int .i64 0] w' fun e w'' => e = .returned (.bool true) ∧ Chg Nil w' w'') := fun w' h => HB.out w' h
      have H0 := Lib.hid h0
      have hrl := hown.le
      rw [HTK.out] at hown hrl ⊢
      have HRL := Lib.hid hrl
      have HDK2 : Hid (∀ w', BytesAt w' a l → Calls Tryd.prog 13 #[.slice a l.length cap] w' fun e w'' => Chg Nil w' w'' ∧ ∃ v, e = .returned (.tuple #[.agg #[.int .i64 ((parse ((l.take (fromB l)).drop 8)).base : Nat), .int .i64 (((parse ((l.take (fromB l)).drop 8)).base : Int) + ((parse ((l.take (fromB l)).drop 8)).len : Nat)), v], .int .i64 (fromB l : Nat), .nilIface]) ∧ OwnR 51 w'' v (parse ((l.take (fromB l)).drop 8)).recs) := by
        intro w' h
        refine (HDK.out w' h).mono ?_
        rintro e w2 ⟨hc2, ⟨hbd, _⟩ | ⟨_, u, rfl, hou, _⟩⟩
        · exact absurd H0.out hbd
        · exact ⟨hc2, u, rfl, hou⟩
      clear h0 HB hgood hrl HDK HTK H0 HAL
      generalize (parse ((l.take (fromB l)).drop 8)).base = pb at *
      generalize (parse ((l.take (fromB l)).drop 8)).len = pl at *
      generalize (parse ((l.take (fromB l)).drop 8)).recs = rs at *
      generalize fromB l = n at *
      obtain ⟨va, vc, rfl, hrec, hvc⟩ := hown.recs
      have hx1 := Box.new w1 [.int .i64 (pb : Nat), .int .i64 ((pb : Int) + (pl : Nat)), .slice va rs.length vc] 24
      have hcx := (Chg.refl Nil w1).alloc (.cells #[.int .i64 (pb : Nat), .int .i64 ((pb : Int) + (pl : Nat)), .slice va rs.length vc] 24)
      have hby1 := (hc1.trans hcx (fun _ h => .inl h)).bytesAt HBY.out (fun _ _ h => h)
      have HBY1 := Lib.hid hby1
      have hrec1 := hrec.chg hcx (fun _ _ h => h)
      have HRC1 := Lib.hid hrec1
      clear hby1 hown hrec hrec1 hfr
      go_wp2_with fail
      refine (HDK2.out _ HBY1.out).mono ?_
      rintro e w2 ⟨hc2, u, rfl, hou⟩
      obtain ⟨ua, uc, rfl, hrecu, huc⟩ := hou.recs
      have hx2 := hx1.chg hc2 (fun h => h)
      have hy2 := Box.new w2 [.int .i64 (pb : Nat), .int .i64 ((pb : Int) + (pl : Nat)), .slice ua rs.length uc] 24
      have hcy := (Chg.refl Nil w2).alloc (.cells #[.int .i64 (pb : Nat), .int .i64 ((pb : Int) + (pl : Nat)), .slice ua rs.length uc] 24)
      have hx3 := hx2.chg hcy (fun h => h)
      have hch3 := ((hc1.trans hcx (fun _ h => .inl h)).trans hc2 (fun _ h => .inl h)).trans hcy (fun _ h => .inl h)
      have hg3 := hg.chg hch3 (fun h => h)
      have HRV := Lib.hid ((HRC1.out.chg hc2 (fun _ _ h => h)).chg hcy (fun _ _ h => h))
      have HRU := Lib.hid (hrecu.chg hcy (fun _ _ h => h))
      clear hou hrecu HDK2
      go_wp2_with fail
      refine (HB0.out _ hg3).mono ?_
      rintro e w4 ⟨rfl, hc4⟩
      have hx4 := hx3.chg hc4 (fun h => h)
      have hy4 := hy2.chg hc4 (fun h => h)
      have x0 := hx4.cell (j := 0) rfl
      have x1 := hx4.cell (j := 1) rfl
      have x2 := hx4.cell (j := 2) rfl
      have y0 := hy4.cell (j := 0) rfl
      have y1 := hy4.cell (j := 1) rfl
      have y2 := hy4.cell (j := 2) rfl
      have HSM := Lib.hid (same_any ua va rs uc vc w4 HRL.out (HRU.out.chg hc4 (fun _ _ h => h)) (HRV.out.chg hc4 (fun _ _ h => h)))
      go_wp2_with fail
      refine HSM.out.mono ?_
      rintro e w5 ⟨rfl, hc5⟩
      go_wp2_with fail
      go_ret
      exact ⟨rfl, (hch3.trans hc4 (fun _ h => .inl h)).trans hc5 (fun _ h => .inl h)⟩
end Go.Proofs.YtaipjojigaeejaaDoor
