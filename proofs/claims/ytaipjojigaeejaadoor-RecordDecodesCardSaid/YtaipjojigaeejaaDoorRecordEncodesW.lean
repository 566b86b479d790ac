/-
  The walk of RecordEncodes.
-/
import Derived.Test.YtaipjojigaeejaaDoorRefEncW
import Derived.Test.YtaipjojigaeejaaDoorBareW
set_option linter.unusedSimpArgs false
namespace Go.Proofs.YtaipjojigaeejaaDoor
open Go.RowKit

set_option maxHeartbeats 1000000 in
set_option maxRecDepth 100000 in
theorem refEncode_any (base en : Int) (a : Option Addr) (rs : List Rec) (cap : Nat) (w : World) (hb : -9223372036854775808 ≤ base ∧ base ≤ 9223372036854775807) (he : -9223372036854775808 ≤ en ∧ en ≤ 9223372036854775807) (hl : rs.length ≤ maxLen) (hok : ∀ r ∈ rs, Rec.Ok r) (hc : RecsAt w a rs) :
    Calls Tryd.prog 10 #[.agg #[.int .i64 base, .int .i64 en, .slice a rs.length cap]] w (RefEncPost w base en rs) := by
  by_cases h0 : checkB base en rs = 0
  · exact refEncode_ok base en a rs cap w hb he hl hok hc h0
  · have HRK := Lib.hid (fun w' h => refCheck_any base en a rs cap w' hb he hl hok h)
    have HE := Lib.hid (encErr_checked h0)
    have HC := Lib.hid hc
    have hx : Box (w.alloc (.cells #[.int .i64 base, .int .i64 en, .slice a rs.length cap] 24)) w.heap.size [.int .i64 base, .int .i64 en, .slice a rs.length cap] 24 := Box.new _ _ _
    have hch0 : Chg Nil w (w.alloc (.cells #[.int .i64 base, .int .i64 en, .slice a rs.length cap] 24)) := (Chg.refl _ _).alloc _
    have HC1 := Lib.hid (HC.out.chg hch0 (fun _ _ h => h))
    clear hok hc
    generalize hce : checkB base en rs = ce at *
    have hne : ¬ ((ce : Int) = 0) := by omega
    clear hce
    go_enter Tryd.func10, Tryd.ntmps10
    go_wp2_with fail
    refine (HRK.out _ HC1.out).mono ?_
    rintro e w1 ⟨rfl, hc1⟩
    go_wp2_with fail
    go_ret2
    exact ⟨hch0.trans hc1 (fun _ h => .inl h), .inl ⟨by rw [HE.out]; exact h0, by rw [HE.out]; rfl⟩⟩

set_option maxHeartbeats 1000000 in
set_option maxRecDepth 100000 in
theorem recordEncodes_any (base en : Int) (a : Option Addr) (rs : List Rec) (cap : Nat) (w : World) (hg : Handle w) (hb : -9223372036854775808 ≤ base ∧ base ≤ 9223372036854775807) (he : -9223372036854775808 ≤ en ∧ en ≤ 9223372036854775807) (hl : rs.length ≤ maxLen) (hok : ∀ r ∈ rs, Rec.Ok r) (hc : RecsAt w a rs) :
    Calls Tryd.prog 4 #[.agg #[.int .i64 base, .int .i64 en, .slice a rs.length cap]] w fun e w' => e = .returned (.bool true) ∧ Chg Nil w w' := by
  have HEK := Lib.hid (fun w' h => encode_any base en a rs cap w' hb he hl hok h)
  have HRK := Lib.hid (fun w' h => refEncode_any base en a rs cap w' hb he hl hok h)
  have HC := Lib.hid hc
  clear hok hc
  unfold maxLen at hl
  have hx : Box (w.alloc (.cells #[.int .i64 base, .int .i64 en, .slice a rs.length cap] 24)) w.heap.size [.int .i64 base, .int .i64 en, .slice a rs.length cap] 24 := Box.new _ _ _
  have hch0 : Chg Nil w (w.alloc (.cells #[.int .i64 base, .int .i64 en, .slice a rs.length cap] 24)) := (Chg.refl _ _).alloc _
  have HC1 := Lib.hid (HC.out.chg hch0 (fun _ _ h => h))
  have hg1 := hg.chg hch0 (fun h => h)
  by_cases h80 : 80 < rs.length
  · have hd : (80 : Int) < (rs.length : Int) := by omega
    go_enter Tryd.func4, Tryd.ntmps4
    go_wp2_with fail
    go_ret
    exact ⟨rfl, hch0⟩
  · have hd : ¬ (80 : Int) < (rs.length : Int) := by omega
    go_enter Tryd.func4, Tryd.ntmps4
    go_wp2_with fail
    refine (HRK.out _ HC1.out).mono ?_
    rintro e w1 ⟨hc1, hr⟩
    have hx1 := hx.chg hc1 (fun h => h)
    have HC2 := Lib.hid (HC1.out.chg hc1 (fun _ _ h => h))
    have hg2 := hg1.chg hc1 (fun h => h)
    have hch1 := hch0.trans hc1 (fun _ h => .inl h)
    have x0 := hx1.cell (j := 0) rfl
    have x1 := hx1.cell (j := 1) rfl
    have x2 := hx1.cell (j := 2) rfl
    clear hx hch0 hc1 hg1 hg
    rcases hr with ⟨hbad, rfl⟩ | ⟨hgood, v, rfl, hown, hfr⟩
    · have HB := Lib.hid (lawBare_any (encErr base en rs))
      have HBD := Lib.hid hbad
      clear hbad
      go_wp2_with fail
      refine (HEK.out _ HC2.out).mono ?_
      rintro e w2 ⟨hc2, ⟨_, rfl⟩ | ⟨hgd, _⟩⟩
      rotate_left
      · exact absurd hgd HBD.out
      have hg3 := hg2.chg hc2 (fun h => h)
      have hch2 := hch1.trans hc2 (fun _ h => .inl h)
      clear HBD HEK HRK
      generalize encErr base en rs = ce at *
      go_wp2_with fail
      refine (HB.out _ hg3).mono ?_
      rintro e w3 ⟨rfl, hc3⟩
      have hcv := conv_bytes (w := w3) (dst := 9) Tryd.underlying32 Tryd.underlying5 Tryd.underlying9 (show BytesAt w3 none [] from fun i hi => by simp at hi) 0
      simp only [List.length_nil] at hcv
      go_wp2_with fail
      go_ret
      exact ⟨rfl, hch2.trans hc3 (fun _ h => .inl h)⟩
    · have HB : Hid (∀ w', Handle w' → Calls Tryd.prog 7 #[.nilIface, .int .i64 0] w' fun e w'' => e = .returned (.bool true) ∧ Chg Nil w' w'') := fun w' h => lawBare_any 0 w' h
      have HGD := Lib.hid hgood
      obtain ⟨va, vc, rfl, hby, _⟩ := hown.val
      have HBY := Lib.hid hby
      clear hown hgood hby
      go_wp2_with fail
      refine (HEK.out _ HC2.out).mono ?_
      rintro e w2 ⟨hc2, ⟨hbd, _⟩ | ⟨_, u, rfl, hown2, hfr2⟩⟩
      · exact absurd HGD.out hbd
      have hg3 := hg2.chg hc2 (fun h => h)
      have hch2 := hch1.trans hc2 (fun _ h => .inl h)
      obtain ⟨ua, uc, rfl, huby, _⟩ := hown2.val
      have HUB := Lib.hid huby
      have hby2 := hc2.bytesAt HBY.out (fun _ _ h => h)
      have HBY2 := Lib.hid hby2
      clear hown2 huby hby2 hfr hfr2 HBY HEK HRK
      generalize encAll base en rs = L at *
      go_wp2_with fail
      refine (HB.out _ hg3).mono ?_
      rintro e w3 ⟨rfl, hc3⟩
      have hcv := conv_bytes (w := w3) (dst := 9) Tryd.underlying32 Tryd.underlying5 Tryd.underlying9 (hc3.bytesAt HBY2.out (fun _ _ h => h)) vc
      have hcu := conv_bytes (w := w3) (dst := 9) Tryd.underlying32 Tryd.underlying5 Tryd.underlying9 (hc3.bytesAt HUB.out (fun _ _ h => h)) uc
      go_wp2_with fail
      go_ret
      exact ⟨rfl, hch2.trans hc3 (fun _ h => .inl h)⟩
end Go.Proofs.YtaipjojigaeejaaDoor
