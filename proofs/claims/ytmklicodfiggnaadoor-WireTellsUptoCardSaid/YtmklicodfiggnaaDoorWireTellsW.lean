/-
  The walk of WireTells.
-/
import Derived.Test.YtmklicodfiggnaaDoorRefTellW
import Derived.Test.YtmklicodfiggnaaDoorBareW
set_option linter.unusedSimpArgs false
namespace Go.Proofs.YtmklicodfiggnaaDoor
open Go.RowKit

set_option maxHeartbeats 2000000 in
set_option maxRecDepth 100000 in
theorem wireTells_any (kind corr err offset start fin : Int) (found : Bool) (recs : List Rec) (a : Option Addr) (cap : Nat) (tops : List Tp) (b : Option Addr) (bcap : Nat) (w : World) (hg : Handle w) (hml : recs.length ≤ 1048576) (hsz : ∀ r ∈ recs, r.key.size ≤ 1048576 ∧ r.value.size ≤ 1048576) (hr : RecsAt w a recs) (hmt : tops.length ≤ 1048576) (hst : ∀ t ∈ tops, t.name.size ≤ 1048576) (ht : TopsAt w b tops) :
    Calls Tryd.prog 4 #[.agg #[.int .i64 kind, .int .i64 corr, .int .i64 err, .int .i64 offset, .int .i64 start, .int .i64 fin, .bool found, .slice a recs.length cap, .slice b tops.length bcap]] w fun e w' => e = .returned (.bool true) ∧ Chg Nil w w' := by
  have hx := Box.new w [.int .i64 kind, .int .i64 corr, .int .i64 err, .int .i64 offset, .int .i64 start, .int .i64 fin, .bool found, .slice a recs.length cap, .slice b tops.length bcap] 37
  have hal0 := (Chg.refl Nil w).alloc (.cells #[.int .i64 kind, .int .i64 corr, .int .i64 err, .int .i64 offset, .int .i64 start, .int .i64 fin, .bool found, .slice a recs.length cap, .slice b tops.length bcap] 37)
  have hr0 := hr.chg hal0 (fun _ _ h => h)
  have hg0 := hg.chg hal0 (fun h => h)
  have HR0 := Lib.hid hr0
  have HSZ := Lib.hid hsz
  have ht0 := ht.chg hal0 (fun _ _ h => h)
  have HT0 := Lib.hid ht0
  have HST := Lib.hid hst
  clear hr hr0 hsz hg ht ht0 hst
  go_enter Tryd.func4, Tryd.ntmps4
  go_upto_region 1 with fail
  generalize w.alloc (.cells #[.int .i64 kind, .int .i64 corr, .int .i64 err, .int .i64 offset, .int .i64 start, .int .i64 fin, .bool found, .slice a recs.length cap, .slice b tops.length bcap] 37) = w0 at *
  by_cases h300 : 300 < recs.length + tops.length
  · have hd : (300 : Int) < (recs.length : Int) + (tops.length : Int) := by omega
    have x7 := hx.cell (j := 7) rfl
    have x8 := hx.cell (j := 8) rfl
    go_wp2_with fail
    go_ret
    exact ⟨rfl, hal0⟩
  · have hd : ¬ (300 : Int) < (recs.length : Int) + (tops.length : Int) := by omega
    have hl : recs.length ≤ 300 := by omega
    have hlt : tops.length ≤ 300 := by omega
    have x0 := hx.cell (j := 0) rfl
    have x1 := hx.cell (j := 1) rfl
    have x2 := hx.cell (j := 2) rfl
    have x3 := hx.cell (j := 3) rfl
    have x4 := hx.cell (j := 4) rfl
    have x5 := hx.cell (j := 5) rfl
    have x6 := hx.cell (j := 6) rfl
    have x7 := hx.cell (j := 7) rfl
    have x8 := hx.cell (j := 8) rfl
    have HMA := Lib.hid (mtell_any kind corr err offset start fin found recs a cap tops b bcap w0 hl HSZ.out hlt HST.out HR0.out HT0.out)
    go_wp2_with fail
    refine HMA.out.mono ?_
    rintro e w1 ⟨hc1, hpost⟩
    have hx1 := hx.chg hc1 (fun h => h)
    have hg1 := hg0.chg hc1 (fun h => h)
    have hch1 := hal0.trans hc1 (fun _ h => .inl h)
    have HWA := Lib.hid (wtell_any kind corr err offset start fin found recs a cap tops b bcap w1 hl HSZ.out hlt HST.out (HR0.out.chg hc1 (fun _ _ h => h)) (HT0.out.chg hc1 (fun _ _ h => h)))
    clear x0 x1 x2 x3 x4 x5 x6 x7 x8
    have x0 := hx1.cell (j := 0) rfl
    have x1 := hx1.cell (j := 1) rfl
    have x2 := hx1.cell (j := 2) rfl
    have x3 := hx1.cell (j := 3) rfl
    have x4 := hx1.cell (j := 4) rfl
    have x5 := hx1.cell (j := 5) rfl
    have x6 := hx1.cell (j := 6) rfl
    have x7 := hx1.cell (j := 7) rfl
    have x8 := hx1.cell (j := 8) rfl
    clear HMA hx hal0 hc1
    rcases hpost with ⟨hbad, rfl⟩ | ⟨hgood, v, rfl, hown, hfr⟩
    · have HBD := Lib.hid hbad
      clear hbad
      go_wp2_with fail
      refine HWA.out.mono ?_
      rintro e w2 ⟨hc2, ⟨_, rfl⟩ | ⟨hgd, _⟩⟩
      rotate_left
      · exact absurd hgd HBD.out
      have hg2 := hg1.chg hc2 (fun h => h)
      have hch2 := hch1.trans hc2 (fun _ h => .inl h)
      clear HBD HWA
      generalize tellErr ⟨kind, corr, err, offset, start, fin, found, recs, tops⟩ = ce at *
      go_wp2_with fail
      refine (lawBare_any ce w2 hg2).mono ?_
      rintro e w3 ⟨rfl, hc3⟩
      have hcv := conv_bytes (w := w3) (dst := 9) Tryd.underlying25 Tryd.underlying5 Tryd.underlying9 (show BytesAt w3 none [] from fun i hi => by simp at hi) 0
      simp only [List.length_nil] at hcv
      go_wp2_with fail
      go_ret
      exact ⟨rfl, hch2.trans hc3 (fun _ h => .inl h)⟩
    · have HGD := Lib.hid hgood
      obtain ⟨va, vc, rfl, hby, _⟩ := hown.val
      have HBY := Lib.hid hby
      clear hown hgood hby
      go_wp2_with fail
      refine HWA.out.mono ?_
      rintro e w2 ⟨hc2, ⟨hbd, _⟩ | ⟨_, u, rfl, hown2, hfr2⟩⟩
      · exact absurd HGD.out hbd
      have hg2 := hg1.chg hc2 (fun h => h)
      have hch2 := hch1.trans hc2 (fun _ h => .inl h)
      obtain ⟨ua, uc, rfl, huby, _⟩ := hown2.val
      have HUB := Lib.hid huby
      have hby2 := hc2.bytesAt HBY.out (fun _ _ h => h)
      have HBY2 := Lib.hid hby2
      have HLB : Hid (∀ w', Handle w' → Calls Tryd.prog 11 #[.nilIface, .int .i64 0] w' fun e w'' => e = .returned (.bool true) ∧ Chg Nil w' w'') := fun w' h => lawBare_any 0 w' h
      clear hown2 huby hby2 hfr hfr2 HBY HWA HGD
      generalize tellB ⟨kind, corr, err, offset, start, fin, found, recs, tops⟩ = L at *
      have e0 : errV 26 0 = .nilIface := rfl
      rw [e0]
      simp only [Int.cast_ofNat_Int]
      go_wp2_with fail
      refine (HLB.out _ hg2).mono ?_
      rintro e w3 ⟨rfl, hc3⟩
      have hcv := conv_bytes (w := w3) (dst := 9) Tryd.underlying25 Tryd.underlying5 Tryd.underlying9 (hc3.bytesAt HBY2.out (fun _ _ h => h)) vc
      have hcu := conv_bytes (w := w3) (dst := 9) Tryd.underlying25 Tryd.underlying5 Tryd.underlying9 (hc3.bytesAt HUB.out (fun _ _ h => h)) uc
      go_wp2_with fail
      go_ret
      exact ⟨rfl, hch2.trans hc3 (fun _ h => .inl h)⟩
end Go.Proofs.YtmklicodfiggnaaDoor
