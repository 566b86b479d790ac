/-
  The walks of the document's reader: num, truth, text.
-/
import Derived.Test.YtmklicodfiggnaaDoorRdW
set_option linter.unusedSimpArgs false
namespace Go.Proofs.YtmklicodfiggnaaDoor
open Go.RowKit

set_option maxHeartbeats 1000000 in
set_option maxRecDepth 100000 in
theorem tnum_any (g b off cap : Nat) (l : List UInt8) (bad : Bool) (w : World) (h : Rd w g b off cap l bad) :
    Calls Tryd.prog 35 #[.pointer (some ⟨g, 0, none⟩)] w fun e w' => e = .returned (.int .i64 (get l).1) ∧ Chg (fun k => k = g) w w' ∧ ∃ off2, Rd w' g b off2 (cap - (get l).2) (l.drop (get l).2) (bad || (get l).2 == 0) := by
  have HR0 := Lib.hid h
  obtain ⟨hne, hfit, hmost, hc0, hc1, hf0, hf1, hb⟩ := h
  have hgs := (get_size l).1
  have hG := Lib.hid (refGet_any (some ⟨b, off, none⟩) l cap w (Nat.le_trans hfit hmost) hfit hb)
  clear hb hmost hne
  go_enter Tryd.func35, Tryd.ntmps35
  go_wp2_with fail
  refine hG.out.mono ?_
  rintro e w1 ⟨rfl, hch⟩
  have HR := Lib.hid (HR0.out.chg hch (fun h => h) (fun h => h))
  have HCH := Lib.hid hch
  clear hc0 hc1 hf0 hf1 hch
  obtain ⟨_, _, _, hc0, hc1, hf0, hf1, _⟩ := HR.out
  generalize hn : (get l).1 = n at *
  generalize hs : (get l).2 = s at *
  have HN := Lib.hid hn
  have HS := Lib.hid hs
  clear hn hs hG
  have hset : ∀ (x : Bool) (v : Value), Chg (fun k => k = g) w ((w1.setCell ⟨g, 1, none⟩ (.bool x)).setCell ⟨g, 0, none⟩ v) := fun x v => (((HCH.out.weak (fun _ h => h.elim) : Chg (fun k => k = g) w w1).setCell (p := ⟨g, 1, none⟩) (.inl rfl) _).setCell (p := ⟨g, 0, none⟩) (.inl rfl) _)
  have hset1 : ∀ (x : Bool) (v : Value), Chg (fun k => k = g) w1 ((w1.setCell ⟨g, 1, none⟩ (.bool x)).setCell ⟨g, 0, none⟩ v) := fun x v => (((Chg.refl (fun k => k = g) _).setCell (.inl rfl) _).setCell (.inl rfl) _)
  have HSET := Lib.hid hset
  have HSET1 := Lib.hid hset1
  clear hset hset1
  cases bad
  · by_cases h0 : s = 0
    · subst h0
      go_wp2
      go_ret
      refine ⟨by rw [HN.out]; rfl, HSET.out _ _, off, ?_⟩
      rw [HS.out]
      exact HR.out.move 0 off (Nat.zero_le _) (fun _ => rfl) (by rw [cell_set (cell_set hc0)]; rfl) (by rw [cell_set (cell_set hc1)]; simp) (fun q => by rw [frozen_set, frozen_set]) (HSET1.out _ _)
    · have hs0 : ((s : Int) == 0) = false := by simp; omega
      by_cases hcs : cap = s
      · have hx := HR.out
        subst hcs
        go_wp2
        go_ret
        refine ⟨by rw [HN.out]; rfl, HSET.out _ _, off, ?_⟩
        rw [HS.out]
        exact hx.move cap off hgs (fun h => by omega) (by rw [cell_set (cell_set hc0), show l.length - cap = 0 by omega, Nat.sub_self]; rfl) (by rw [cell_set (cell_set hc1)]; simp [h0]) (fun q => by rw [frozen_set, frozen_set]) (HSET1.out _ _)
      · go_wp2
        go_ret
        refine ⟨by rw [HN.out]; rfl, HSET.out _ _, off + s, ?_⟩
        rw [HS.out]
        exact HR.out.move s (off + s) hgs (fun _ => rfl) (by rw [cell_set (cell_set hc0)]; rfl) (by rw [cell_set (cell_set hc1)]; simp [h0]) (fun q => by rw [frozen_set, frozen_set]) (HSET1.out _ _)
  · by_cases hcs : cap = s
    · have hx := HR.out
      subst hcs
      go_wp2
      go_ret
      refine ⟨by rw [HN.out]; rfl, HSET.out _ _, off, ?_⟩
      rw [HS.out]
      exact hx.move cap off hgs (fun h => by omega) (by rw [cell_set (cell_set hc0), show l.length - cap = 0 by omega, Nat.sub_self]; rfl) (by rw [cell_set (cell_set hc1)]; simp) (fun q => by rw [frozen_set, frozen_set]) (HSET1.out _ _)
    · go_wp2
      go_ret
      refine ⟨by rw [HN.out]; rfl, HSET.out _ _, off + s, ?_⟩
      rw [HS.out]
      exact HR.out.move s (off + s) hgs (fun _ => rfl) (by rw [cell_set (cell_set hc0)]; rfl) (by rw [cell_set (cell_set hc1)]; simp) (fun q => by rw [frozen_set, frozen_set]) (HSET1.out _ _)


theorem tnum_st (g b : Nat) (s : St) (w : World) (h : RdS w g b s) :
    Calls Tryd.prog 35 #[.pointer (some ⟨g, 0, none⟩)] w fun e w' => e = .returned (.int .i64 (numS s).1) ∧ Chg (fun k => k = g) w w' ∧ RdS w' g b (numS s).2 := by
  obtain ⟨off, cap, h⟩ := h
  refine (tnum_any g b off cap s.1 s.2 w h).mono ?_
  rintro e w' ⟨rfl, hc, off2, h2⟩
  exact ⟨rfl, hc, off2, _, h2⟩

set_option maxHeartbeats 1000000 in
set_option maxRecDepth 100000 in
theorem ttruth_st (g b : Nat) (s : St) (w : World) (h : RdS w g b s) :
    Calls Tryd.prog 37 #[.pointer (some ⟨g, 0, none⟩)] w fun e w' => e = .returned (.bool (truthS s).1) ∧ Chg (fun k => k = g) w w' ∧ RdS w' g b (truthS s).2 := by
  go_enter Tryd.func37, Tryd.ntmps37
  go_wp2_with fail
  refine (tnum_st g b s w h).mono ?_
  rintro e w1 ⟨rfl, hch, off, cap, hR⟩
  have HT : Hid (truthS s = (decide ((numS s).1 = 1), ((numS s).2.1, (numS s).2.2 || decide (1 < (numS s).1)))) := rfl
  have hn40 := numS_le s
  clear h
  generalize (numS s).1 = n at *
  generalize (numS s).2 = s1 at *
  obtain ⟨l1, bad1⟩ := s1
  simp only at HT hR
  have HR := Lib.hid hR
  obtain ⟨hne, hfit, hmost, hc0, hc1, hf0, hf1, hb⟩ := hR
  have hn1 : ((n : Int) == 1) = decide (n = 1) := by rw [Bool.eq_iff_iff, beq_iff_eq, decide_eq_true_eq]; omega
  have hfin : ∀ x : Bool, x = (bad1 || decide (1 < n)) → Chg (fun k => k = g) w (w1.setCell ⟨g, 1, none⟩ (.bool x)) ∧ RdS (w1.setCell ⟨g, 1, none⟩ (.bool x)) g b (l1, bad1 || decide (1 < n)) := fun x hx =>
    ⟨hch.setCell (.inl rfl) _, off, cap, HR.out.move 0 off (Nat.zero_le _) (fun _ => rfl) (by rw [cell_set hc0]; rfl) (by rw [cell_set hc1, hx]; rfl) (fun q => by rw [frozen_set]) ((Chg.refl (fun k => k = g) _).setCell (.inl rfl) _)⟩
  have HFIN := Lib.hid hfin
  have HN1 := Lib.hid hn1
  clear hfin hb hmost hne hn1
  cases bad1
  · by_cases h1 : 1 < n
    · have hi : (1 : Int) < (n : Int) := by omega
      go_wp2_with fail
      go_ret
      refine ⟨by rw [HT.out, ← HN1.out]; rfl, ?_⟩
      rw [HT.out]
      exact HFIN.out true (by simp [h1])
    · have hi : ¬ (1 : Int) < (n : Int) := by omega
      go_wp2_with fail
      go_ret
      refine ⟨by rw [HT.out, ← HN1.out]; rfl, ?_⟩
      rw [HT.out]
      exact HFIN.out _ (by rw [Bool.false_or]; congr 1; exact propext (by omega))
  · go_wp2_with fail
    go_ret
    refine ⟨by rw [HT.out, ← HN1.out]; rfl, ?_⟩
    rw [HT.out]
    exact HFIN.out true (by simp)

set_option maxHeartbeats 1000000 in
set_option maxRecDepth 100000 in
theorem ttext_st (most : Nat) (g b : Nat) (s : St) (w : World) (h : RdS w g b s) :
    Calls Tryd.prog 36 #[.pointer (some ⟨g, 0, none⟩), .int .i64 (most : Nat)] w fun e w' => e = .returned (.string ⟨(tkText most s).1.toArray⟩) ∧ Chg (fun k => k = g) w w' ∧ RdS w' g b (tkText most s).2 := by
  go_enter Tryd.func36, Tryd.ntmps36
  go_wp2_with fail
  refine (tnum_st g b s w h).mono ?_
  rintro e w1 ⟨rfl, hch, off, cap, hR⟩
  have HT : Hid (tkText most s = if (numS s).2.2 = true ∨ most < (numS s).1 ∨ (numS s).2.1.length < (numS s).1 then ([], ((numS s).2.1, true)) else ((numS s).2.1.take (numS s).1, ((numS s).2.1.drop (numS s).1, false))) := rfl
  have hn40 := numS_le s
  clear h
  generalize (numS s).1 = n at *
  generalize (numS s).2 = s1 at *
  obtain ⟨l1, bad1⟩ := s1
  simp only at HT hR
  have HR := Lib.hid hR
  obtain ⟨hne, hfit, hmost, hc0, hc1, hf0, hf1, hb⟩ := hR
  have hbadp : ((true : Bool) = true ∨ most < n ∨ l1.length < n → tkText most s = ([], (l1, true))) → True := fun _ => trivial
  by_cases hbad : bad1 = true ∨ most < n ∨ l1.length < n
  · have HT1 : Hid (tkText most s = ([], (l1, true))) := by unfold Hid; rw [HT.out, if_pos hbad]
    clear hb hmost hne HT hbadp
    have hfin : ∀ (h : True), Chg (fun k => k = g) w (w1.setCell ⟨g, 1, none⟩ (.bool true)) ∧ RdS (w1.setCell ⟨g, 1, none⟩ (.bool true)) g b (l1, true) := fun _ =>
      ⟨hch.setCell (.inl rfl) _, off, cap, HR.out.move 0 off (Nat.zero_le _) (fun _ => rfl) (by rw [cell_set hc0]; rfl) (by rw [cell_set hc1]; rfl) (fun q => by rw [frozen_set]) ((Chg.refl (fun k => k = g) _).setCell (.inl rfl) _)⟩
    have HFIN := Lib.hid (hfin trivial)
    clear hfin
    cases bad1
    · by_cases hm : most < n
      · go_wp2_with fail
        go_ret
        exact ⟨by rw [HT1.out]; rfl, HFIN.out.1, by rw [HT1.out]; exact HFIN.out.2⟩
      · have hl : l1.length < n := by simp only [Bool.false_eq_true, false_or] at hbad; omega
        clear hbad
        go_wp2_with fail
        go_ret
        exact ⟨by rw [HT1.out]; rfl, HFIN.out.1, by rw [HT1.out]; exact HFIN.out.2⟩
    · clear hbad
      go_wp2_with fail
      go_ret
      exact ⟨by rw [HT1.out]; rfl, HFIN.out.1, by rw [HT1.out]; exact HFIN.out.2⟩
  · have HT1 : Hid (tkText most s = (l1.take n, (l1.drop n, false))) := by unfold Hid; rw [HT.out, if_neg hbad]
    rw [not_or, not_or] at hbad
    obtain ⟨b1, b2, b3⟩ := hbad
    have hb1 : bad1 = false := by simpa using b1
    subst hb1
    have hb2 := hb.take n
    have hle : (l1.take n).length = n := by rw [List.length_take]; omega
    have hcv := conv_bytes (dst := 9) Tryd.underlying25 Tryd.underlying5 Tryd.underlying9 hb2 cap
    rw [hle] at hcv
    clear hb hmost hne hle hb2 hbadp HT b1
    by_cases hcs : cap = n
    · have hx := HR.out
      subst hcs
      go_wp2_with fail
      go_ret
      refine ⟨by rw [HT1.out]; rfl, hch.setCell (.inl rfl) _, off, cap - cap, ?_⟩
      rw [HT1.out]
      exact hx.move cap off (by omega) (fun h => by omega) (by rw [cell_set hc0, show l1.length - cap = 0 by omega, Nat.sub_self]; rfl) (by rw [cell_set hc1]; rfl) (fun q => by rw [frozen_set]) ((Chg.refl (fun k => k = g) _).setCell (.inl rfl) _)
    · go_wp2_with fail
      go_ret
      refine ⟨by rw [HT1.out]; rfl, hch.setCell (.inl rfl) _, off + n, cap - n, ?_⟩
      rw [HT1.out]
      exact HR.out.move n (off + n) (by omega) (fun _ => rfl) (by rw [cell_set hc0]; rfl) (by rw [cell_set hc1]; rfl) (fun q => by rw [frozen_set]) ((Chg.refl (fun k => k = g) _).setCell (.inl rfl) _)
end Go.Proofs.YtmklicodfiggnaaDoor
