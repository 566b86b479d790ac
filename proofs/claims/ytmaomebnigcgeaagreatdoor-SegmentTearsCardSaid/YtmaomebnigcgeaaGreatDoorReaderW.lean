/-
  The walks of the reader: num, text.
-/
import Derived.Test.YtmaomebnigcgeaaGreatDoorBoxG
import Derived.Test.YtmaomebnigcgeaaGreatDoorEncL
namespace Go.Proofs.YtmaomebnigcgeaaGreatDoor
open Go.RowKit

/-- A reader at block g: what is left of its bytes, and whether they were bad. -/
structure Rd (w : World) (g b off cap : Nat) (l : List UInt8) (bad : Bool) : Prop where
  ne : b ≠ g
  fits : l.length ≤ cap
  most : cap ≤ maxLen
  c0 : w.cell? ⟨g, 0, none⟩ = some (.slice (some ⟨b, off, none⟩) l.length cap)
  c1 : w.cell? ⟨g, 1, none⟩ = some (.bool bad)
  f0 : w.frozen? ⟨g, 0, none⟩ = false
  f1 : w.frozen? ⟨g, 1, none⟩ = false
  bytes : BytesAt w (some ⟨b, off, none⟩) l



/-- The reader goes on by k bytes. -/
theorem Rd.move {w w' : World} {g b off cap : Nat} {l : List UInt8} {bad bad' : Bool} (h : Rd w g b off cap l bad) (k off' : Nat) (hk : k ≤ l.length) (ho : k < cap → off' = off + k)
    (c0 : w'.cell? ⟨g, 0, none⟩ = some (.slice (some ⟨b, off', none⟩) (l.length - k) (cap - k))) (c1 : w'.cell? ⟨g, 1, none⟩ = some (.bool bad')) (hf : ∀ q, w'.frozen? q = w.frozen? q) (hc : Chg (fun i => i = g) w w') :
    Rd w' g b off' (cap - k) (l.drop k) bad' := by
  refine ⟨h.ne, by rw [List.length_drop]; have := h.fits; omega, by have := h.most; omega, by rw [List.length_drop]; exact c0, c1, by rw [hf]; exact h.f0, by rw [hf]; exact h.f1, ?_⟩
  have hb := hc.bytesAt h.bytes (fun x hx e => h.ne (by cases hx; exact e))
  by_cases hkc : k < cap
  · rw [ho hkc]; exact hb.drop k
  · intro i hi
    rw [List.length_drop] at hi
    have := h.fits
    omega

set_option maxRecDepth 100000 in
theorem num_any (g b off cap : Nat) (l : List UInt8) (bad : Bool) (w : World) (h : Rd w g b off cap l bad) :
    Calls Tryz.prog 64 #[.pointer (some ⟨g, 0, none⟩)] w fun e w' => e = .returned (.int .i64 (get l).1) ∧ Chg (fun k => k = g) w w' ∧ ∃ off2, Rd w' g b off2 (cap - (get l).2) (l.drop (get l).2) (bad || (get l).2 == 0) := by
  have HR := Lib.hid h
  obtain ⟨hne, hfit, hmost, hc0, hc1, hf0, hf1, hb⟩ := h
  have hgs := (get_size l).1
  have hG := Lib.hid (get_any (some ⟨b, off, none⟩) l cap w (Nat.le_trans hfit hmost) hb)
  clear hb hmost hne
  go_enter Tryz.func64, Tryz.ntmps64
  go_wp2_with fail
  refine hG.out.mono ?_
  rintro e w1 ⟨rfl, rfl⟩
  generalize hn : (get l).1 = n at *
  generalize hs : (get l).2 = s at *
  have HN := Lib.hid hn
  have HS := Lib.hid hs
  clear hn hs hG
  by_cases h0 : s = 0
  · subst h0
    go_wp2
    go_ret
    refine ⟨by rw [HN.out]; rfl, ((Chg.refl (fun k => k = g) _).setCell (.inl rfl) _).setCell (.inl rfl) _, off, ?_⟩
    rw [HS.out]
    refine HR.out.move 0 off (Nat.zero_le _) (fun _ => rfl) (by rw [cell_set (cell_set hc0)]; rfl) (by rw [cell_set (cell_set hc1)]; simp) (fun q => by rw [frozen_set, frozen_set]) (((Chg.refl (fun k => k = g) _).setCell (.inl rfl) _).setCell (.inl rfl) _)
  · have hs0 : ((s : Int) == 0) = false := by simp; omega
    by_cases hcs : cap = s
    · have hx := HR.out
      subst hcs
      go_wp2
      go_ret
      refine ⟨by rw [HN.out]; rfl, (Chg.refl (fun k => k = g) _).setCell (.inl rfl) _, off, ?_⟩
      rw [HS.out]
      refine hx.move cap off hgs (fun h => by omega) (by rw [cell_set hc0, show l.length - cap = 0 by omega, Nat.sub_self]; rfl) (by rw [cell_set hc1]; simp [h0]) (fun q => by rw [frozen_set]) ((Chg.refl (fun k => k = g) _).setCell (.inl rfl) _)
    · go_wp2
      go_ret
      refine ⟨by rw [HN.out]; rfl, (Chg.refl (fun k => k = g) _).setCell (.inl rfl) _, off + s, ?_⟩
      rw [HS.out]
      refine HR.out.move s (off + s) hgs (fun _ => rfl) (by rw [cell_set hc0]; rfl) (by rw [cell_set hc1]; simp [h0]) (fun q => by rw [frozen_set]) ((Chg.refl (fun k => k = g) _).setCell (.inl rfl) _)

/-- A text at the beginning of bytes: how many bytes it takes behind its number; itself; what is left; whether it was bad. -/
def textN (l : List UInt8) : Nat := if (l.drop (get l).2).length < (get l).1 then 0 else (get l).1
def textS (l : List UInt8) : List UInt8 := (l.drop (get l).2).take (textN l)
def textRest (l : List UInt8) : List UInt8 := (l.drop (get l).2).drop (textN l)
def textBad (l : List UInt8) (bad : Bool) : Bool := bad || (get l).2 == 0 || decide ((l.drop (get l).2).length < (get l).1)

set_option maxHeartbeats 400000 in
set_option maxRecDepth 100000 in
theorem rtext_any (g b off cap : Nat) (l : List UInt8) (bad : Bool) (w : World) (h : Rd w g b off cap l bad) :
    Calls Tryz.prog 65 #[.pointer (some ⟨g, 0, none⟩)] w fun e w' => e = .returned (.string ⟨(textS l).toArray⟩) ∧ Chg (fun k => k = g) w w' ∧ ∃ off2 cap2, Rd w' g b off2 cap2 (textRest l) (textBad l bad) := by
  go_enter Tryz.func65, Tryz.ntmps65
  go_wp2_with fail
  refine (num_any g b off cap l bad w h).mono ?_
  rintro e w1 ⟨rfl, hch, off2, hR⟩
  have HS : Hid (textS l = (l.drop (get l).2).take (textN l)) := rfl
  have HT : Hid (textRest l = (l.drop (get l).2).drop (textN l)) := rfl
  have HB : Hid (textBad l bad = (bad || (get l).2 == 0 || decide ((l.drop (get l).2).length < (get l).1))) := rfl
  have HN : Hid (textN l = if (l.drop (get l).2).length < (get l).1 then 0 else (get l).1) := rfl
  have hn40 := get_le l
  generalize (bad || (get l).2 == 0) = bad1 at *
  generalize cap - (get l).2 = cap1 at *
  generalize l.drop (get l).2 = l1 at *
  generalize (get l).1 = n at *
  clear h
  have HR := Lib.hid hR
  obtain ⟨hne, hfit, hmost, hc0, hc1, hf0, hf1, hb⟩ := hR
  by_cases hn : l1.length < n
  · have hcv := conv_bytes (w := w1.setCell ⟨g, 1, none⟩ (.bool true)) (dst := 9) Tryz.underlying44 Tryz.underlying5 Tryz.underlying9
      (show BytesAt (w1.setCell ⟨g, 1, none⟩ (.bool true)) (some ⟨b, off2, none⟩) [] from fun i hi => absurd hi (Nat.not_lt_zero _)) cap1
    have HN0 : Hid (textN l = 0) := by unfold Hid; rw [HN.out, if_pos hn]
    have HB0 : Hid (textBad l bad = true) := by unfold Hid; rw [HB.out]; simp [hn]
    rw [List.length_nil] at hcv
    clear hb hmost hne
    go_wp2_with fail
    go_ret
    refine ⟨by rw [HS.out, HN0.out]; rfl, hch.trans (((Chg.refl (fun k => k = g) _).setCell (.inl rfl) _).setCell (.inl rfl) _) (fun _ h => .inl h), off2, cap1, ?_⟩
    rw [HT.out, HN0.out, HB0.out]
    refine HR.out.move 0 off2 (Nat.zero_le _) (fun _ => rfl) (by rw [cell_set (cell_set hc0)]; rfl) (by rw [cell_set (cell_set hc1)]; rfl) (fun q => by rw [frozen_set, frozen_set]) (((Chg.refl (fun k => k = g) _).setCell (.inl rfl) _).setCell (.inl rfl) _)
  · have hb2 := hb.take n
    have hle : (l1.take n).length = n := by rw [List.length_take]; omega
    have hcv := conv_bytes (dst := 9) Tryz.underlying44 Tryz.underlying5 Tryz.underlying9 hb2 cap1
    rw [hle] at hcv
    have HN0 : Hid (textN l = n) := by unfold Hid; rw [HN.out, if_neg hn]
    have HB0 : Hid (textBad l bad = bad1) := by unfold Hid; rw [HB.out]; simp [hn]
    clear hb hmost hne hle hb2
    by_cases hcs : cap1 = n
    · have hx := HR.out
      subst hcs
      go_wp2_with fail
      go_ret
      refine ⟨by rw [HS.out, HN0.out]; rfl, hch.trans ((Chg.refl (fun k => k = g) _).setCell (.inl rfl) _) (fun _ h => .inl h), off2, cap1 - cap1, ?_⟩
      rw [HT.out, HN0.out, HB0.out]
      refine hx.move cap1 off2 (by omega) (fun h => by omega) (by rw [cell_set hc0, show l1.length - cap1 = 0 by omega, Nat.sub_self]; rfl) (by rw [cell_set hc1]; rfl) (fun q => by rw [frozen_set]) ((Chg.refl (fun k => k = g) _).setCell (.inl rfl) _)
    · go_wp2_with fail
      go_ret
      refine ⟨by rw [HS.out, HN0.out]; rfl, hch.trans ((Chg.refl (fun k => k = g) _).setCell (.inl rfl) _) (fun _ h => .inl h), off2 + n, cap1 - n, ?_⟩
      rw [HT.out, HN0.out, HB0.out]
      refine HR.out.move n (off2 + n) (by omega) (fun _ => rfl) (by rw [cell_set hc0]; rfl) (by rw [cell_set hc1]; rfl) (fun q => by rw [frozen_set]) ((Chg.refl (fun k => k = g) _).setCell (.inl rfl) _)
end Go.Proofs.YtmaomebnigcgeaaGreatDoor
