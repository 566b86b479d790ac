/-
  The walk of the document's reading of a segment's file's name.
-/
import Derived.Test.YtimbbdlngmkjbaaDoorSegBW
import Derived.Shelf.Strings.Trim
set_option linter.unusedSimpArgs false
set_option linter.unusedVariables false
namespace Go.Proofs.YtimbbdlngmkjbaaDoor
open Go.RowKit Go.Shelf Go.Lib

def refEnd (d nm : List UInt8) (r : Int × Bool) : Int := if r.2 = true ∧ 0 ≤ r.1 ∧ r.1 ≤ 1099511627776 ∧ segName d r.1.toNat = nm then r.1 else -1
theorem trimLeft_len (l : List UInt8) : (trimLeftB l 48).length ≤ l.length := by
  unfold trimLeftB
  exact (List.dropWhile_sublist _).length_le

set_option maxHeartbeats 2000000 in
theorem refBase_any {w : World} (hT : Tabs w) (d nm : ByteArray) (hd : d.size ≤ 500) (hn : nm.size ≤ 900) :
    Calls Tryd.prog 7 #[.string d, .string nm] w fun e w' => e = .returned (.int .i64 (refBase d.data.toList nm.data.toList)) ∧ Chg Nil w w' := by
  have HC := Lib.hid (fun p => Any.strings_TrimPrefix Tryd.lays101 nm p w)
  have HT := Lib.hid hT
  clear hT
  go_enter Tryd.func7, Tryd.ntmps7
  go_wp2_with (go_at_call 15; refine (HC.out _).mono ?_; rintro e w1 ⟨rfl, rfl⟩)
  obtain ⟨a, ha⟩ : ∃ a : List UInt8, trimPrefix nm.data.toList (d.data.toList ++ [47]) = a := ⟨_, rfl⟩
  have hal : a.length ≤ 900 := by
    have := list_size nm
    rw [← ha]; exact Nat.le_trans (trimPrefix_len _ _) (by omega)
  have hpb : refBase d.data.toList nm.data.toList = refEnd d.data.toList nm.data.toList (refNum (trimSuffix a dotlog)) := by
    rw [← ha]; rfl
  rw [ha]
  clear ha
  have hx : (ByteArray.mk a.toArray).size = a.length := by rw [← list_size]
  refine (Any.strings_TrimSuffix Tryd.lays102 ⟨a.toArray⟩ ⟨#[46, 108, 111, 103]⟩ w1 (by rw [hx]; omega)).mono ?_
  rintro e w2 ⟨rfl, rfl⟩
  have hx2 : (ByteArray.mk #[46, 108, 111, 103]).data.toList = dotlog := rfl
  have hx3 : (ByteArray.mk a.toArray).data.toList = a := rfl
  rw [hx2, hx3]
  obtain ⟨b, hb⟩ : ∃ b : List UInt8, trimSuffix a dotlog = b := ⟨_, rfl⟩
  have hbl : b.length ≤ 900 := by rw [← hb]; exact Nat.le_trans (trimSuffix_len _ _) hal
  rw [hb]
  rw [hb] at hpb
  clear hb hx hx2 hx3 hal
  obtain ⟨s, hs⟩ : ∃ s : ByteArray, ByteArray.mk b.toArray = s := ⟨_, rfl⟩
  have hsb : s.data.toList = b := by rw [← hs]
  rw [hs]
  clear hs
  subst hsb
  have hss : s.size ≤ 900 := by rw [← list_size]; exact hbl
  have HPB := Lib.hid hpb
  have HTL := Lib.hid (Any.strings_TrimLeft_one Tryd.lays161 s 48 (by decide) w2)
  have HTR := Lib.hid (fun w => Any.strings_Trim_one Tryd.lays160 s 48 (by decide) w (by omega))
  have HNU := Lib.hid (number_any HT.out ⟨(trimLeftB s.data.toList 48).toArray⟩ (by rw [← list_size]; exact Nat.le_trans (trimLeft_len _) (by omega)))
  clear hpb hbl
  go_wp2_with (first | (go_at_call 17; refine HTL.out.mono ?_; rintro e w3 ⟨rfl, rfl⟩) | (go_at_call 16; refine HNU.out.mono ?_; rintro e w4 ⟨rfl, hc4⟩))
  refine (HTR.out w4).mono ?_
  rintro e w5 ⟨rfl, h5⟩
  have hc5 : Chg Nil w4 w5 := by
    rcases h5 with rfl | rfl
    · exact Chg.refl _ _
    · exact (Chg.refl _ _).drew
  have HC5 := Lib.hid (hc4.trans hc5 (fun _ h => h.elim))
  clear h5 hc4 hc5 HTR HNU HTL HC
  have hrn : refNum s.data.toList = if trimB s.data.toList 48 = [] ∧ s.data.toList ≠ [] then (0, true) else numR (trimLeftB s.data.toList 48) := rfl
  generalize numR (trimLeftB s.data.toList 48) = r1 at hrn ⊢
  obtain ⟨n1, ok1⟩ := r1
  generalize trimB s.data.toList 48 = t at hrn ⊢
  have hemp : s.toList.isEmpty = true ↔ s.data.toList = [] := by rw [ByteArray.toList_eq, List.isEmpty_iff]
  have hcase : (t = [] ∧ s.toList.isEmpty = false ∧ refNum s.data.toList = (0, true)) ∨ (t = [] ∧ s.toList.isEmpty = true ∧ refNum s.data.toList = (n1, ok1)) ∨ (t ≠ [] ∧ refNum s.data.toList = (n1, ok1)) := by
    rw [hrn]
    by_cases h1 : t = []
    · cases h2 : s.toList.isEmpty with
      | true => exact .inr (.inl ⟨h1, rfl, by rw [if_neg (fun h => h.2 (hemp.1 h2))]⟩)
      | false => exact .inl ⟨h1, rfl, by rw [if_pos ⟨h1, fun h => by rw [hemp.2 h] at h2; cases h2⟩]⟩
    · exact .inr (.inr ⟨h1, by rw [if_neg (fun h => h1 h.1)]⟩)
  clear hrn hemp
  rcases hcase with ⟨h1, h2, hr⟩ | hcase
  · subst h1
    have HB := Lib.hid (show refBase d.data.toList nm.data.toList = refEnd d.data.toList nm.data.toList (0, true) by rw [HPB.out, hr])
    clear hr HPB
    have HN := Lib.hid (refName_any (HT.out.chg HC5.out) d 0 (by omega) (by omega))
    obtain ⟨q, hq⟩ : ∃ q : ByteArray, (ByteArray.mk (segName d.data.toList 0).toArray) = q := ⟨_, rfl⟩
    rw [hq] at HN
    have hqs : q = nm ↔ segName d.data.toList 0 = nm.data.toList := by
      rw [← hq]
      constructor
      · rintro rfl; rfl
      · intro h; exact ba_eq h
    have HP3 : Hid (refBase d.data.toList nm.data.toList = if q = nm then (0 : Int) else -1) := by
      unfold Hid
      rw [HB.out, refEnd]
      by_cases he : q = nm
      · rw [if_pos he, if_pos ⟨rfl, by simp, by simp, hqs.1 he⟩]
      · rw [if_neg he, if_neg (fun h => he (hqs.2 h.2.2.2))]
    clear hq hqs HB
    by_cases he : q = nm
    · have hne := bytes_eqT he
      have HE := Lib.hid he
      clear he
      go_wp2_with (go_at_call 5; refine HN.out.mono ?_; rintro e w4 ⟨rfl, hc4⟩)
      go_ret
      refine ⟨?_, HC5.out.trans hc4 (fun _ h => h.elim)⟩
      rw [HP3.out, if_pos HE.out]; rfl
    · have hne := bytes_eqF he
      have HE := Lib.hid he
      clear he
      go_wp2_with (go_at_call 5; refine HN.out.mono ?_; rintro e w4 ⟨rfl, hc4⟩)
      go_ret
      refine ⟨?_, HC5.out.trans hc4 (fun _ h => h.elim)⟩
      rw [HP3.out, if_neg HE.out]; rfl
  · rcases hcase with ⟨h1, h2, hr⟩ | ⟨h1, hr⟩
    · subst h1
      have HB := Lib.hid (show refBase d.data.toList nm.data.toList = refEnd d.data.toList nm.data.toList (n1, ok1) by rw [HPB.out, hr])
      clear hr HPB
      cases ok1 with
      | false =>
        go_wp2_with fail
        go_ret
        exact ⟨by rw [HB.out, refEnd, if_neg (fun h => by cases h.1)]; rfl, HC5.out⟩
      | true =>
        by_cases g0 : n1 < 0
        · go_wp2_with fail
          go_ret
          exact ⟨by rw [HB.out, refEnd, if_neg (fun h => by have := h.2.1; simp only at this; omega)]; rfl, HC5.out⟩
        · by_cases g1 : 1099511627776 < n1
          · go_wp2_with fail
            go_ret
            exact ⟨by rw [HB.out, refEnd, if_neg (fun h => by have := h.2.2.1; simp only at this; omega)]; rfl, HC5.out⟩
          · obtain ⟨n, rfl⟩ : ∃ n : Nat, n1 = n := ⟨n1.toNat, by omega⟩
            have HN := Lib.hid (refName_any (HT.out.chg HC5.out) d n (by omega) (by omega))
            obtain ⟨q, hq⟩ : ∃ q : ByteArray, (ByteArray.mk (segName d.data.toList n).toArray) = q := ⟨_, rfl⟩
            rw [hq] at HN
            have hqs : q = nm ↔ segName d.data.toList n = nm.data.toList := by
              rw [← hq]
              constructor
              · rintro rfl; rfl
              · intro h; exact ba_eq h
            have HP3 : Hid (refBase d.data.toList nm.data.toList = if q = nm then (n : Int) else -1) := by
              unfold Hid
              rw [HB.out, refEnd]
              simp only [Int.toNat_natCast]
              by_cases he : q = nm
              · rw [if_pos he, if_pos ⟨trivial, by omega, by omega, hqs.1 he⟩]
              · rw [if_neg he, if_neg (fun h => he (hqs.2 h.2.2.2))]
            clear hq hqs HB
            by_cases he : q = nm
            · have hne := bytes_eqT he
              have HE := Lib.hid he
              clear he
              go_wp2_with (go_at_call 5; refine HN.out.mono ?_; rintro e w4 ⟨rfl, hc4⟩)
              go_ret
              refine ⟨?_, HC5.out.trans hc4 (fun _ h => h.elim)⟩
              rw [HP3.out, if_pos HE.out]; rfl
            · have hne := bytes_eqF he
              have HE := Lib.hid he
              clear he
              go_wp2_with (go_at_call 5; refine HN.out.mono ?_; rintro e w4 ⟨rfl, hc4⟩)
              go_ret
              refine ⟨?_, HC5.out.trans hc4 (fun _ h => h.elim)⟩
              rw [HP3.out, if_neg HE.out]; rfl
    · have HB := Lib.hid (show refBase d.data.toList nm.data.toList = refEnd d.data.toList nm.data.toList (n1, ok1) by rw [HPB.out, hr])
      clear hr HPB
      cases ok1 with
      | false =>
        go_wp2_with fail
        go_ret
        exact ⟨by rw [HB.out, refEnd, if_neg (fun h => by cases h.1)]; rfl, HC5.out⟩
      | true =>
        by_cases g0 : n1 < 0
        · go_wp2_with fail
          go_ret
          exact ⟨by rw [HB.out, refEnd, if_neg (fun h => by have := h.2.1; simp only at this; omega)]; rfl, HC5.out⟩
        · by_cases g1 : 1099511627776 < n1
          · go_wp2_with fail
            go_ret
            exact ⟨by rw [HB.out, refEnd, if_neg (fun h => by have := h.2.2.1; simp only at this; omega)]; rfl, HC5.out⟩
          · obtain ⟨n, rfl⟩ : ∃ n : Nat, n1 = n := ⟨n1.toNat, by omega⟩
            have HN := Lib.hid (refName_any (HT.out.chg HC5.out) d n (by omega) (by omega))
            obtain ⟨q, hq⟩ : ∃ q : ByteArray, (ByteArray.mk (segName d.data.toList n).toArray) = q := ⟨_, rfl⟩
            rw [hq] at HN
            have hqs : q = nm ↔ segName d.data.toList n = nm.data.toList := by
              rw [← hq]
              constructor
              · rintro rfl; rfl
              · intro h; exact ba_eq h
            have HP3 : Hid (refBase d.data.toList nm.data.toList = if q = nm then (n : Int) else -1) := by
              unfold Hid
              rw [HB.out, refEnd]
              simp only [Int.toNat_natCast]
              by_cases he : q = nm
              · rw [if_pos he, if_pos ⟨trivial, by omega, by omega, hqs.1 he⟩]
              · rw [if_neg he, if_neg (fun h => he (hqs.2 h.2.2.2))]
            clear hq hqs HB
            by_cases he : q = nm
            · have hne := bytes_eqT he
              have HE := Lib.hid he
              clear he
              go_wp2_with (go_at_call 5; refine HN.out.mono ?_; rintro e w4 ⟨rfl, hc4⟩)
              go_ret
              refine ⟨?_, HC5.out.trans hc4 (fun _ h => h.elim)⟩
              rw [HP3.out, if_pos HE.out]; rfl
            · have hne := bytes_eqF he
              have HE := Lib.hid he
              clear he
              go_wp2_with (go_at_call 5; refine HN.out.mono ?_; rintro e w4 ⟨rfl, hc4⟩)
              go_ret
              refine ⟨?_, HC5.out.trans hc4 (fun _ h => h.elim)⟩
              rw [HP3.out, if_neg HE.out]; rfl
end Go.Proofs.YtimbbdlngmkjbaaDoor
