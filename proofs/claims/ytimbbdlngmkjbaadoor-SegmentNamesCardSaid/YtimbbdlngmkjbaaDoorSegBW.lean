/-
  The walks of the two readings of a segment's file's name.
-/
import Derived.Test.YtimbbdlngmkjbaaDoorSegNW
set_option linter.unusedSimpArgs false
set_option linter.unusedVariables false
namespace Go.Proofs.YtimbbdlngmkjbaaDoor
open Go.RowKit Go.Shelf Go.Lib

theorem bytes_eqT {a b : ByteArray} (h : a = b) : (a.toList == b.toList) = true := by rw [h]; simp
theorem bytes_eqF {a b : ByteArray} (h : a ≠ b) : (a.toList == b.toList) = false := by
  rw [beq_eq_false_iff_ne]
  intro e
  rw [ByteArray.toList_eq, ByteArray.toList_eq] at e
  exact h (ba_eq e)

theorem chg_bytes {w w' : World} {T : TypeId} (h : w' = w ∨ ∃ t, w' = Lib.bytesWorld w T t) : Chg Nil w w' := by
  rcases h with rfl | ⟨t, rfl⟩
  · exact Chg.refl _ _
  · exact Chg.of_below (Lib.bytesWorld_below _ _ _) _

theorem parse_any {w : World} (hT : Tabs w) (s : ByteArray) (hs : s.size ≤ 1000) :
    Calls Tryd.prog 33 #[.string s, .int .i64 10, .int .i64 64] w fun e w' => Chg Nil w w' ∧
      ((∃ v, parseIntB 64 s.data.toList = .ok v ∧ e = .returned (.tuple #[.int .i64 v, .nilIface])) ∨
       ((∀ v, parseIntB 64 s.data.toList ≠ .ok v) ∧ ∃ v t N, e = .returned (.tuple #[.int .i64 v, .iface t (.pointer (some ⟨N, 0, none⟩))]))) := by
  rcases h : parseIntB 64 s.data.toList with v | _ | _
  · exact (Any.strconv_ParseInt_10_at64_ok Tryd.laysC174 s (by omega) v h w).mono fun e w' ⟨h1, h2⟩ => ⟨chg_bytes h2, .inl ⟨v, rfl, h1⟩⟩
  ·
    obtain ⟨tp, p, hv⟩ := hT.syn
    exact (Any.strconv_ParseInt_10_at64_syntax_var Tryd.laysC174 s (by omega) h tp p w hv).mono fun e w' ⟨N, h1, _, _, h2⟩ => ⟨Chg.of_below h2 _, .inr ⟨fun v => (by simp), _, _, N, h1⟩⟩
  ·
    obtain ⟨tp, p, hv⟩ := hT.rng
    exact (Any.strconv_ParseInt_10_at64_range_var Tryd.laysC174 s (by omega) h tp p w hv).mono fun e w' ⟨N, h1, _, _, h2⟩ => ⟨Chg.of_below h2 _, .inr ⟨fun v => (by simp), _, _, N, h1⟩⟩

theorem atoi_any {w : World} (hT : Tabs w) (s : ByteArray) (hs : s.size ≤ 1000) :
    Calls Tryd.prog 13 #[.string s] w fun e w' => Chg Nil w w' ∧
      ((∃ v, atoiAll s.data.toList = .ok v ∧ e = .returned (.tuple #[.int .i64 v, .nilIface])) ∨
       ((∀ v, atoiAll s.data.toList ≠ .ok v) ∧ ∃ v t N, e = .returned (.tuple #[.int .i64 v, .iface t (.pointer (some ⟨N, 0, none⟩))]))) := by
  rcases h : atoiAll s.data.toList with v | _ | _
  · exact (Any.strconv_Atoi_ok Tryd.laysC172 s (by omega) v h w).mono fun e w' ⟨h1, h2⟩ => ⟨chg_bytes h2, .inl ⟨v, rfl, h1⟩⟩
  ·
    obtain ⟨tp, p, hv⟩ := hT.syn
    exact (Any.strconv_Atoi_syntax_var Tryd.laysC172 s (by omega) h tp p w hv).mono fun e w' ⟨N, h1, _, _, h2⟩ => ⟨Chg.of_below h2 _, .inr ⟨fun v => (by simp), _, _, N, h1⟩⟩
  ·
    obtain ⟨tp, p, hv⟩ := hT.rng
    exact (Any.strconv_Atoi_range_var Tryd.laysC172 s (by omega) h tp p w hv).mono fun e w' ⟨N, h1, _, _, h2⟩ => ⟨Chg.of_below h2 _, .inr ⟨fun v => (by simp), _, _, N, h1⟩⟩

theorem format_any {w : World} (hT : Tabs w) (n : Int) (h0 : -9223372036854775808 ≤ n) (h1 : n ≤ 9223372036854775807) :
    Calls Tryd.prog 34 #[.int .i64 n, .int .i64 10] w fun e w' => e = .returned (.string ⟨(itoa n).toArray⟩) ∧ Chg Nil w w' :=
  (Any.strconv_FormatInt_10 Tryd.laysM173 n h0 h1 w hT.pow).mono fun e w' ⟨h1, k, os, h2⟩ => ⟨h1, by rw [h2]; exact Chg.of_below (below_grow _ w (Nat.le_refl _) k os) _⟩

set_option maxHeartbeats 2000000 in
theorem number_any {w : World} (hT : Tabs w) (s : ByteArray) (hs : s.size ≤ 1000) :
    Calls Tryd.prog 16 #[.string s] w fun e w' => e = .returned (.tuple #[.int .i64 (numR s.data.toList).1, .bool (numR s.data.toList).2]) ∧ Chg Nil w w' := by
  have HP := Lib.hid (parse_any hT s hs)
  have HT := Lib.hid hT
  clear hT
  go_enter Tryd.func16, Tryd.ntmps16
  go_wp2_with fail
  refine HP.out.mono ?_
  rintro e w1 ⟨hc1, ⟨v, hv, rfl⟩ | ⟨hv, v, t, N, rfl⟩⟩
  · have hb := parseIntB_bounds hv
    have HF := Lib.hid (format_any (HT.out.chg hc1) v (by have := hb.1; simp at this; omega) (by have := hb.2; simp at this; omega))
    obtain ⟨q, hq⟩ : ∃ q : ByteArray, (ByteArray.mk (itoa v).toArray) = q := ⟨_, rfl⟩
    rw [hq] at HF
    have hqs : q = s ↔ itoa v = s.data.toList := by
      rw [← hq]
      constructor
      · rintro rfl; rfl
      · intro h; exact ba_eq h
    have hN : numR s.data.toList = if q = s then (v, true) else (0, false) := by
      unfold numR
      rw [hv]
      simp only [hqs]
    have HN := Lib.hid hN
    clear hv hb hq hqs hN
    by_cases he : q = s
    · have hne := bytes_eqT he
      have HE := Lib.hid he
      clear he
      go_wp2_with (go_at_call 34; refine HF.out.mono ?_; rintro e w2 ⟨rfl, hc2⟩)
      go_ret2
      rw [HN.out, if_pos HE.out]
      exact ⟨rfl, hc1.trans hc2 (fun _ h => h.elim)⟩
    · have hne := bytes_eqF he
      have HE := Lib.hid he
      clear he
      go_wp2_with (go_at_call 34; refine HF.out.mono ?_; rintro e w2 ⟨rfl, hc2⟩)
      go_ret2
      rw [HN.out, if_neg HE.out]
      exact ⟨rfl, hc1.trans hc2 (fun _ h => h.elim)⟩
  · have HN : Hid (numR s.data.toList = (0, false)) := by
      unfold Hid numR
      rcases h : parseIntB 64 s.data.toList with v | _ | _
      · exact absurd h (hv v)
      · rfl
      · rfl
    clear hv
    go_wp2_with fail
    go_ret2
    rw [HN.out]
    exact ⟨rfl, hc1⟩

def progEnd (d nm : List UInt8) : NumEnd Int → Int
  | .ok v => if 0 ≤ v ∧ v ≤ 1099511627776 ∧ segName d v.toNat = nm then v else -1
  | _ => -1
theorem progBase_eq {d nm a : List UInt8} (h : trimPrefix nm (d ++ [47]) = a) : progBase d nm = if hasSuffix a dotlog = true then progEnd d nm (atoiAll (trimSuffix a dotlog)) else -1 := by
  subst h
  unfold progBase
  simp only
  split
  · cases atoiAll (trimSuffix (trimPrefix nm (d ++ [47])) dotlog) <;> rfl
  · rfl
theorem trimSuffix_len (a p : List UInt8) : (trimSuffix a p).length ≤ a.length := by
  unfold trimSuffix
  split
  · rw [List.length_take]; omega
  · exact Nat.le_refl _
theorem trimPrefix_len (a p : List UInt8) : (trimPrefix a p).length ≤ a.length := by
  unfold trimPrefix
  split
  · rw [List.length_drop]; omega
  · exact Nat.le_refl _

set_option maxHeartbeats 2000000 in
theorem progBase_any {w : World} (hT : Tabs w) (d nm : ByteArray) (hd : d.size ≤ 500) (hn : nm.size ≤ 900) :
    Calls Tryd.prog 6 #[.string d, .string nm] w fun e w' => e = .returned (.int .i64 (progBase d.data.toList nm.data.toList)) ∧ Chg Nil w w' := by
  have HC := Lib.hid (fun p => Any.strings_CutPrefix Tryd.lays103 nm p w)
  have HT := Lib.hid hT
  clear hT
  go_enter Tryd.func6, Tryd.ntmps6
  go_wp2_with (go_at_call 11; refine (HC.out _).mono ?_; rintro e w1 ⟨rfl, rfl⟩)
  obtain ⟨a, ha⟩ : ∃ a : List UInt8, trimPrefix nm.data.toList (d.data.toList ++ [47]) = a := ⟨_, rfl⟩
  have hal : a.length ≤ 900 := by
    have := list_size nm
    rw [← ha]; exact Nat.le_trans (trimPrefix_len _ _) (by omega)
  have hpb := progBase_eq ha
  rw [ha]
  clear ha
  have hx : (ByteArray.mk a.toArray).size = a.length := by rw [← list_size]
  refine (Any.strings_CutSuffix Tryd.lays104 ⟨a.toArray⟩ ⟨#[46, 108, 111, 103]⟩ w1 (by rw [hx]; omega)).mono ?_
  rintro e w2 ⟨rfl, rfl⟩
  have hx2 : (ByteArray.mk #[46, 108, 111, 103]).data.toList = dotlog := rfl
  have hx3 : (ByteArray.mk a.toArray).data.toList = a := rfl
  rw [hx2, hx3]
  obtain ⟨b, hb⟩ : ∃ b : List UInt8, trimSuffix a dotlog = b := ⟨_, rfl⟩
  have hbl : b.length ≤ 900 := by rw [← hb]; exact Nat.le_trans (trimSuffix_len _ _) hal
  obtain ⟨y, hy⟩ : ∃ y : Bool, hasSuffix a dotlog = y := ⟨_, rfl⟩
  rw [hb, hy]
  rw [hb, hy] at hpb
  clear hb hy hx hx2 hx3 hal
  have HPB := Lib.hid hpb
  clear hpb
  cases y with
  | false =>
    go_wp2_with fail
    go_ret
    exact ⟨by rw [HPB.out]; rfl, Chg.refl _ _⟩
  | true =>
    have hbs : (ByteArray.mk b.toArray).size = b.length := by rw [← list_size]
    have HA := Lib.hid (atoi_any HT.out ⟨b.toArray⟩ (by rw [hbs]; omega))
    clear hbs
    go_wp2_with (go_at_call 13; refine HA.out.mono ?_)
    rintro e w3 ⟨hc3, ⟨v, hv, rfl⟩ | ⟨hv, v, t, N, rfl⟩⟩
    · have hv : atoiAll b = .ok v := hv
      have hpb := HPB.out
      rw [hv, if_pos trivial] at hpb
      have HPB2 := Lib.hid hpb
      clear hpb HPB hv HA
      by_cases h0 : v < 0
      · go_wp2_with fail
        go_ret
        exact ⟨by rw [HPB2.out, progEnd, if_neg (by omega)]; rfl, hc3⟩
      · by_cases h1 : 1099511627776 < v
        · go_wp2_with fail
          go_ret
          exact ⟨by rw [HPB2.out, progEnd, if_neg (by omega)]; rfl, hc3⟩
        · obtain ⟨n, rfl⟩ : ∃ n : Nat, v = n := ⟨v.toNat, by omega⟩
          have HN := Lib.hid (name_any (HT.out.chg hc3) d n (by omega) (by omega))
          obtain ⟨q, hq⟩ : ∃ q : ByteArray, (ByteArray.mk (segName d.data.toList n).toArray) = q := ⟨_, rfl⟩
          rw [hq] at HN
          have hqs : q = nm ↔ segName d.data.toList n = nm.data.toList := by
            rw [← hq]
            constructor
            · rintro rfl; rfl
            · intro h; exact ba_eq h
          have HP3 : Hid (progBase d.data.toList nm.data.toList = if q = nm then (n : Int) else -1) := by
            unfold Hid
            rw [HPB2.out, progEnd, Int.toNat_natCast]
            by_cases he : q = nm
            · rw [if_pos he, if_pos ⟨by omega, by omega, hqs.1 he⟩]
            · rw [if_neg he, if_neg (fun h => he (hqs.2 h.2.2))]
          clear hq hqs HPB2
          by_cases he : q = nm
          · have hne := bytes_eqT he
            have HE := Lib.hid he
            clear he
            go_wp2_with (go_at_call 4; refine HN.out.mono ?_; rintro e w4 ⟨rfl, hc4⟩)
            go_ret
            refine ⟨?_, hc3.trans hc4 (fun _ h => h.elim)⟩
            rw [HP3.out, if_pos HE.out]; rfl
          · have hne := bytes_eqF he
            have HE := Lib.hid he
            clear he
            go_wp2_with (go_at_call 4; refine HN.out.mono ?_; rintro e w4 ⟨rfl, hc4⟩)
            go_ret
            refine ⟨?_, hc3.trans hc4 (fun _ h => h.elim)⟩
            rw [HP3.out, if_neg HE.out]; rfl
    · have HV : Hid (progBase d.data.toList nm.data.toList = -1) := by
        unfold Hid
        rw [HPB.out, if_pos trivial]
        rcases h : atoiAll b with v | _ | _
        · exact absurd h (hv v)
        · rfl
        · rfl
      clear HPB hv HA
      go_wp2_with fail
      go_ret
      exact ⟨by rw [HV.out]; rfl, hc3⟩
end Go.Proofs.YtimbbdlngmkjbaaDoor
