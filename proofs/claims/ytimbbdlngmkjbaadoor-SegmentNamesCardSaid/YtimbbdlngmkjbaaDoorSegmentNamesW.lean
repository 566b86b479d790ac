/-
  The walk of the law of segments' names.
-/
import Derived.Test.YtimbbdlngmkjbaaDoorSegRW
set_option linter.unusedSimpArgs false
set_option linter.unusedVariables false
namespace Go.Proofs.YtimbbdlngmkjbaaDoor
open Go.RowKit Go.Shelf Go.Lib

theorem ba_size (a b : ByteArray) : (a ++ b).size = a.size + b.size := by
  rw [← list_size, ba_app, List.length_append, list_size, list_size]

set_option maxHeartbeats 4000000 in
theorem segLaw_any {w : World} (hT : Tabs w) (d nm : ByteArray) (base : Int) (hd : d.size ≤ 4611686018427387903) (hn : nm.size ≤ 4611686018427387903) :
    Calls Tryd.prog 3 #[.string d, .string nm, .int .i64 base] w fun e w' => e = .returned (.bool true) ∧ Chg Nil w w' := by
  by_cases hlen : 100 < d.size + nm.size
  · have hw : wrap64 ((d.size : Int) + (nm.size : Int)) = (d.size : Int) + nm.size := by unfold wrap64; omega
    have hl : (100 : Int) < (d.size : Int) + nm.size := by omega
    go_enter Tryd.func3, Tryd.ntmps3
    go_wp2_with fail
    go_ret
    exact ⟨rfl, Chg.refl _ _⟩
  · have hw : wrap64 ((d.size : Int) + (nm.size : Int)) = (d.size : Int) + nm.size := by unfold wrap64; omega
    have hl : ¬ (100 : Int) < (d.size : Int) + nm.size := by omega
    have hd2 : d.size ≤ 100 := by omega
    have hn2 : nm.size ≤ 100 := by omega
    have HT := Lib.hid hT
    obtain ⟨x, hx⟩ : ∃ x, d ++ ⟨#[47]⟩ ++ nm ++ ⟨#[46, 108, 111, 103]⟩ = x := ⟨_, rfl⟩
    have hxs : x.size ≤ 900 := by
      rw [← hx, ba_size, ba_size, ba_size]
      have e1 : (ByteArray.mk #[47]).size = 1 := rfl
      have e2 : (ByteArray.mk #[46, 108, 111, 103]).size = 4 := rfl
      omega
    have HX := Lib.hid hx
    have HP := Lib.hid (fun (w' : World) (h : Chg Nil w w') (y : ByteArray) (hy : y.size ≤ 900) => progBase_any (HT.out.chg h) d y (by omega) hy)
    have HR := Lib.hid (fun (w' : World) (h : Chg Nil w w') (y : ByteArray) (hy : y.size ≤ 900) => refBase_any (HT.out.chg h) d y (by omega) hy)
    simp only [← bases_eq] at HR
    clear hx hT hd hn
    by_cases hb : 0 ≤ base ∧ base ≤ 1099511627776
    · obtain ⟨n, rfl⟩ : ∃ n : Nat, base = n := ⟨base.toNat, by omega⟩
      have hn9 : n ≤ 1099511627776 := by omega
      have hb0 : (0 : Int) ≤ (n : Int) := by omega
      have hb1 : (n : Int) ≤ 1099511627776 := by omega
      clear hb
      obtain ⟨q, hq⟩ : ∃ q : ByteArray, ByteArray.mk (segName d.data.toList n).toArray = q := ⟨_, rfl⟩
      have hqs : q.size ≤ 900 := by
        rw [← hq, ← list_size]
        have := pad_len hn9
        have := list_size d
        simp [segName, dotlog]
        omega
      have HQB : Hid (progBase d.data.toList q.data.toList = n) := by
        unfold Hid
        rw [← hq]
        exact prog_hit _ hn9
      have HN1 := Lib.hid (name_any HT.out d n (by omega) hn9)
      have HN2 := Lib.hid (fun (w' : World) (h : Chg Nil w w') => refName_any (HT.out.chg h) d n (by omega) hn9)
      rw [hq] at HN1 HN2
      clear hq
      go_enter Tryd.func3, Tryd.ntmps3
      go_wp2_with fail
      refine HN1.out.mono ?_
      rintro e w1 ⟨rfl, hc1⟩
      go_wp2_with fail
      refine (HN2.out w1 hc1).mono ?_
      rintro e w2 ⟨rfl, hc2⟩
      have HC2 := Lib.hid (hc1.trans hc2 (fun _ h => h.elim))
      clear hc1 hc2
      go_wp2_with fail
      refine (HN2.out w2 HC2.out).mono ?_
      rintro e w3 ⟨rfl, hc3⟩
      have HC3 := Lib.hid (HC2.out.trans hc3 (fun _ h => h.elim))
      clear hc3 HC2
      go_wp2_with fail
      refine (HP.out _ HC3.out q hqs).mono ?_
      rintro e w4 ⟨rfl, hc4⟩
      have HC9 := Lib.hid (HC3.out.trans hc4 (fun _ h => h.elim))
      rw [HQB.out]
      clear hc4 HC3 HQB
      go_wp2_with fail
      refine (HP.out _ HC9.out nm (by omega)).mono ?_
      rintro e w5 ⟨rfl, hc5⟩
      have HC5 := Lib.hid (HC9.out.trans hc5 (fun _ h => h.elim))
      clear hc5 HC9
      go_wp2_with fail
      refine (HR.out _ HC5.out nm (by omega)).mono ?_
      rintro e w6 ⟨rfl, hc6⟩
      have HC6 := Lib.hid (HC5.out.trans hc6 (fun _ h => h.elim))
      clear hc6 HC5
      generalize progBase d.data.toList nm.data.toList = y1
      go_wp2_with fail
      rw [HX.out]
      refine (HP.out _ HC6.out x hxs).mono ?_
      rintro e w7 ⟨rfl, hc7⟩
      have HC7 := Lib.hid (HC6.out.trans hc7 (fun _ h => h.elim))
      clear hc7 HC6
      go_wp2_with fail
      rw [HX.out]
      refine (HR.out _ HC7.out x hxs).mono ?_
      rintro e w8 ⟨rfl, hc8⟩
      have HC8 := Lib.hid (HC7.out.trans hc8 (fun _ h => h.elim))
      clear hc8 HC7
      generalize progBase d.data.toList x.data.toList = y2
      go_wp2_with fail
      go_ret
      exact ⟨rfl, HC8.out⟩
    · have hbd : decide ((0 : Int) ≤ base ∧ base ≤ 1099511627776) = false := decide_eq_false hb
      have HC9 := Lib.hid (Chg.refl Nil w)
      go_enter Tryd.func3, Tryd.ntmps3
      by_cases hb0 : 0 ≤ base
      · have hb1 : ¬ base ≤ 1099511627776 := fun h => hb ⟨hb0, h⟩
        clear hb hbd
        go_wp2_with fail
        refine (HP.out _ HC9.out nm (by omega)).mono ?_
        rintro e w5 ⟨rfl, hc5⟩
        have HC5 := Lib.hid (HC9.out.trans hc5 (fun _ h => h.elim))
        clear hc5 HC9
        go_wp2_with fail
        refine (HR.out _ HC5.out nm (by omega)).mono ?_
        rintro e w6 ⟨rfl, hc6⟩
        have HC6 := Lib.hid (HC5.out.trans hc6 (fun _ h => h.elim))
        clear hc6 HC5
        generalize progBase d.data.toList nm.data.toList = y1
        go_wp2_with fail
        rw [HX.out]
        refine (HP.out _ HC6.out x hxs).mono ?_
        rintro e w7 ⟨rfl, hc7⟩
        have HC7 := Lib.hid (HC6.out.trans hc7 (fun _ h => h.elim))
        clear hc7 HC6
        go_wp2_with fail
        rw [HX.out]
        refine (HR.out _ HC7.out x hxs).mono ?_
        rintro e w8 ⟨rfl, hc8⟩
        have HC8 := Lib.hid (HC7.out.trans hc8 (fun _ h => h.elim))
        clear hc8 HC7
        generalize progBase d.data.toList x.data.toList = y2
        go_wp2_with fail
        go_ret
        exact ⟨rfl, HC8.out⟩
      · clear hb hbd
        go_wp2_with fail
        refine (HP.out _ HC9.out nm (by omega)).mono ?_
        rintro e w5 ⟨rfl, hc5⟩
        have HC5 := Lib.hid (HC9.out.trans hc5 (fun _ h => h.elim))
        clear hc5 HC9
        go_wp2_with fail
        refine (HR.out _ HC5.out nm (by omega)).mono ?_
        rintro e w6 ⟨rfl, hc6⟩
        have HC6 := Lib.hid (HC5.out.trans hc6 (fun _ h => h.elim))
        clear hc6 HC5
        generalize progBase d.data.toList nm.data.toList = y1
        go_wp2_with fail
        rw [HX.out]
        refine (HP.out _ HC6.out x hxs).mono ?_
        rintro e w7 ⟨rfl, hc7⟩
        have HC7 := Lib.hid (HC6.out.trans hc7 (fun _ h => h.elim))
        clear hc7 HC6
        go_wp2_with fail
        rw [HX.out]
        refine (HR.out _ HC7.out x hxs).mono ?_
        rintro e w8 ⟨rfl, hc8⟩
        have HC8 := Lib.hid (HC7.out.trans hc8 (fun _ h => h.elim))
        clear hc8 HC7
        generalize progBase d.data.toList x.data.toList = y2
        go_wp2_with fail
        go_ret
        exact ⟨rfl, HC8.out⟩
end Go.Proofs.YtimbbdlngmkjbaaDoor
