/-
  The walk of the law RecordNumbers.
-/
import Derived.Test.YtaipjojigaeejaaGetW
namespace Go.Proofs.Ytaipjojigaeejaa
open Go.RowKit

theorem cat_one (c : UInt8) (l : List UInt8) : ({ data := #[c] } : ByteArray) ++ { data := l.toArray } = { data := (c :: l).toArray } := by
  rw [ByteArray.ext_iff]
  simp

set_option maxRecDepth 100000 in
theorem recordNumbers_walk (n : Int) (a : Option Addr) (l : List UInt8) (cap : Nat) (w : World) (hl : l.length ≤ maxLen) (hcap : l.length ≤ cap) (hc : BytesAt w a l) :
    Calls Try.prog 4 #[.int .i64 n, .slice a l.length cap] w fun e w' => e = .returned (.bool true) ∧ Chg Nil w w' := by
  have HL := Lib.hid hl
  have HP := Lib.hid hcap
  have HC := Lib.hid hc
  clear hl hcap hc
  by_cases h0 : n < 0
  · have hd : decide (n < (0 : Int)) = true := by simpa using h0
    go_enter Try.func4, Try.ntmps4
    go_wp2_with (first | (go_at_call 8; refine (get_any _ _ _ _ HL.out HC.out).mono ?_; rintro e w1 ⟨rfl, rfl⟩) | (go_at_call 9; refine (refGet_any _ _ _ _ HL.out HP.out HC.out).mono ?_; rintro e w1 ⟨rfl, hw1⟩))
    refine wp_region_mono _ (Chg Nil) (by kernel_rfl) (fun _ _ _ h k => h.trans k (fun _ h => h.elim)) [[], [0], [1], [2], [2, 3], [2, 4], [5], [6], [6], [6, 7, 8], [6, 9], [6], [6, 11], [6, 12], [6, 13], [6, 10, 14], [6, 15], [16]] rfl (by kernel_rfl) (Chg.refl _ _).drew ?_
    iterate 18 ((with_reducible apply Walk.eq); case h => (intro w2 hw2 N hN; simp only [depsOf, List.filterMap_nil, List.filterMap_cons, List.getElem?_toArray, List.getElem?_cons_zero, List.getElem?_cons_succ, Option.bind_some, List.nil_append, List.cons_append, Ob]; go_simp; (try go_bits); with_reducible exact hN _ (Chg.refl _ _)))
    intro w2 hw2
    simp only [List.nil_append, List.cons_append, Fin]
    go_simp
    go_wp2
    go_ret
    exact ⟨rfl, hw1.trans hw2 (fun _ h => h.elim)⟩
  · by_cases h1 : 1099511627776 < n
    · have hd : decide (n < (0 : Int)) = false := by simpa using h0
      have hd1 : decide ((1099511627776 : Int) < n) = true := by simpa using h1
      go_enter Try.func4, Try.ntmps4
      go_wp2_with (first | (go_at_call 8; refine (get_any _ _ _ _ HL.out HC.out).mono ?_; rintro e w1 ⟨rfl, rfl⟩) | (go_at_call 9; refine (refGet_any _ _ _ _ HL.out HP.out HC.out).mono ?_; rintro e w1 ⟨rfl, hw1⟩))
      refine wp_region_mono _ (Chg Nil) (by kernel_rfl) (fun _ _ _ h k => h.trans k (fun _ h => h.elim)) [[], [0], [1], [2], [2, 3], [2, 4], [5], [6], [6], [6, 7, 8], [6, 9], [6], [6, 11], [6, 12], [6, 13], [6, 10, 14], [6, 15], [16]] rfl (by kernel_rfl) (Chg.refl _ _).drew ?_
      iterate 18 ((with_reducible apply Walk.eq); case h => (intro w2 hw2 N hN; simp only [depsOf, List.filterMap_nil, List.filterMap_cons, List.getElem?_toArray, List.getElem?_cons_zero, List.getElem?_cons_succ, Option.bind_some, List.nil_append, List.cons_append, Ob]; go_simp; (try go_bits); with_reducible exact hN _ (Chg.refl _ _)))
      intro w2 hw2
      simp only [List.nil_append, List.cons_append, Fin]
      go_simp
      go_wp2
      go_ret
      exact ⟨rfl, hw1.trans hw2 (fun _ h => h.elim)⟩
    · obtain ⟨m, rfl⟩ := Int.eq_ofNat_of_zero_le (show 0 ≤ n by omega)
      have hd : decide ((m : Int) < (0 : Int)) = false := by simp
      have hd1 : decide ((1099511627776 : Int) < (m : Int)) = false := by simpa using h1
      have hm : m ≤ 1099511627776 := by omega
      clear h0 h1
      have hlen : (put m).length ≤ 6 := put_length (k := 5) (by omega)
      obtain ⟨q, hq⟩ : ∃ q, [9] ++ put m = q := ⟨_, rfl⟩
      have HQ := Lib.hid hq
      clear hq
      go_enter Try.func4, Try.ntmps4
      go_wp2_with (first | (go_at_call 8; refine (get_any _ _ _ _ HL.out HC.out).mono ?_; rintro e w1 ⟨rfl, rfl⟩) | (go_at_call 9; refine (refGet_any _ _ _ _ HL.out HP.out HC.out).mono ?_; rintro e w1 ⟨rfl, hw1⟩))
      refine wp_region_mono _ (Chg Nil) (by kernel_rfl) (fun _ _ _ h k => h.trans k (fun _ h => h.elim)) [[], [0], [1], [2], [2, 3], [2, 4], [5], [6], [6], [6, 7, 8], [6, 9], [6], [6, 11], [6, 12], [6, 13], [6, 10, 14], [6, 15], [16]] rfl (by kernel_rfl) (Chg.refl _ _).drew ?_
      iterate 7 ((with_reducible apply Walk.eq); case h => (intro w2 hw2 N hN; simp only [depsOf, List.filterMap_nil, List.filterMap_cons, List.getElem?_toArray, List.getElem?_cons_zero, List.getElem?_cons_succ, Option.bind_some, List.nil_append, List.cons_append, Ob]; go_simp; (try go_bits); with_reducible exact hN _ (Chg.refl _ _)))
      refine Walk.sat (fun v w => OwnB 5 w v [9] ∧ ∃ x, v = .slice x 1 1) (fun _ _ _ h k => ⟨h.1.chg k (fun _ _ h => h), h.2⟩) rfl ?_ ?_
      · intro w2 hw2 N hN
        simp only [depsOf, List.filterMap_nil, List.filterMap_cons, List.getElem?_toArray, List.getElem?_cons_zero, List.getElem?_cons_succ, Option.bind_some, List.nil_append, List.cons_append, Ob]
        go_simp
        exact hN _ _ ⟨OwnB.one_new 9 rfl, _, rfl⟩ ((Chg.refl _ _).alloc _)
      ((with_reducible apply Walk.eq); case h => (intro w2 hw2 N hN; simp only [depsOf, List.filterMap_nil, List.filterMap_cons, List.getElem?_toArray, List.getElem?_cons_zero, List.getElem?_cons_succ, Option.bind_some, List.nil_append, List.cons_append, Ob]; go_simp; (try go_bits); with_reducible exact hN _ (Chg.refl _ _)))
      refine Walk.sat (IsB q) (fun _ _ _ h k => h.chg k) rfl ?_ ?_
      · intro w2 hw2 N hN
        simp only [depsOf, List.filterMap_nil, List.filterMap_cons, List.getElem?_toArray, List.getElem?_cons_zero, List.getElem?_cons_succ, Option.bind_some, List.nil_append, List.cons_append, Ob]
        rintro v ⟨hown, x, rfl⟩
        go_simp
        refine (put_any _ [9] m w2 hm (by simp) hown).mono ?_
        rintro e w3 ⟨v, rfl, hown2, hg⟩
        exact ⟨v, rfl, hN v w3 (by rw [← HQ.out]; exact hown2.isB) (hg.full rfl).1⟩
      with_reducible apply Walk.eq
      case h =>
        intro w2 hw2 N hN
        simp only [depsOf, List.filterMap_nil, List.filterMap_cons, List.getElem?_toArray, List.getElem?_cons_zero, List.getElem?_cons_succ, Option.bind_some, List.nil_append, List.cons_append, Ob]
        rintro v ⟨a1, cap1, rfl, hb1⟩
        have hcv := conv_bytes (dst := 9) Try.underlying22 Try.underlying5 Try.underlying9 hb1 cap1
        go_simp
        exact hN _ (Chg.refl _ _)
      ((with_reducible apply Walk.eq); case h => (intro w2 hw2 N hN; simp only [depsOf, List.filterMap_nil, List.filterMap_cons, List.getElem?_toArray, List.getElem?_cons_zero, List.getElem?_cons_succ, Option.bind_some, List.nil_append, List.cons_append, Ob]; go_simp; (try go_bits); with_reducible exact hN _ (Chg.refl _ _)))
      refine Walk.sat (IsB (put m)) (fun _ _ _ h k => h.chg k) rfl ?_ ?_
      · intro w2 hw2 N hN
        simp only [depsOf, List.filterMap_nil, List.filterMap_cons, List.getElem?_toArray, List.getElem?_cons_zero, List.getElem?_cons_succ, Option.bind_some, List.nil_append, List.cons_append, Ob]
        go_simp
        refine (refPut_any 5 m w2 (by omega) hm).mono ?_
        rintro e w3 ⟨v, rfl, hown, hchg, _⟩
        exact ⟨v, rfl, hN v w3 hown.isB hchg⟩
      with_reducible apply Walk.eq
      case h =>
        intro w2 hw2 N hN
        simp only [depsOf, List.filterMap_nil, List.filterMap_cons, List.getElem?_toArray, List.getElem?_cons_zero, List.getElem?_cons_succ, Option.bind_some, List.nil_append, List.cons_append, Ob]
        rintro v ⟨a1, cap1, rfl, hb1⟩
        have hcv := conv_bytes (dst := 9) Try.underlying22 Try.underlying5 Try.underlying9 hb1 cap1
        go_simp
        exact hN _ (Chg.refl _ _)
      with_reducible apply Walk.eq
      case h =>
        intro w2 hw2 N hN
        have hno : ¬ 9223372036854775807 < 1 + (put m).length := by omega
        simp only [depsOf, List.filterMap_nil, List.filterMap_cons, List.getElem?_toArray, List.getElem?_cons_zero, List.getElem?_cons_succ, Option.bind_some, List.nil_append, List.cons_append, Ob]
        go_simp
        rw [cat_one 9 (put m), show (9 :: put m) = q from HQ.out]
        exact hN _ (Chg.refl _ _)
      iterate 3 ((with_reducible apply Walk.eq); case h => (intro w2 hw2 N hN; simp only [depsOf, List.filterMap_nil, List.filterMap_cons, List.getElem?_toArray, List.getElem?_cons_zero, List.getElem?_cons_succ, Option.bind_some, List.nil_append, List.cons_append, Ob]; go_simp; (try go_bits); with_reducible exact hN _ (Chg.refl _ _)))
      intro w2 hw2
      simp only [List.nil_append, List.cons_append, Fin]
      intro v1 _ v2 _ v3 _
      go_simp
      go_wp2
      go_ret
      exact ⟨rfl, hw1.trans hw2 (fun _ h => h.elim)⟩
end Go.Proofs.Ytaipjojigaeejaa
