/-
  The walks of sameInts and turned.
-/
import Derived.Test.YtdahefphohkhlaaWhAdvW
import Derived.Test.YtdahefphohkhlaaWhAddW
import Derived.Test.YtdahefphohkhlaaWhZeroW
set_option linter.unusedSimpArgs false
set_option linter.unusedVariables false
namespace Go.Proofs.Ytdahefphohkhlaa
open Go.RowKit Go.Maps

theorem take_eq {l m : List Int} {i : Nat} (h : l.take i = m.take i) (hl : i < l.length) (hm : i < m.length) (e : l[i] = m[i]) : l.take (i + 1) = m.take (i + 1) := by
  rw [List.take_succ_eq_append_getElem hl, List.take_succ_eq_append_getElem hm, h, e]

set_option maxHeartbeats 1000000 in
set_option maxRecDepth 100000 in
theorem sameInts_any (a b : Option Addr) (l m : List Int) (c d : Nat) (w : World) (hl : l.length ≤ 1000000) (hm : m.length ≤ 1000000) (ha : IntsAt w a l) (hb : IntsAt w b m) :
    Calls Try.prog 13 #[.slice a l.length c, .slice b m.length d] w fun e w' => e = .returned (.bool (decide (l = m))) ∧ Chg Nil w w' := by
  have HA := Lib.hid ha
  have HB := Lib.hid hb
  clear ha hb
  go_enter Try.func13, Try.ntmps13
  by_cases hlm : l.length = m.length
  · have hli : (l.length : Int) = (m.length : Int) := by omega
    go_wp2_with fail
    go_loopw [5] (fun i wr => ∃ (wq : World) (k : Nat), wq = wr ∧ k ≤ l.length ∧ i = .int .i64 k ∧ Chg Nil w wr ∧ Hid (l.take k = m.take k)) (fun i _ => l.length - (RowKit.intOf i).toNat)
    case atStart => exact ⟨_, 0, rfl, by omega, rfl, Chg.refl _ _, rfl⟩
    case round =>
      obtain ⟨wr, k, rfl, hk, rfl, hc, HT⟩ := hrel
      by_cases hkl : k < l.length
      · have hki : (k : Int) < (l.length : Int) := by omega
        have hkm : (k : Int) < (m.length : Int) := by omega
        have hkm' : k < m.length := by omega
        obtain ⟨b1, o1, rfl, h1⟩ := HA.out k hkl
        obtain ⟨b2, o2, rfl, h2⟩ := HB.out k hkm'
        have y1 := hc.cell h1 (fun h => h)
        have y2 := hc.cell h2 (fun h => h)
        simp only [ival] at y1 y2
        have HLA : Hid (l[k] = l[k]) := rfl
        obtain ⟨x, hx⟩ : ∃ x, x = l[k] := ⟨_, rfl⟩
        obtain ⟨y, hy⟩ : ∃ y, y = m[k] := ⟨_, rfl⟩
        rw [← hx] at y1
        rw [← hy] at y2
        have HX := Lib.hid hx
        have HY := Lib.hid hy
        clear h1 h2 hx hy
        by_cases hxy : x = y
        · go_upto_region 6 with fail
          go_quiet (fail)
          go_wp2_with fail
          go_roundw
          case rel => exact ⟨_, k + 1, rfl, by omega, by go_num, hc.drewN _, take_eq HT.out hkl hkm' (by rw [← HX.out, ← HY.out, hxy])⟩
          case measure => simp [RowKit.intOf]; omega
        · go_upto_region 6 with fail
          go_quiet (fail)
          go_wp2_with fail
          go_ret
          refine ⟨?_, hc.drewN _⟩
          have : ¬ l = m := fun e => by subst e; exact hxy (by rw [HX.out, HY.out])
          simp [this]
      · have hki : ¬ (k : Int) < (l.length : Int) := by omega
        obtain rfl : k = l.length := by omega
        go_wp2_with fail
        go_ret
        refine ⟨?_, hc⟩
        have h := HT.out
        rw [List.take_length, hlm, List.take_length] at h
        simp [h]
  · have hli : ¬ (l.length : Int) = (m.length : Int) := by omega
    go_wp2_with fail
    go_ret
    have : ¬ l = m := fun e => hlm (by rw [e])
    exact ⟨by simp [this], Chg.refl _ _⟩

theorem turned_sorted {S : List Tm} (hp : List.Perm S [⟨5, 1, 1⟩, ⟨3, 2, 2⟩]) (hs : S.Pairwise (fun x y => ¬ ltT y x)) : S.map Tm.id = [2, 1] := by
  have hl := hp.length_eq
  rcases S with _ | ⟨a, _ | ⟨b, _ | ⟨c, t⟩⟩⟩
  · simp at hl
  · simp at hl
  · have h1 : ¬ ltT b a := by simpa using hs
    have ha := hp.mem_iff (a := a)
    have hb := hp.mem_iff (a := b)
    simp at ha hb
    rcases ha with rfl | rfl <;> rcases hb with rfl | rfl
    · have := hp.mem_iff (a := (⟨3, 2, 2⟩ : Tm)); simp at this
    · exact absurd (Or.inl (by decide)) h1
    · rfl
    · have := hp.mem_iff (a := (⟨5, 1, 1⟩ : Tm)); simp at this
  · simp at hl

set_option maxHeartbeats 4000000 in
set_option maxRecDepth 100000 in
theorem turned_any (w : World) : Calls Try.prog 7 #[] w fun e w' => e = .returned (.bool true) ∧ Chg Nil w w' := by
  have hz := zeroWheel
  have HN := Lib.hid (Wl.new w)
  have hal := (Chg.refl Nil w).alloc (.cells zcells 28)
  have HAL := Lib.hid hal
  clear hal
  go_enter Try.func7, Try.ntmps7
  go_upto_region 2 with fail
  clear hz
  obtain ⟨p, hp⟩ : ∃ p, p = w.heap.size := ⟨_, rfl⟩
  have HPS := Lib.hid hp
  rw [← hp] at HN
  rw [← hp]
  clear hp
  generalize w.alloc (.cells zcells 28) = w0 at *
  have H1 : Hid (Calls Try.prog 4 #[.pointer (some ⟨p, 0, none⟩), .int .i64 5, .int .i64 1] w0 fun e w' => e = .returned .nilIface ∧ AddPost w0 p (putS ⟨0, fun _ => []⟩ ⟨5, 1, 1⟩) [1] 1 (fun _ => .slice none 0 0) none w') :=
    add_ok HN.out 5 1 (by omega) (by decide) (by simp) (by simp) (by omega) (fun j _ => by simp)
  go_wp2_with fail
  refine H1.out.mono ?_
  rintro e w1 ⟨rfl, sv1, mb1, hw1, hc1, hh1⟩
  have HW1 := Lib.hid hw1
  have HC1 := Lib.hid hc1
  have HH1 := Lib.hid hh1
  have HI1 : Hid (InvK 7 (putS ⟨0, fun _ => []⟩ ⟨5, 1, 1⟩)) := putS_inv inv_new (by decide)
  have HP1 : Hid (List.Perm (allT (putS ⟨0, fun _ => []⟩ ⟨5, 1, 1⟩).sl 449) [⟨5, 1, 1⟩]) := by
    have := putS_all ⟨0, fun _ => []⟩ ⟨5, 1, 1⟩
    rwa [all_new] at this
  have HNW1 : Hid ((putS ⟨0, fun _ => []⟩ ⟨5, 1, 1⟩).now = 0) := rfl
  clear hw1 hc1 hh1 H1 HN
  generalize putS ⟨0, fun _ => []⟩ ⟨5, 1, 1⟩ = s1 at *
  have H2 : Hid (Calls Try.prog 4 #[.pointer (some ⟨p, 0, none⟩), .int .i64 3, .int .i64 2] w1 fun e w' => e = .returned .nilIface ∧ AddPost w1 p (putS s1 ⟨3, 2, 2⟩) [1, 2] 2 sv1 mb1 w') :=
    add_ok HW1.out 3 2 (by omega) (by decide) (by simp) (by simp) (by omega) (fun j hj => by have := row_le (f := s1.sl) hj; have := HP1.out.length_eq; simp at this; omega)
  go_wp2_with fail
  refine H2.out.mono ?_
  rintro e w2 ⟨rfl, sv2, mb2, hw2, hc2, hh2⟩
  have HW2 := Lib.hid hw2
  have HC2 := Lib.hid (HC1.out.trans hc2 HH1.out)
  have HH2 : Hid (∀ i, Has p sv2 mb2 i → Has p (fun _ => .slice none 0 0) none i ∨ w0.heap.size ≤ i) := fun i hi => by
    rcases hh2 i hi with g | g
    · exact HH1.out i g
    · exact .inr (by have := HC1.out.size; omega)
  have HI2 : Hid (InvK 7 (putS s1 ⟨3, 2, 2⟩)) := putS_inv HI1.out (by decide)
  have HP2 : Hid (List.Perm (allT (putS s1 ⟨3, 2, 2⟩).sl 449) [⟨5, 1, 1⟩, ⟨3, 2, 2⟩]) := ((putS_all s1 ⟨3, 2, 2⟩).trans (HP1.out.cons _)).trans (List.Perm.swap _ _ _)
  have HNW2 : Hid ((putS s1 ⟨3, 2, 2⟩).now = 0) := HNW1.out
  clear hw2 hc2 hh2 H2 HW1 HC1 HH1 HI1 HP1 HNW1
  generalize putS s1 ⟨3, 2, 2⟩ = s2 at *
  have H3 : Hid (Calls Try.prog 6 #[.pointer (some ⟨p, 0, none⟩), .int .i64 9] w2 (AdvPost w2 p [⟨5, 1, 1⟩, ⟨3, 2, 2⟩] 2 sv2 mb2 9)) :=
    adv_any HW2.out HI2.out [⟨5, 1, 1⟩, ⟨3, 2, 2⟩] HP2.out (by simp) (List.Perm.refl _) (by simp) (by simp; decide) 9 (by rw [HNW2.out]; omega) (by omega)
  go_wp2_with fail
  refine H3.out.mono ?_
  rintro e w3 ⟨S, hS, hso, v, rfl, hown, s3, sv3, ids3, hw3, _, _, _, hids, hc3, hh3, _⟩
  have hS' : S.map Tm.id = [2, 1] := turned_sorted (hS.trans (by decide)) hso
  have hi3 : ids3 = [] := by
    have := hids.length_eq
    simp at this
    exact this
  subst hi3
  rw [hS'] at hown
  obtain ⟨a, c, rfl, hia, _⟩ := hown.val
  have HIA := Lib.hid hia
  have HW3 := Lib.hid hw3
  have HC3 := Lib.hid (HC2.out.trans hc3 HH2.out)
  clear hS hso hown hw3 hids hc3 hh3 hS' H3 HW2 HC2 HH2 HI2 HP2 HNW2 hia
  have hal := (Chg.refl Nil w3).alloc (.cells #[.int .i64 2, .int .i64 1] 3)
  have HSM := Lib.hid (sameInts_any a (some ⟨w3.heap.size, 0, none⟩) [2, 1] [2, 1] c 2 (w3.alloc (.cells #[.int .i64 2, .int .i64 1] 3)) (by simp) (by simp) (HIA.out.chg hal (fun _ _ h => h)) (fun i hi => by
    have hg : (w3.alloc (.cells #[.int .i64 2, .int .i64 1] 3)).heap[w3.heap.size]? = _ := heap_alloc_new w3 _
    refine ⟨w3.heap.size, 0, rfl, ?_⟩
    rw [cell_of_row _ w3.heap.size _ _ _ (0, 0) hg]
    rcases i with _ | _ | i
    · rfl
    · rfl
    · simp at hi; omega))
  simp only [List.length_cons, List.length_nil, Nat.zero_add, Nat.reduceAdd, decide_true] at HSM ⊢
  go_wp2_with fail
  refine HSM.out.mono ?_
  rintro e w4 ⟨rfl, hc4⟩
  have HW4 := Lib.hid ((HW3.out.chg hal (fun _ _ h => h)).chg hc4 (fun _ _ h => h))
  have HC4 := Lib.hid ((HC3.out.trans hal (fun _ h => h.elim)).trans hc4 (fun _ h => h.elim))
  clear hal hc4 HSM
  go_wp2_with fail
  refine (many_any HW4.out).mono ?_
  rintro e w5 ⟨rfl, hw5⟩
  subst hw5
  go_wp2_with fail
  go_ret
  refine ⟨rfl, (HAL.out.trans HC4.out ?_)⟩
  rintro i (h | h | ⟨j, _, h⟩)
  · exact .inr (by rw [h, HPS.out]; exact Nat.le_refl _)
  · cases h
  · simp [Value.ownBlock] at h
end Go.Proofs.Ytdahefphohkhlaa
