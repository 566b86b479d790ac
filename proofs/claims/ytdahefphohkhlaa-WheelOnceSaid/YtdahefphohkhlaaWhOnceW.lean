/-
  The walk of WheelOnce.
-/
import Derived.Test.YtdahefphohkhlaaWhOnceL
set_option linter.unusedSimpArgs false
set_option linter.unusedVariables false
namespace Go.Proofs.Ytdahefphohkhlaa
open Go.RowKit Go.Maps

set_option maxHeartbeats 8000000 in
set_option maxRecDepth 100000 in
theorem wheelOnce_in (ta sa : Option Addr) (times steps : List Int) (tc sc : Nat) (w : World) (htl : times.length ≤ 100) (hsl : steps.length ≤ 60) (hti : IntsAt w ta times) (hst : IntsAt w sa steps) :
    Calls Try.prog 3 #[.slice ta times.length tc, .slice sa steps.length sc] w fun e w' => e = .returned (.bool true) ∧ Chg Nil w w' := by
  have h100 : ¬ (100 : Int) < (times.length : Int) := by omega
  have htl1 : times.length ≤ 1000000 := by omega
  have h60 : ¬ (60 : Int) < (steps.length : Int) := by omega
  have HTI := Lib.hid hti
  have HST := Lib.hid hst
  clear hti hst
  have hz := zeroWheel
  have HNEW := Lib.hid (Wl.new w)
  have hal := (Chg.refl Nil w).alloc (.cells zcells 28)
  have HAL := Lib.hid hal
  clear hal
  go_enter Try.func3, Try.ntmps3
  go_upto_region 4 with fail
  clear hz h100 h60
  obtain ⟨p, hp⟩ : ∃ p, p = w.heap.size := ⟨_, rfl⟩
  have HPS := Lib.hid hp
  rw [← hp] at HNEW
  rw [← hp]
  clear hp
  generalize w.alloc (.cells zcells 28) = w0 at *
  go_wp2_with fail
  go_loopw [6] (fun i wr => ∃ (wq : World) (k : Nat) (s : Wh) (sv : Nat → Value) (mb : Option Nat), wq = wr ∧ k ≤ times.length ∧ i = .int .i64 k ∧ Wl wr p s ((tmsOf times k).map Tm.id) k sv mb ∧ InvK 7 s ∧ s.now = 0 ∧ List.Perm (allT s.sl 449) (tmsOf times k) ∧ Chg Nil w wr ∧ ∀ i, Has p sv mb i → w.heap.size ≤ i) (fun i _ => times.length - (RowKit.intOf i).toNat)
  case atStart =>
    refine ⟨_, 0, _, _, _, rfl, by omega, rfl, HNEW.out, inv_new, rfl, by rw [all_new]; exact List.Perm.refl _, HAL.out, ?_⟩
    rintro i (h | h | ⟨j, _, h⟩)
    · rw [h, HPS.out]; exact Nat.le_refl _
    · cases h
    · simp [Value.ownBlock] at h
  case round =>
    obtain ⟨wr, k, s, sv, mb, rfl, hk, rfl, hw1, hi1, hn1, hp1, hc1, hh1⟩ := hrel
    have HW1 := Lib.hid hw1
    have HI1 := Lib.hid hi1
    have HN1 := Lib.hid hn1
    have HP1 := Lib.hid hp1
    have HC1 := Lib.hid hc1
    have HH1 := Lib.hid hh1
    clear hw1 hi1 hn1 hp1 hc1 hh1 HNEW HAL
    by_cases hkl : k < times.length
    · have hki : (k : Int) < (times.length : Int) := by omega
      obtain ⟨b, off, rfl, hcell⟩ := HTI.out k hkl
      have y1 := HC1.out.cell hcell (fun h => h)
      simp only [ival] at y1
      have HGD : Hid (times.getD k 0 = times[k]) := by unfold Hid; rw [List.getD_eq_getElem?_getD, List.getElem?_eq_getElem hkl]; rfl
      clear hcell
      obtain ⟨x, hx⟩ : ∃ x, x = times[k] := ⟨_, rfl⟩
      rw [← hx] at y1 HGD
      clear hx
      go_wp2_with fail
      refine (pickM_any x wr).mono ?_
      rintro e wy ⟨rfl, rfl⟩
      have hnew : (k : Int) ∉ (tmsOf times k).map Tm.id := fun h => by
        obtain ⟨t, ht, he⟩ := List.mem_map.1 h
        obtain ⟨j, hj, rfl⟩ := tmsOf_mem ht
        simp [tmOf] at he
        omega
      have HADD := Lib.hid (add_ok HW1.out (pickM x) (k : Int) (pickM_le x) (WalkArith.wf_i64 (by omega)) hnew (by rw [List.length_map, tmsOf_len]; omega) (by omega) (fun j hj => by have := row_le (f := s.sl) hj; have := HP1.out.length_eq; rw [tmsOf_len] at this; omega))
      have HTM : Hid (tmOf times k = ⟨pickM x, k, k + 1⟩) := by unfold Hid tmOf; rw [HGD.out]
      clear hnew
      go_wp2_with fail
      refine HADD.out.mono ?_
      rintro e w2 ⟨rfl, sv2, mb2, hw2, hc2, hh2⟩
      have HW2 := Lib.hid hw2
      have HI2 : Hid (InvK 7 (putS s ⟨pickM x, k, k + 1⟩)) := putS_inv HI1.out (pickM_le x)
      have HP2 : Hid (List.Perm (allT (putS s ⟨pickM x, k, k + 1⟩).sl 449) (tmsOf times (k + 1))) := by
        unfold Hid
        rw [tmsOf_snoc, HTM.out]
        exact ((putS_all s _).trans (HP1.out.cons _)).trans (List.perm_append_singleton _ _).symm
      have HN2 : Hid ((putS s ⟨pickM x, k, k + 1⟩).now = 0) := HN1.out
      have HC2 := Lib.hid (HC1.out.trans hc2 (fun i h => .inr (HH1.out i h)))
      have HH2 : Hid (∀ i, Has p sv2 mb2 i → w.heap.size ≤ i) := fun i hi => by
        rcases hh2 i hi with g | g
        · exact HH1.out i g
        · have := HC1.out.size; omega
      have HID : Hid ((tmsOf times (k + 1)).map Tm.id = (tmsOf times k).map Tm.id ++ [(k : Int)]) := by unfold Hid; rw [tmsOf_snoc, List.map_append, HTM.out]; rfl
      clear hw2 hc2 hh2 HADD HW1 HI1 HP1 HC1 HH1 HN1 y1
      generalize putS s ⟨pickM x, k, k + 1⟩ = s2 at *
      go_wp2_with fail
      go_roundw
      case rel => exact ⟨_, k + 1, s2, sv2, mb2, rfl, by omega, by go_num, by rw [HID.out]; exact HW2.out, HI2.out, HN2.out, HP2.out, HC2.out, HH2.out⟩
      case measure => simp [RowKit.intOf]; omega
    · have hki : ¬ (k : Int) < (times.length : Int) := by omega
      obtain rfl : k = times.length := by omega
      go_upto_region 9 with fail
      obtain ⟨wm, hmk, hcm, hzm, hbx⟩ := make_bools times.length wr htl1
      obtain ⟨g, hg⟩ : ∃ g, g = wr.heap.size := ⟨_, rfl⟩
      rw [← hg] at hmk hzm hbx
      have HG := Lib.hid hg
      have HW2 := Lib.hid (HW1.out.chg hcm (fun _ _ h => h))
      have HC2 := Lib.hid (HC1.out.trans hcm (fun _ h => .inl h))
      have HBX := Lib.hid hbx
      have hgh : ¬ Has p sv mb g := fun h => by have := HW1.out.lt g h; omega
      have HGH := Lib.hid hgh
      have HGW : Hid (w.heap.size ≤ g) := by unfold Hid; rw [hg]; exact HC1.out.size
      have HZM := Lib.hid hzm
      clear hg hcm hzm hbx hgh HW1 HC1
      go_upto_region 11 with fail
      clear hmk
      have hal := (Chg.refl Nil wm).alloc (.cells #[] 3)
      have HO0 : Hid ((wm.alloc (.cells #[] 3)).ownsRow 0 3 1 (.slice (some ⟨wm.heap.size, 0, none⟩) 0 0) 0 []) := ⟨rfl, .inr ⟨_, 0, #[], rfl, Nat.zero_le _, heap_alloc_new wm _, Nat.le_refl _, Nat.zero_le _, rfl, rfl⟩⟩
      have HS0 : Hid (IntsAt (wm.alloc (.cells #[] 3)) sa steps) := (HST.out.chg HC2.out (fun _ _ h => h)).chg hal (fun _ _ h => h)
      have h61 : steps.length + 1 ≤ 1000000 := by omega
      have H61 := Lib.hid h61
      clear h61
      go_wp2_with (first
        | (at_builtin; refine wpList_append_grew rfl (.tmp 44) (.tmp 45) 22 22 rfl intsT _ Try.underlying22 (by intro _; simp) _ 0 [] rfl HO0.out _ steps.length (steps.map ival) rfl (Source.ints HS0.out) (by have := H61.out; unfold maxLen; omega) (by have := H61.out; omega) ?_; intro v5 w5 hown5 hg5 _; have HO5 := Lib.hid hown5; clear hown5)
        | (at_builtin; refine wpList_append_grew rfl (.tmp 46) (.tmp 47) 22 22 rfl intsT _ Try.underlying22 (by intro _; simp) v5 (0 + steps.length) ([] ++ steps.map ival) rfl (ownsRow_chg HO5.out ((Chg.refl Nil _).alloc _) (fun _ _ h => h)) _ 1 [ival 1099511627776] rfl (Source.box (Box.new _ [ival 1099511627776] _) rfl (by intro v hv; simp [ival] at hv; subst hv; rfl)) (by have := H61.out; unfold maxLen; omega) (by have := H61.out; omega) ?_; intro v6 w6 hown6 hg6 _; have HO6 := Lib.hid hown6; clear hown6))
      have hv5 : ∀ k, v5.ownBlock = some k → wm.heap.size ≤ k := by
        intro k hk
        rcases hg5.own k hk with h | h
        · have : wm.heap.size = k := Option.some.inj h
          omega
        · simp at h; omega
      have hg6' := hg6.alloc
      have hs5 : wm.heap.size ≤ w5.heap.size := by have := hg5.chg.size; simp at this; omega
      have hcN : Chg Nil wm w6 := (hal.trans (hg5.full rfl).1 (fun _ h => .inl h)).trans hg6'.chg (fun i hi => .inr (hv5 i hi))
      have hv6 : ∀ k, v6.ownBlock = some k → wm.heap.size ≤ k := fun k hk => by
        rcases hg6'.own k hk with h | h
        · exact hv5 k h
        · omega
      have hol : OwnI w6 v6 (steps ++ [1099511627776]) := by
        unfold OwnI
        have := HO6.out
        rw [List.length_append, List.map_append]
        simpa [ival] using this
      have HOL := Lib.hid hol
      obtain ⟨la, lc, rfl, _, _, _, _⟩ := hol.val
      have HLL : Hid ((steps ++ [1099511627776]).length = steps.length + 1) := by unfold Hid; simp
      have HLAST : Hid (∀ k, k < (steps ++ [1099511627776]).length → (1099511627776 : Int) = 1099511627776) := fun _ _ => rfl
      have HUL : Hid (∀ k, (Value.slice la (steps ++ [1099511627776]).length lc).ownBlock = some k → ¬ Has p sv mb k ∧ k ≠ g) := fun k hk => by
        have h1 := hv6 k hk
        have h2 := HZM.out
        refine ⟨fun hh => ?_, by omega⟩
        have := HW2.out.lt k hh
        omega
      have HW3 := Lib.hid (HW2.out.chg hcN (fun _ _ h => h))
      have HB3 := Lib.hid (HBX.out.chg hcN (fun h => h))
      have HC3 := Lib.hid (HC2.out.trans hcN (fun _ h => .inl h))
      have HTLD : Hid ((bools times.length fun _ => false) = bools times.length (toldK times 0 0)) := by
        unfold Hid bools toldK
        simp
      rw [HTLD.out] at HB3
      clear hal HO0 HS0 HO5 HO6 hg5 hg6 hg6' hv5 hv6 hs5 hcN hol HW2 HC2 HBX HTLD H61
      generalize hlst : steps ++ [1099511627776] = lst at *
      have HLST := Lib.hid hlst
      clear hlst HLAST
      go_loopw [10, 8] (fun ii nn wr => ∃ (wq : World) (i now : Nat) (s : Wh) (sv : Nat → Value) (mb : Option Nat) (ids : List Int), wq = wr ∧ i ≤ lst.length ∧ ii = .int .i64 i ∧ nn = .int .i64 now ∧ now ≤ 1099511627776 ∧ (i = lst.length → now = 1099511627776) ∧ Wl wr p s ids times.length sv mb ∧ s.now = now ∧ InvK 7 s ∧
        List.Perm (allT s.sl 449) (restOf times times.length i now) ∧ List.Perm ids ((restOf times times.length i now).map Tm.id) ∧ Chg Nil w wr ∧ (∀ i, Has p sv mb i → w.heap.size ≤ i) ∧ ¬ Has p sv mb g ∧ (∀ k, (Value.slice la lst.length lc).ownBlock = some k → ¬ Has p sv mb k ∧ k ≠ g) ∧
        Box wr g (bools times.length (toldK times i now)) 4 ∧ OwnI wr (.slice la lst.length lc) lst) (fun ii _ _ => lst.length - (RowKit.intOf ii).toNat)
      case atStart =>
        refine ⟨_, 0, 0, s, sv, mb, _, rfl, by omega, rfl, rfl, by omega, by have := HLL.out; omega, HW3.out, HN1.out, HI1.out, ?_, ?_, HC3.out, HH1.out, HGH.out, HUL.out, HB3.out, HOL.out⟩
        · exact HP1.out
        · exact List.Perm.refl _
      case round =>
        obtain ⟨wr, i, now, s, sv, mb, ids, rfl, hi, rfl, rfl, hnm, hlast, hw4, hn4, hi4, hp4, hid4, hc4, hh4, hg4, hu4, hb4, ho4⟩ := hrel
        have HW4 := Lib.hid hw4
        have HN4 := Lib.hid hn4
        have HI4 := Lib.hid hi4
        have HP4 := Lib.hid hp4
        have HD4 := Lib.hid hid4
        have HC4 := Lib.hid hc4
        have HH4 := Lib.hid hh4
        have HG4 := Lib.hid hg4
        have HU4 := Lib.hid hu4
        have HB4 := Lib.hid hb4
        have HO4 := Lib.hid ho4
        clear hw4 hn4 hi4 hp4 hid4 hc4 hh4 hg4 hu4 hb4 ho4 HW3 HB3 HC3 HOL HUL HGH HP1 HI1 HN1 HH1
        by_cases hil : i < lst.length
        · have hii : (i : Int) < (lst.length : Int) := by omega
          have hib : lst.length ≤ 61 := by have := HLL.out; omega
          obtain ⟨a', c', he, hia, _, _, _⟩ := HO4.out.val
          simp only [Value.slice.injEq] at he
          obtain ⟨rfl, _, rfl⟩ := he
          obtain ⟨b, off, rfl, hcell⟩ := hia i hil
          simp only [ival] at hcell
          obtain ⟨x, hx⟩ : ∃ x, x = lst[i] := ⟨_, rfl⟩
          rw [← hx] at hcell
          clear hx hia
          go_wp2_with fail
          refine (pickM_any x wr).mono ?_
          rintro e wy ⟨rfl, rfl⟩
          have hpm := pickM_le x
          generalize pickM x = d at *
          go_upto_region 16 with fail
          go_cut [70] (fun b wy => b = .bool (decide (1099511627776 < now + d ∨ i + 1 = lst.length)) ∧ wr = wy)
          case first =>
            by_cases h1 : 1099511627776 < now + d
            · have h1i : (1099511627776 : Int) < (now : Int) + (d : Int) := by omega
              go_wp2_with fail
              go_meet
              case rel => exact ⟨by simp [h1], rfl⟩
            · have h1i : ¬ (1099511627776 : Int) < (now : Int) + (d : Int) := by omega
              by_cases h2 : i + 1 = lst.length
              · have h2i : (i : Int) + 1 = (lst.length : Int) := by omega
                go_wp2_with fail
                go_meet
                case rel => exact ⟨by simp [h2], rfl⟩
              · have h2i : ¬ (i : Int) + 1 = (lst.length : Int) := by omega
                go_wp2_with fail
                go_meet
                case rel => exact ⟨by simp [h1, h2]; omega, rfl⟩
          obtain ⟨rfl, rfl⟩ := hcut
          go_upto_if 70 with fail
          go_cut [11] (fun v wy => ∃ tt : Nat, v = .int .i64 tt ∧ now ≤ tt ∧ tt ≤ 1099511627776 ∧ (i + 1 = lst.length → tt = 1099511627776) ∧ wr = wy)
          case first =>
            by_cases h1 : 1099511627776 < now + d ∨ i + 1 = lst.length
            · have hb1 : decide (1099511627776 < now + d ∨ i + 1 = lst.length) = true := by simp only [h1, decide_true]
              go_wp2_with fail
              go_meet
              case rel => exact ⟨1099511627776, rfl, hnm, by omega, fun _ => rfl, rfl⟩
            · have hb1 : decide (1099511627776 < now + d ∨ i + 1 = lst.length) = false := by simp only [h1, decide_false]
              go_wp2_with fail
              go_meet
              case rel => exact ⟨now + d, by go_num, by omega, by omega, fun e => absurd (Or.inr e) h1, rfl⟩
          obtain ⟨tt, rfl, ht1, ht2, htl, rfl⟩ := hcut
          clear hcell hpm
          have HADV := Lib.hid (adv_any HW4.out HI4.out (restOf times times.length i now) HP4.out (by have := restOf_len times times.length i now; omega) HD4.out
            (fun t ht => by obtain ⟨k, hk, rfl⟩ := restOf_mem ht; simp [tmOf]; omega) (fun t ht => by obtain ⟨k, hk, rfl⟩ := restOf_mem ht; exact show (Lit.int .i64 (k : Int)).wf = true from WalkArith.wf_i64 (by omega)) tt (by rw [HN4.out]; exact ht1) ht2)
          go_wp2_with fail
          refine HADV.out.mono ?_
          rintro e w5 ⟨S, hS, hso, v, rfl, hown, s5, sv5, ids5, hw5, hn5, hi5, hp5, hid5, hc5, hh5, hv5⟩
          have HS := Lib.hid hS
          have HSO := Lib.hid hso
          have HN5 := Lib.hid hn5
          have HI5 := Lib.hid hi5
          have HP5 : Hid (List.Perm (allT s5.sl 449) (restOf times times.length (i + 1) tt)) := by rw [← restOf_next _ _ _ _ _ ht1]; exact hp5
          have HD5 : Hid (List.Perm ids5 ((restOf times times.length (i + 1) tt).map Tm.id)) := by rw [← restOf_next _ _ _ _ _ ht1]; exact hid5
          have HC5 := Lib.hid (HC4.out.trans hc5 (fun k h => .inr (HH4.out k h)))
          have HH5 : Hid (∀ k, Has p sv5 mb k → w.heap.size ≤ k) := fun k hk => by
            rcases hh5 k hk with h | h
            · exact HH4.out k h
            · have := HC4.out.size; omega
          have hglt : g < wr.heap.size := (Array.getElem?_eq_some_iff.1 HB4.out).1
          have HG5 : Hid (¬ Has p sv5 mb g) := fun hh => by
            rcases hh5 g hh with h | h
            · exact HG4.out h
            · omega
          have HU5 : Hid (∀ k, (Value.slice (some ⟨b, off, none⟩) lst.length lc).ownBlock = some k → ¬ Has p sv5 mb k ∧ k ≠ g) := fun k hk => by
            refine ⟨fun hh => ?_, (HU4.out k hk).2⟩
            rcases hh5 k hh with h | h
            · exact (HU4.out k hk).1 h
            · have := HO4.out.lt k hk; omega
          have HB5 := Lib.hid (HB4.out.chg hc5 (fun h => HG4.out h))
          have HO5 := Lib.hid (HO4.out.chg hc5 (fun k hk h => (HU4.out k hk).1 h))
          obtain ⟨va, vc, rfl, hva, _, _, hvo⟩ := hown.val
          have HVG : Hid (∀ x, va = some x → x.block ≠ g) := fun x hx => by
            have := (hv5 _ (hvo x hx)).1
            omega
          have HVA := Lib.hid hva
          have HW5 := Lib.hid hw5
          have hsl : S.length ≤ 100 := by
            have h1 := hS.length_eq
            have h2 := List.length_filter_le (fun t => decide (t.at' ≤ tt)) (restOf times times.length i now)
            have h3 := restOf_len times times.length i now
            omega
          have hml : (S.map Tm.id).length = S.length := List.length_map _
          rw [hml]
          clear hml hS hso hn5 hi5 hp5 hid5 hc5 hh5 hglt hown hva hvo hv5 hw5 HADV HW4 HN4 HI4 HP4 HD4 HC4 HH4 HG4 HU4 HB4 HO4
          go_wp2_with fail
          refine (turned_any w5).mono ?_
          rintro e w6 ⟨rfl, hc6⟩
          have HW6 := Lib.hid (HW5.out.chg hc6 (fun _ _ h => h))
          have HC6 := Lib.hid (HC5.out.trans hc6 (fun _ h => .inl h))
          have HB6 := Lib.hid (HB5.out.chg hc6 (fun h => h))
          have HO6 := Lib.hid (HO5.out.chg hc6 (fun _ _ h => h))
          have HV6 := Lib.hid (HVA.out.chg hc6 (fun _ _ h => h))
          clear hc6 HW5 HC5 HB5 HO5 HVA
          go_upto_region 22 with fail
          go_wp2_with fail
          go_loopw [15, 14] (fun kk ll wz => ∃ (wq : World) (k : Nat), wq = wz ∧ k ≤ S.length ∧ kk = .int .i64 k ∧ ll = .int .i64 (lastOf S k) ∧ Chg (fun j => j = g) w6 wz ∧ Box wz g (bools times.length (seenF times i now S k)) 4) (fun kk _ _ => S.length - (RowKit.intOf kk).toNat)
          case atStart => exact ⟨_, 0, rfl, by omega, rfl, rfl, Chg.refl _ _, by rw [seen_zero]; exact HB6.out⟩
          case round =>
            obtain ⟨wz, k, rfl, hk, rfl, rfl, hcz, hbz⟩ := hrel
            have HCZ := Lib.hid hcz
            have HBZ := Lib.hid hbz
            clear hcz hbz HB6
            by_cases hkl : k < S.length
            · have hki : (k : Int) < (S.length : Int) := by omega
              obtain ⟨m, hm, hSm⟩ := restOf_mem (List.mem_filter.1 (HS.out.mem_iff.1 (List.getElem_mem hkl))).1
              have htm := (List.mem_filter.1 (HS.out.mem_iff.1 (List.getElem_mem hkl)))
              have hidm : S[k].id = (m : Int) := by rw [hSm]; rfl
              have hatm : S[k].at' = pickM (times.getD m 0) := by rw [hSm]; rfl
              have hle : S[k].at' ≤ tt := by simpa using htm.2
              have hah : 0 < i → now < S[k].at' := fun h => restOf_ahead htm.1 h
              have hla := last_le HSO.out hkl
              have HSN := Lib.hid (seen_not HS.out hkl hSm)
              have HLN := Lib.hid (last_next hkl)
              have HNX := Lib.hid (seen_next (times := times) (i := i) (now := now) hkl hidm)
              have hvk : k < (S.map Tm.id).length := by rw [List.length_map]; exact hkl
              obtain ⟨b1, o1, hva1, hcv⟩ := HV6.out k hvk
              have e1 : (S.map Tm.id)[k] = (m : Int) := by rw [List.getElem_map, hidm]
              rw [e1] at hcv
              simp only [ival] at hcv
              subst hva1
              have y1 := HCZ.out.cell hcv (fun e => HVG.out _ rfl e)
              obtain ⟨b2, o2, hta, hct⟩ := HTI.out m hm
              subst hta
              have HGD : Hid (times.getD m 0 = times[m]) := by unfold Hid; rw [List.getD_eq_getElem?_getD, List.getElem?_eq_getElem hm]; rfl
              have hbt : ¬ b2 = g := fun e => by
                have := World.block_lt_of_cell? _ _ hct
                have h2 := HGW.out
                have h3 : b2 < w.heap.size := this
                omega
              have y2 := (HC6.out.cell hct (fun h => h))
              have y3 := HCZ.out.cell y2 (fun e => hbt e)
              simp only [ival] at y3
              have y4 := HBZ.out.cell (bools_get _ hm)
              rw [HSN.out] at y4
              have yf := HBZ.out.free m
              rw [HGD.out] at hatm
              obtain ⟨x, hx⟩ : ∃ x, x = times[m] := ⟨_, rfl⟩
              rw [← hx] at y3 hatm
              obtain ⟨q, hq⟩ : ∃ q, q = S[k].at' := ⟨_, rfl⟩
              rw [← hq] at hatm hle hah hla HLN
              have hni : ¬ (m : Int) < 0 := by omega
              have hmi : ¬ (times.length : Int) ≤ (m : Int) := by omega
              have hmi2 : (m : Int) < (times.length : Int) := by omega
              clear hSm htm hidm hvk hcv hct y2 hx hq e1 HSN HGD
              go_upto_region 28 with fail
              obtain ⟨lz, hlz⟩ : ∃ lz, lz = lastOf S k := ⟨_, rfl⟩
              rw [← hlz] at hla
              rw [← hlz]
              clear hlz
              go_wp2_with fail
              refine (pickM_any x wz).mono ?_
              rintro e wy ⟨rfl, rfl⟩
              rw [← hatm]
              have h1 : ¬ (tt : Int) < (q : Int) := by omega
              have h3 : ¬ (q : Int) < lz := by omega
              have hbs := HBZ.out.set m (.bool true)
              rw [bools_set, HNX.out] at hbs
              have hcs := setCell_chg wz g m (.bool true)
              have HBS := Lib.hid hbs
              have HCS := Lib.hid (HCZ.out.trans hcs (fun _ h => .inl h))
              clear hbs hcs HCZ HBZ HNX hatm hle hla
              by_cases han : q ≤ now
              · have hani : (q : Int) ≤ (now : Int) := by omega
                have hi0 : i = 0 := by
                  refine Classical.byContradiction fun h => ?_
                  have := hah (by omega)
                  omega
                have hi0i : ¬ (0 : Int) < (i : Int) := by omega
                have hi0n : ¬ 0 < i := by omega
                clear hi0 hah
                go_wp2_with fail
                go_roundw
                case rel => exact ⟨_, k + 1, rfl, by omega, by go_num, by rw [HLN.out], HCS.out, HBS.out⟩
                case measure => simp [RowKit.intOf]; omega
              · have hani : ¬ (q : Int) ≤ (now : Int) := by omega
                go_wp2_with fail
                go_roundw
                case rel => exact ⟨_, k + 1, rfl, by omega, by go_num, by rw [HLN.out], HCS.out, HBS.out⟩
                case measure => simp [RowKit.intOf]; omega
            · have hki : ¬ (k : Int) < (S.length : Int) := by omega
              obtain rfl : k = S.length := by omega
              go_wp2_with fail
              have HB7 : Hid (Box wz g (bools times.length (toldK times (i + 1) tt)) 4) := by
                have e := bools_congr (n := times.length) (fun j hj => seen_all HS.out ht1 hj)
                unfold Hid
                rw [← e]
                exact HBZ.out
              exact ⟨⟨_, i + 1, tt, s5, sv5, mb, ids5, rfl, by omega, by go_num, by first | trivial | rfl, ht2, htl, HW6.out.chg HCZ.out (fun j hj e => HG5.out (by rw [← (show j = g from e)]; exact hj)), HN5.out, HI5.out, HP5.out, HD5.out,
                HC6.out.trans HCZ.out (fun j e => .inr (by rw [show j = g from e]; exact HGW.out)), HH5.out, HG5.out, HU5.out, HB7.out, HO6.out.chg HCZ.out (fun k hk e => (HU5.out k hk).2 e)⟩, by simp [RowKit.intOf]; omega⟩
        · have hii : ¬ (i : Int) < (lst.length : Int) := by omega
          obtain rfl : i = lst.length := by omega
          have htld : now = 1099511627776 := hlast rfl
          have hln0 : ¬ lst.length = 0 := by have := HLL.out; omega
          have HALL : Hid (bools times.length (toldK times lst.length now) = bools times.length fun _ => true) := bools_congr fun k hk => by
            have := pickM_le (times.getD k 0)
            show decide (0 < lst.length ∧ pickM (times.getD k 0) ≤ now) = true
            rw [decide_eq_true_eq]
            exact ⟨by omega, by rw [htld]; exact this⟩
          rw [HALL.out] at HB4
          have HNIL : Hid (restOf times times.length lst.length now = []) := by
            unfold Hid restOf
            rw [if_neg hln0]
            refine List.filter_eq_nil_iff.2 fun t ht => ?_
            obtain ⟨k, hk, rfl⟩ := tmsOf_mem ht
            have := pickM_le (times.getD k 0)
            show ¬ (decide (now < pickM (times.getD k 0)) = true)
            rw [decide_eq_true_eq, htld]
            omega
          have HIDS : Hid (ids = []) := by
            have h := HD4.out
            rw [HNIL.out] at h
            exact List.Perm.eq_nil h
          clear HALL HP4 HD4 HNIL HI4 HN4 HU4 HO4 HH4 HG4 htld hlast
          go_wp2_with fail
          go_loopw [18] (fun kk wz => ∃ (wq : World) (k : Nat), wq = wz ∧ k ≤ times.length ∧ kk = .int .i64 k ∧ wr = wz) (fun kk _ => times.length - (RowKit.intOf kk).toNat)
          case atStart => exact ⟨_, 0, rfl, by omega, rfl, rfl⟩
          case round =>
            obtain ⟨wz, k, rfl, hk, rfl, rfl⟩ := hrel
            by_cases hkl : k < times.length
            · have hki : (k : Int) < (times.length : Int) := by omega
              have y4 := HB4.out.cell (bools_get (fun _ => true) hkl)
              go_wp2_with fail
              go_roundw
              case rel => exact ⟨_, k + 1, rfl, by omega, by go_num, by first | trivial | rfl⟩
              case measure => simp [RowKit.intOf]; omega
            · have hki : ¬ (k : Int) < (times.length : Int) := by omega
              go_wp2_with fail
              refine (many_any HW4.out).mono ?_
              rintro e wy ⟨rfl, hwy⟩
              obtain rfl := hwy.symm
              have hl0 : (ids.length : Int) = 0 := by rw [HIDS.out]; rfl
              go_wp2_with fail
              go_ret
              exact ⟨rfl, HC4.out⟩

set_option maxHeartbeats 1000000 in
set_option maxRecDepth 100000 in
theorem wheelOnce_any (ta : Option Addr) (times : List Int) (tc : Nat) (sa : Option Addr) (steps : List Int) (sc : Nat) (w : World) (htl : times.length ≤ tc) (htc : tc ≤ maxLen) (hti : IntsAt w ta times) (hsl : steps.length ≤ sc) (hsc : sc ≤ maxLen) (hst : IntsAt w sa steps) :
    Calls Try.prog 3 #[.slice ta times.length tc, .slice sa steps.length sc] w fun e w' => e = .returned (.bool true) ∧ Chg Nil w w' := by
  unfold maxLen at htc hsc
  by_cases h1 : 100 < times.length
  · have hd : (100 : Int) < (times.length : Int) := by omega
    go_enter Try.func3, Try.ntmps3
    go_wp2_with fail
    go_ret
    exact ⟨rfl, Chg.refl _ _⟩
  · have hd : ¬ (100 : Int) < (times.length : Int) := by omega
    by_cases h2 : 60 < steps.length
    · have hd2 : (60 : Int) < (steps.length : Int) := by omega
      go_enter Try.func3, Try.ntmps3
      go_wp2_with fail
      go_ret
      exact ⟨rfl, Chg.refl _ _⟩
    · exact wheelOnce_in ta sa times steps tc sc w (by omega) (by omega) hti hst
end Go.Proofs.Ytdahefphohkhlaa
