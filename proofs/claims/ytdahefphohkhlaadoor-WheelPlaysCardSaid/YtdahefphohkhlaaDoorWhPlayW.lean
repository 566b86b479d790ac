/-
  The walk of WheelPlays.
-/
import Derived.Test.YtdahefphohkhlaaDoorWhPlayM
import Derived.Deep.CutBlock
set_option linter.unusedSimpArgs false
set_option linter.unusedVariables false
namespace Go.Proofs.YtdahefphohkhlaaDoor
open Go.RowKit Go.Maps

set_option maxHeartbeats 0 in
set_option maxRecDepth 100000 in
theorem wheelPlays_in (ta : Option Addr) (xs : List Tu) (tc : Nat) (w : World) (hxl : xs.length ≤ 150) (hok : ∀ x ∈ xs, x.Ok) (hxa : TusAt w ta xs) (hgh : Handle w) :
    Calls Tryd.prog 3 #[.slice ta xs.length tc] w fun e w' => e = .returned (.bool true) ∧ Chg Nil w w' := by
  have h150 : ¬ (150 : Int) < (xs.length : Int) := by omega
  have HXA := Lib.hid hxa
  have HOK := Lib.hid hok
  have HGH := Lib.hid hgh
  clear hxa hok hgh
  have hz := zeroWheel
  have HNEW := Lib.hid (Wl.new w)
  have hal := (Chg.refl Nil w).alloc (.cells zcells 28)
  have HAL := Lib.hid hal
  clear hal
  go_enter Tryd.func3, Tryd.ntmps3
  go_upto_region 4 with fail
  clear hz h150
  obtain ⟨p, hp⟩ : ∃ p, p = w.heap.size := ⟨_, rfl⟩
  have HPS := Lib.hid hp
  rw [← hp] at HNEW
  rw [← hp]
  clear hp
  generalize w.alloc (.cells zcells 28) = w0 at *
  go_wp2_with fail
  go_loopw [6, 5, 4] (fun ii nn aa wr => ∃ (wq : World) (i now : Nat) (L : List Tm) (added : Nat) (s : Wh) (ids : List Int) (sv : Nat → Value) (mb : Option Nat) (a : Option Addr) (c : Nat), wq = wr ∧ i ≤ xs.length ∧ ii = .int .i64 i ∧ nn = .int .i64 now ∧ aa = .slice a L.length c ∧ St w wr p s ids added sv mb L now (.slice a L.length c) i) (fun ii _ _ _ => xs.length - (RowKit.intOf ii).toNat)
  case atStart =>
    refine ⟨_, 0, 0, [], 0, _, [], _, _, none, 0, rfl, by omega, rfl, rfl, rfl, ⟨⟨HNEW.out, inv_new, by rw [all_new], List.Perm.refl _, HAL.out, ?_⟩, rfl, Lst.nil 0, by simp, by omega, by simp, OwnA.nil _, by simp [Value.ownBlock]⟩⟩
    rintro i (h | h | ⟨j, _, h⟩)
    · rw [h, HPS.out]; exact Nat.le_refl _
    · cases h
    · simp [Value.ownBlock] at h
  case round =>
    obtain ⟨wr, i, now, L, added, s, ids, sv, mb, a, c, rfl, hi, rfl, rfl, rfl, hst⟩ := hrel
    have HST := Lib.hid hst
    clear hst HNEW HAL
    by_cases hil : i < xs.length
    · as_aux_lemma =>
      have hii : (i : Int) < (xs.length : Int) := by omega
      obtain ⟨b, off, rfl, hcell⟩ := HXA.out i hil
      have HXO := Lib.hid (HOK.out _ (List.getElem_mem hil))
      obtain ⟨x, hx⟩ : ∃ x, x = xs[i] := ⟨_, rfl⟩
      rw [← hx] at hcell HXO
      clear hx
      have y0 := HST.out.pl.chg.cell (hcell 0 _ rfl) (fun h => h)
      have y1 := HST.out.pl.chg.cell (hcell 1 _ rfl) (fun h => h)
      have y2 := HST.out.pl.chg.cell (hcell 2 _ rfl) (fun h => h)
      rw [Nat.add_zero] at y0
      clear hcell
      have hal := (Chg.refl Nil wr).alloc (.cells #[.int .i64 x.what, .int .i64 x.at', .int .i64 x.id] 31)
      have hbx := Box.new wr x.cells 31
      have HST1 := Lib.hid (HST.out.chg hal)
      have HGN : Hid ((∀ k, (Value.slice a L.length c).ownBlock = some k → k ≠ wr.heap.size) ∧ ¬ Has p sv mb wr.heap.size) := ⟨fun k hk e => by have := HST.out.own.lt k hk; omega, fun h => by have := HST.out.pl.wl.lt _ h; omega⟩
      clear hal HST
      go_upto_region 10 with fail
      clear y0 y1 y2
      have hbx : Box (wr.alloc (.cells #[.int .i64 x.what, .int .i64 x.at', .int .i64 x.id] 31)) wr.heap.size x.cells 31 := hbx
      generalize wr.alloc (.cells #[.int .i64 x.what, .int .i64 x.at', .int .i64 x.id] 31) = w1 at *
      generalize wr.heap.size = g at *
      have HBX := Lib.hid hbx
      clear hbx
      go_wp2_with fail
      go_loopw [9, 8] (fun jj kk wz => ∃ (wq : World) (j : Nat), wq = wz ∧ j ≤ L.length ∧ jj = .int .i64 j ∧ kk = .int .i64 (placeOf L x.id j) ∧ Chg Nil w1 wz) (fun jj _ _ => L.length - (RowKit.intOf jj).toNat)
      case atStart => exact ⟨_, 0, rfl, by omega, rfl, by rw [place_zero], Chg.refl _ _⟩
      case round =>
        obtain ⟨wz, j, rfl, hj, rfl, rfl, hcz⟩ := hrel
        have HCZ := Lib.hid hcz
        clear hcz
        by_cases hjl : j < L.length
        · as_aux_lemma =>
          have hji : (j : Int) < (L.length : Int) := by omega
          have hll := HST1.out.len
          obtain ⟨a', c', he, _, _, hcel⟩ := HST1.out.own.val
          simp only [Value.slice.injEq] at he
          obtain ⟨rfl, _, rfl⟩ := he
          obtain ⟨q, rfl, _, z1⟩ := hcel j hjl
          have z1 := HCZ.out.cell z1 (fun h => h)
          have z2 := HCZ.out.cell (HBX.out.cell (j := 2) rfl) (fun h => h)
          clear hcel
          have HPL := Lib.hid (fun (h : L[j].id = x.id) => place_hit HST1.out.lst hjl h)
          have HPM := Lib.hid (fun (h : ¬ L[j].id = x.id) => place_miss hjl h)
          obtain ⟨y, hy⟩ : ∃ y, y = L[j].id := ⟨_, rfl⟩
          rw [← hy] at z1 HPL HPM
          clear hy
          go_upto_region 14 with fail
          go_quiet (fail)
          by_cases hyx : y = x.id
          · as_aux_lemma =>
            have hb : (y == x.id) = true := by simp [hyx]
            have HPL2 := Lib.hid (HPL.out hyx)
            clear hyx HPL HPM z1 z2
            go_wp2_with fail
            go_roundw
            case rel => exact ⟨_, j + 1, rfl, by omega, by go_num, by rw [HPL2.out], HCZ.out.drewN _⟩
            case measure => simp [RowKit.intOf]; omega
          · as_aux_lemma =>
            have hb : (y == x.id) = false := beq_eq_false_iff_ne.2 hyx
            have HPM2 := Lib.hid (HPM.out hyx)
            clear hyx HPL HPM z1 z2
            go_wp2_with fail
            go_roundw
            case rel => exact ⟨_, j + 1, rfl, by omega, by go_num, by rw [HPM2.out], HCZ.out.drewN _⟩
            case measure => simp [RowKit.intOf]; omega
        · as_aux_lemma =>
          have hji : ¬ (j : Int) < (L.length : Int) := by omega
          obtain rfl : j = L.length := by omega
          have HST2 := Lib.hid (HST1.out.chg HCZ.out)
          have HBX2 := Lib.hid (HBX.out.chg HCZ.out (fun h => h))
          have x0 := HBX2.out.cell (j := 0) rfl
          have x1 := HBX2.out.cell (j := 1) rfl
          have x2 := HBX2.out.cell (j := 2) rfl
          clear HST1 HBX HCZ
          have HPE := Lib.hid (place_end L x.id)
          generalize placeOf L x.id L.length = kk at *
          obtain ⟨xw, xa, xi⟩ := x
          simp only at x0 x1 x2 HPE
          go_upto_block 4 with fail
          go_cut [4, 5] (fun aa nn wy => ∃ (now : Nat) (L : List Tm) (added : Nat) (s : Wh) (ids : List Int) (sv : Nat → Value) (mb : Option Nat) (a : Option Addr) (c : Nat), nn = .int .i64 now ∧ aa = .slice a L.length c ∧ St w wy p s ids added sv mb L now (.slice a L.length c) (i + 1))
          case first =>
            have HWX : Hid ((Lit.int .i64 xi).wf = true) := HXO.out.2.2
            have hll := HST2.out.len
            have hla := HST2.out.add
            by_cases hw0 : xw = 0
            · as_aux_lemma =>
              subst hw0
              by_cases hin : 0 ≤ xa ∧ xa ≤ 1099511627776
              · as_aux_lemma =>
                have hd : decide (0 ≤ xa ∧ xa ≤ 1099511627776) = true := decide_eq_true hin
                obtain ⟨na, rfl⟩ : ∃ na : Nat, xa = (na : Int) := ⟨xa.toNat, by omega⟩
                have HNA : Hid (na ≤ 1099511627776) := by unfold Hid; omega
                clear hin
                go_wp2_with fail
                refine (within_any _ _).mono ?_
                rintro e wy ⟨rfl, hwy⟩
                obtain rfl := hwy.symm
                rw [hd]
                clear hd
                rcases HPE.out with ⟨hni, hk⟩ | ⟨hmi, k, hk, hid, hkk⟩
                · as_aux_lemma =>
                  subst hk
                  have HNI := Lib.hid hni
                  clear hni HPE
                  have HL9 : Hid (L.length + 1 ≤ 1000 ∧ added + 1 ≤ 1000) := by unfold Hid; omega
                  go_upto_region 24 with (at_builtin; go_must (refine wpList_append_grew rfl (.tmp 48) (.tmp 54) 29 29 rfl lawT _ Tryd.underlying29 (by intro _; simp) (.slice a L.length c) _ _ rfl (ownsRow_chg HST2.out.own ((Chg.refl Nil _).alloc _) (fun _ _ h => h)) _ 1 (two ⟨na, xi, added + 1⟩) rfl (Source.box (Box.new _ (two ⟨na, xi, added + 1⟩) _) rfl (two_one _)) (by have := HL9.out; unfold maxLen; omega) (by have := HL9.out; omega) ?_); intro v2 w8 hown2 hg2 _)
                  have hg3 := hg2.alloc
                  obtain ⟨hp8, hv8⟩ := HST2.out.push hg3
                  have HV8 := Lib.hid hv8
                  have HO8 : Hid (OwnA w8 v2 (L ++ [⟨na, xi, added + 1⟩])) := by
                    unfold Hid OwnA
                    rw [List.length_append, List.flatMap_append]
                    exact hown2
                  have hc8 := hp8.chg
                  have HG8 := Lib.hid (HGH.out.chg hp8.chg (fun h => h))
                  have HADD := Lib.hid (hp8.add na xi HNA.out HWX.out HNI.out (by have := HL9.out; omega) (by have := HL9.out; omega))
                  have z1 := hg3.chg.cell x1 (fun e => HGN.out.1 g e rfl)
                  have z2 := hg3.chg.cell x2 (fun e => HGN.out.1 g e rfl)
                  clear hg2 hg3 hown2 hp8 hv8 hc8 x0 x1 x2
                  go_wp2_with fail
                  refine HADD.out.mono ?_
                  rintro e w9 ⟨rfl, s', ids', sv', mb', hp9, hn9, hc9, hh9⟩
                  have HST3 := Lib.hid (HST2.out.pushed HNA.out HWX.out HNI.out HV8.out HO8.out hp9 hn9 hc9 hh9)
                  have HG9 := Lib.hid (HGH.out.chg hp9.chg (fun h => h))
                  clear hp9 hn9 hc9 hh9 HADD
                  go_wp2_with fail
                  refine (bare_at0 _ HG9.out).mono ?_
                  rintro e w10 ⟨rfl, hc10⟩
                  have HST4 := Lib.hid (HST3.out.chg hc10)
                  obtain ⟨a2, c2, rfl, _⟩ := HO8.out.val
                  clear hc10 HST3 HG9 HO8
                  go_wp2_with fail
                  go_meet
                  case rel => exact ⟨now, L ++ [⟨na, xi, added + 1⟩], added + 1, s', ids', sv', mb', a2, c2, rfl, by simp, HST4.out⟩
                · as_aux_lemma =>
                  subst hkk
                  have hk0 : (0 : Int) ≤ (k : Int) := by omega
                  have HADD := Lib.hid (add_twice HST2.out.pl.wl (na : Int) xi (by omega) (by have := HNA.out; omega) HWX.out (HST2.out.pl.ids.mem_iff.2 hmi))
                  have HG2 := Lib.hid (HGH.out.chg HST2.out.pl.chg (fun h => h))
                  clear HPE hmi hid
                  go_wp2_with fail
                  refine HADD.out.mono ?_
                  rintro e wy ⟨rfl, hwy⟩
                  obtain rfl := hwy.symm
                  go_wp2_with fail
                  refine (bare_at 9 (by decide) _ HG2.out).mono ?_
                  rintro e w10 ⟨rfl, hc10⟩
                  have HST4 := Lib.hid (HST2.out.chg hc10).next
                  clear hc10 HST2 HADD HG2
                  go_wp2_with fail
                  go_meet
                  case rel => exact ⟨now, L, added, s, ids, sv, mb, a, c, rfl, rfl, HST4.out⟩
              · as_aux_lemma =>
                have hd : decide (0 ≤ xa ∧ xa ≤ 1099511627776) = false := decide_eq_false hin
                have HADD := Lib.hid (add_range (w := wz) (p := p) xa xi (by omega))
                have HG2 := Lib.hid (HGH.out.chg HST2.out.pl.chg (fun h => h))
                clear hin
                go_wp2_with fail
                refine (within_any _ _).mono ?_
                rintro e wy ⟨rfl, hwy⟩
                obtain rfl := hwy.symm
                rw [hd]
                clear hd
                go_wp2_with fail
                refine HADD.out.mono ?_
                rintro e wy ⟨rfl, hwy⟩
                obtain rfl := hwy.symm
                go_wp2_with fail
                refine (bare_at 2 (by decide) _ HG2.out).mono ?_
                rintro e w10 ⟨rfl, hc10⟩
                have HST4 := Lib.hid (HST2.out.chg hc10).next
                clear hc10 HST2 HADD HG2
                go_wp2_with fail
                go_meet
                case rel => exact ⟨now, L, added, s, ids, sv, mb, a, c, rfl, rfl, HST4.out⟩
            · as_aux_lemma =>
              have hw0b : (xw == 0) = false := beq_eq_false_iff_ne.2 hw0
              by_cases hw1 : xw = 1
              · as_aux_lemma =>
                subst hw1
                clear hw0b hw0
                rcases HPE.out with ⟨hni, hk⟩ | ⟨hmi, k, hk, hid, hkk⟩
                · as_aux_lemma =>
                  subst hk
                  have HCAN := Lib.hid (cancel_no HST2.out.pl.wl xi HWX.out (fun h => hni (HST2.out.pl.ids.mem_iff.1 h)))
                  clear hni HPE
                  go_wp2_with fail
                  refine HCAN.out.mono ?_
                  rintro e w3 ⟨rfl, hc3⟩
                  have HST4 := Lib.hid (HST2.out.chg hc3).next
                  clear hc3 HST2 HCAN
                  go_wp2_with fail
                  go_meet
                  case rel => exact ⟨now, L, added, s, ids, sv, mb, a, c, rfl, rfl, HST4.out⟩
                · as_aux_lemma =>
                  subst hkk
                  have hk0 : (0 : Int) ≤ (k : Int) := by omega
                  have HKL := Lib.hid hk
                  have HCAN := Lib.hid (HST2.out.pl.cancel xi HWX.out hmi (by omega))
                  have HFE : Hid (L.filter (stays xi) = L.eraseIdx k) := by
                    unfold Hid
                    rw [← hid]
                    exact filter_erase HST2.out.lst hk
                  clear hmi HPE hid
                  go_wp2_with fail
                  refine HCAN.out.mono ?_
                  rintro e w3 ⟨rfl, s', ids', sv', hp3, hn3, hc3, hh3⟩
                  rw [HFE.out] at hp3
                  have HP3 := Lib.hid hp3
                  have HN3 := Lib.hid hn3
                  have HOW := Lib.hid (HST2.out.own.chg hc3 (fun k hk h => (HST2.out.new k hk).2 h))
                  clear hp3 hn3 hc3 hh3 HCAN HFE x0 x1 x2
                  obtain ⟨aa, haa⟩ : ∃ aa, aa = Value.slice a L.length c := ⟨_, rfl⟩
                  rw [← haa] at HOW HST2
                  obtain ⟨v1', v2', hs1, hs2, hsrc⟩ := HOW.out.cut HKL.out
                  have HSRC := Lib.hid hsrc
                  clear hsrc
                  rw [← haa]
                  clear haa
                  go_upto_region 30 with fail
                  refine Ch.wp_region_chain _ (Chg (fun j => w3.heap.size ≤ j)) [0, 4, 9, 10] (CutF w3.heap.size L k) (by kernel_rfl) (fun _ => Chg.refl _ _) (fun _ _ _ h k => h.trans k (fun _ h => .inl h)) [[], [], [], [1, 2], [0, 3], [], [], [6], [5, 7], [4, 8], [9]] rfl (by kernel_rfl) (by kernel_rfl) (Chg.refl _ _).drew ?_ ?_
                  · trivial
                  refine Ch.Walk.chain 0 rfl rfl ?_ ?_
                  · intro w7 hw7 vs hvs hF N hN
                    obtain rfl := List.eq_nil_of_length_eq_zero hvs
                    simp only [Ch.depsOf, List.filterMap_nil, List.filterMap_cons, List.getElem?_toArray, List.getElem?_cons_zero, List.getElem?_cons_succ, Option.bind_some, List.nil_append, List.cons_append, Ch.Ob, Ch.chained_get, Option.map_some, List.idxOf?, List.findIdx?, List.findIdx?.go, Nat.reduceBEq, List.getD_cons_zero, List.getD_cons_succ, Nat.reduceAdd, if_true, if_false, Bool.false_eq_true]
                    go_simp
                    have hal := (Chg.refl Nil w7).alloc (.cells #[] 33)
                    exact hN _ _ (hal.weak (fun _ h => h.elim)) ⟨⟨rfl, .inr ⟨_, 0, #[], rfl, Nat.zero_le _, heap_alloc_new w7 _, Nat.le_refl _, Nat.zero_le _, rfl, rfl⟩⟩, fun b hb => by have h1 := hw7.size; have h2 : w7.heap.size = b := (by simpa [Value.ownBlock] using hb); omega⟩
                  iterate 2 ((with_reducible apply Ch.Walk.eq); (case hd => rfl); (case hi => rfl); case h => (intro w2 hw2 N hN; simp only [Ch.depsOf, List.filterMap_nil, List.filterMap_cons, List.getElem?_toArray, List.getElem?_cons_zero, List.getElem?_cons_succ, Option.bind_some, List.nil_append, List.cons_append, Ch.Ob]; go_simp; (try go_bits); with_reducible exact hN _ (Chg.refl _ _) (fun _ h => h)))
                  ((with_reducible apply Ch.Walk.eq); (case hd => rfl); (case hi => rfl); case h => (intro w2 hw2 N hN; (have hq := hs1 w2); simp only [Ch.depsOf, List.filterMap_nil, List.filterMap_cons, List.getElem?_toArray, List.getElem?_cons_zero, List.getElem?_cons_succ, Option.bind_some, List.nil_append, List.cons_append, Ch.Ob]; go_simp; (try go_bits); with_reducible exact hN _ (Chg.refl _ _) (fun _ h => h)))
                  refine Ch.Walk.chain 1 rfl rfl ?_ ?_
                  · intro w7 hw7 vs hvs hF N hN
                    have hvq := one_eq hvs
                    generalize vs.getD 0 undef = v1 at hvq
                    clear hvs
                    subst hvq
                    have f1 : OwnA w7 v1 [] := hF.1
                    have f2 : ∀ b, v1.ownBlock = some b → w3.heap.size ≤ b := hF.2
                    clear hF
                    simp only [Ch.depsOf, List.filterMap_nil, List.filterMap_cons, List.getElem?_toArray, List.getElem?_cons_zero, List.getElem?_cons_succ, Option.bind_some, List.nil_append, List.cons_append, Ch.Ob, Ch.chained_get, Option.map_some, List.idxOf?, List.findIdx?, List.findIdx?.go, Nat.reduceBEq, List.getD_cons_zero, List.getD_cons_succ, Nat.reduceAdd, if_true, if_false, Bool.false_eq_true]
                    refine Ch.if_append_row rfl (.tmp 82) (.tmp 85) 29 29 rfl lawT _ Tryd.underlying29 (by intro _; simp) v1 _ _ rfl f1 v1' k ((L.take k).flatMap two) rfl (HSRC.out _ _ hw7 (fun b hb => by have := HOW.out.lt b hb; omega)).1 (by unfold maxLen; simp; omega) (by simp; omega) (fun v' w' h1 h2 => hN _ _ (h2.chg.weak (fun j hj => .inl (f2 j hj))) ⟨?_, fun b hb => ?_⟩)
                    · unfold OwnA
                      rw [List.length_take, Nat.min_eq_left (by omega)]
                      simpa using h1
                    · have h3 := hw7.size
                      rcases h2.own b hb with g | g
                      · exact f2 b g
                      · omega
                  iterate 2 ((with_reducible apply Ch.Walk.eq); (case hd => rfl); (case hi => rfl); case h => (intro w2 hw2 N hN; simp only [Ch.depsOf, List.filterMap_nil, List.filterMap_cons, List.getElem?_toArray, List.getElem?_cons_zero, List.getElem?_cons_succ, Option.bind_some, List.nil_append, List.cons_append, Ch.Ob]; go_simp; (try go_bits); with_reducible exact hN _ (Chg.refl _ _) (fun _ h => h)))
                  ((with_reducible apply Ch.Walk.eq); (case hd => rfl); (case hi => rfl); case h => (intro w2 hw2 N hN; simp only [Ch.depsOf, List.filterMap_nil, List.filterMap_cons, List.getElem?_toArray, List.getElem?_cons_zero, List.getElem?_cons_succ, Option.bind_some, List.nil_append, List.cons_append, Ch.Ob]; go_simp; (try go_bits); with_reducible exact hN _ (Chg.refl _ _) (fun _ h => h)))
                  ((with_reducible apply Ch.Walk.eq); (case hd => rfl); (case hi => rfl); case h => (intro w2 hw2 N hN; (have hq := hs2 w2); simp only [Ch.depsOf, List.filterMap_nil, List.filterMap_cons, List.getElem?_toArray, List.getElem?_cons_zero, List.getElem?_cons_succ, Option.bind_some, List.nil_append, List.cons_append, Ch.Ob]; go_simp; (try go_bits); with_reducible exact hN _ (Chg.refl _ _) (fun _ h => h)))
                  refine Ch.Walk.chain 2 rfl rfl ?_ ?_
                  · intro w7 hw7 vs hvs hF N hN
                    have hvq := two_eq hvs
                    generalize vs.getD 0 undef = v1 at hvq
                    generalize vs.getD 1 undef = v2 at hvq
                    clear hvs
                    subst hvq
                    have f1 : OwnA w7 v2 (L.take k) := hF.1
                    have f2 : ∀ b, v2.ownBlock = some b → w3.heap.size ≤ b := hF.2
                    clear hF
                    simp only [Ch.depsOf, List.filterMap_nil, List.filterMap_cons, List.getElem?_toArray, List.getElem?_cons_zero, List.getElem?_cons_succ, Option.bind_some, List.nil_append, List.cons_append, Ch.Ob, Ch.chained_get, Option.map_some, List.idxOf?, List.findIdx?, List.findIdx?.go, Nat.reduceBEq, List.getD_cons_zero, List.getD_cons_succ, Nat.reduceAdd, if_true, if_false, Bool.false_eq_true]
                    refine Ch.if_append_row rfl (.tmp 86) (.tmp 90) 29 29 rfl lawT _ Tryd.underlying29 (by intro _; simp) v2 _ _ rfl f1 v2' (L.length - (k + 1)) ((L.drop (k + 1)).flatMap two) rfl (HSRC.out _ _ hw7 (fun b hb => by have := HOW.out.lt b hb; omega)).2 (by unfold maxLen; rw [List.length_take]; omega) (by rw [List.length_take]; omega) (fun v' w' h1 h2 => hN _ _ (h2.chg.weak (fun j hj => .inl (f2 j hj))) ⟨?_, fun b hb => ?_⟩)
                    · unfold OwnA
                      rw [eraseIdx_eq HKL.out, List.length_append, List.flatMap_append, List.length_drop]
                      exact h1
                    · have h3 := hw7.size
                      rcases h2.own b hb with g | g
                      · exact f2 b g
                      · omega
                  refine Ch.Walk.chain 3 rfl rfl ?_ ?_
                  · intro w7 hw7 vs hvs hF N hN
                    have hvq := three_eq hvs
                    generalize vs.getD 0 undef = v0 at hvq
                    generalize vs.getD 1 undef = v1 at hvq
                    generalize vs.getD 2 undef = v2 at hvq
                    clear hvs
                    subst hvq
                    simp only [Ch.depsOf, List.filterMap_nil, List.filterMap_cons, List.getElem?_toArray, List.getElem?_cons_zero, List.getElem?_cons_succ, Option.bind_some, List.nil_append, List.cons_append, Ch.Ob, Ch.chained_get, Option.map_some, List.idxOf?, List.findIdx?, List.findIdx?.go, Nat.reduceBEq, List.getD_cons_zero, List.getD_cons_succ, Nat.reduceAdd, if_true, if_false, Bool.false_eq_true]
                    have HN := Lib.hid (hN v2 w7 (Chg.refl _ _) hF)
                    clear hN hF
                    go_simp
                    exact HN.out
                  intro w4 hw4
                  simp only [List.nil_append, List.cons_append, Ch.Fin, List.map_cons, List.map_nil, List.getD_cons_zero, List.getD_cons_succ]
                  intro v0 _ v1 _ v2' _ v2 _ hF
                  have f1 : OwnA w4 v2 (L.eraseIdx k) := hF.1
                  have f2 : ∀ b, v2.ownBlock = some b → w3.heap.size ≤ b := hF.2
                  clear hF
                  have hc4 : Chg Nil w3 w4 := hw4.weak (fun j hj => .inr hj)
                  have HST4 := Lib.hid (HST2.out.cut HKL.out HP3.out HN3.out hc4 f1 f2)
                  have hvf := f1.form
                  generalize vA v2 = a2 at hvf
                  generalize vC v2 = c2 at hvf
                  subst hvf
                  clear f1 f2 hc4 hw4 HP3 HN3 HOW HSRC hs1 hs2 HST2
                  go_wp2_with fail
                  go_simp
                  go_meet
                  case rel => exact ⟨now, L.eraseIdx k, added, s', ids', sv', mb, a2, c2, rfl, rfl, HST4.out⟩
              · as_aux_lemma =>
                have hw1b : (xw == 1) = false := beq_eq_false_iff_ne.2 hw1
                by_cases hw2 : xw = 2
                · as_aux_lemma =>
                  subst hw2
                  clear hw1b hw0b hw1 hw0
                  by_cases hlate : xa < (now : Int) ∨ 1099511627776 < xa
                  · as_aux_lemma =>
                    have c0 := HST2.out.pl.wl.c0
                    rw [HST2.out.now] at c0
                    have HADV := Lib.hid (adv_late c0 xa hlate)
                    have HG2 := Lib.hid (HGH.out.chg HST2.out.pl.chg (fun h => h))
                    clear c0
                    go_wp2_with fail
                    refine HADV.out.mono ?_
                    rintro e wy ⟨rfl, hwy⟩
                    obtain rfl := hwy.symm
                    clear HADV
                    by_cases hl1 : xa < (now : Int)
                    · as_aux_lemma =>
                      clear hlate
                      go_wp2_with fail
                      refine (bare_at 2 (by decide) _ HG2.out).mono ?_
                      rintro e w10 ⟨rfl, hc10⟩
                      have HST4 := Lib.hid (HST2.out.chg hc10).next
                      clear hc10 HST2 HG2
                      go_wp2_with fail
                      go_meet
                      case rel => exact ⟨now, L, added, s, ids, sv, mb, a, c, rfl, rfl, HST4.out⟩
                    · as_aux_lemma =>
                      have hl2 : (1099511627776 : Int) < xa := by omega
                      clear hlate
                      go_wp2_with fail
                      refine (bare_at 2 (by decide) _ HG2.out).mono ?_
                      rintro e w10 ⟨rfl, hc10⟩
                      have HST4 := Lib.hid (HST2.out.chg hc10).next
                      clear hc10 HST2 HG2
                      go_wp2_with fail
                      go_meet
                      case rel => exact ⟨now, L, added, s, ids, sv, mb, a, c, rfl, rfl, HST4.out⟩
                  · as_aux_lemma =>
                    have hl1 : ¬ xa < (now : Int) := by omega
                    have hl2 : ¬ (1099511627776 : Int) < xa := by omega
                    obtain ⟨tt, rfl⟩ : ∃ tt : Nat, xa = (tt : Int) := ⟨xa.toNat, by omega⟩
                    have HADV := Lib.hid (HST2.out.pl.adv (by omega) (fun t ht => by have := HST2.out.lst.most t ht; omega) (fun t ht => (HST2.out.ok t ht).2) tt (by have := HST2.out.now; omega) (by omega))
                    clear hlate HPE x0 x2
                    go_wp2_with fail
                    refine HADV.out.mono ?_
                    rintro e w3 ⟨S, hS, hso, v, rfl, hown, s', ids', sv', hp3, hn3, hc3, hh3, hv3⟩
                    obtain ⟨av, cv, rfl, hints, _⟩ := hown.val
                    have HSL : Hid (S.length ≤ 1000) := by
                      have h1 := hS.length_eq
                      have h2 := List.length_filter_le (fun t : Tm => decide (t.at' ≤ tt)) L
                      unfold Hid
                      omega
                    have HS := Lib.hid hS
                    have HSO := Lib.hid hso
                    have HIN := Lib.hid hints
                    have HP3 := Lib.hid hp3
                    have HN3 := Lib.hid hn3
                    have HOW := Lib.hid (HST2.out.own.chg hc3 (fun k hk h => (HST2.out.new k hk).2 h))
                    have HNW : Hid (∀ k, (Value.slice a L.length c).ownBlock = some k → w.heap.size ≤ k ∧ ¬ Has p sv' mb k) := fun k hk => ⟨(HST2.out.new k hk).1, fun hh => by
                      rcases hh3 k hh with g1 | g1
                      · exact (HST2.out.new k hk).2 g1
                      · have := HST2.out.own.lt k hk; omega⟩
                    have HVN : Hid (∀ k, (Value.slice a L.length c).ownBlock = some k → k < w3.heap.size) := HOW.out.lt
                    have x1 := hc3.cell x1 HGN.out.2
                    have HTOLD := Lib.hid (Told.start (now := tt) HST2.out.lst)
                    clear hS hso hown hints hp3 hn3 hc3 hh3 hv3 HADV
                    go_wp2_with fail
                    go_loopw [4, 13] (fun aa uu wy => ∃ (wq : World) (uq : Value) (W M : List Tm) (a : Option Addr) (c : Nat), wq = wy ∧ uq = uu ∧ aa = .slice a M.length c ∧ Told L W M tt added ∧ OwnA wy (.slice a M.length c) M ∧ OwnI wy uu (W.map Tm.id) ∧ Chg Nil w3 wy ∧ (∀ k, (Value.slice a M.length c).ownBlock = some k → w.heap.size ≤ k ∧ ¬ Has p sv' mb k) ∧ (∀ k, uu.ownBlock = some k → w3.heap.size ≤ k ∧ ¬ (Value.slice a M.length c).ownBlock = some k)) (fun aa _ _ => lenV aa)
                    case atStart => exact ⟨_, _, [], L, a, c, rfl, rfl, rfl, HTOLD.out, HOW.out, OwnI.nil _, Chg.refl _ _, HNW.out, by simp [Value.ownBlock]⟩
                    case round =>
                      obtain ⟨wy, uu, W, M, a2, c2, rfl, rfl, rfl, htold, how, hoi, hcy, hnw, hun⟩ := hrel
                      have HTO := Lib.hid htold
                      have HO := Lib.hid how
                      have HI := Lib.hid hoi
                      have HCY := Lib.hid hcy
                      have HNE := Lib.hid hnw
                      have HUN := Lib.hid hun
                      clear htold how hoi hcy hnw hun HOW HNW HVN HTOLD
                      have HML : Hid (W.length + M.length ≤ 1000) := by
                        have h1 := HTO.out.perm.length_eq
                        rw [List.length_append] at h1
                        unfold Hid
                        omega
                      go_wp2_with fail
                      go_loopw [15, 14] (fun jj bb wx => ∃ (wq : World) (j : Nat) (b : Int), wq = wx ∧ j ≤ M.length ∧ jj = .int .i64 j ∧ bb = .int .i64 b ∧ Best M tt j b ∧ Chg Nil wy wx) (fun jj _ _ => M.length - (RowKit.intOf jj).toNat)
                      case atStart => exact ⟨_, 0, -1, rfl, by omega, rfl, rfl, best_zero M tt, Chg.refl _ _⟩
                      case round =>
                        obtain ⟨wx, j, b, rfl, hj, rfl, rfl, hbst, hcx⟩ := hrel
                        have HB := Lib.hid hbst
                        have HCX := Lib.hid hcx
                        clear hbst hcx
                        have hml := HML.out
                        by_cases hjl : j < M.length
                        · as_aux_lemma =>
                          have hji : (j : Int) < (M.length : Int) := by omega
                          obtain ⟨a', c', he, _, _, hcel⟩ := HO.out.val
                          simp only [Value.slice.injEq] at he
                          obtain ⟨rfl, _, rfl⟩ := he
                          have HCEL := Lib.hid hcel
                          clear hcel
                          obtain ⟨q, hq, z1, _⟩ := HCEL.out j hjl
                          subst hq
                          have z1 := HCX.out.cell z1 (fun h => h)
                          have HJL := Lib.hid hjl
                          by_cases hle : M[j].at' ≤ tt
                          · as_aux_lemma =>
                            have HLE := Lib.hid hle
                            rcases best_place HB.out with hb | ⟨k, hb, hk⟩
                            · as_aux_lemma =>
                              subst hb
                              have HBF := Lib.hid (best_first HB.out hjl hle)
                              have hly : (M[j].at' : Int) ≤ (tt : Int) := by omega
                              generalize M[j].at' = y at *
                              clear HCEL HB HLE hle
                              go_upto_region 42 with fail
                              go_quiet (fail)
                              clear z1 hly
                              go_wp2_with fail
                              go_roundw
                              case rel => exact ⟨_, j + 1, _, rfl, by omega, by go_num, rfl, HBF.out, HCX.out.drewN _⟩
                              case measure => simp [RowKit.intOf]; omega
                            · as_aux_lemma =>
                              subst hb
                              have hki : (k : Int) < (M.length : Int) := by omega
                              have hk0 : ¬ (k : Int) < 0 := by omega
                              obtain ⟨q', hq, z2, _⟩ := HCEL.out k hk
                              simp only [Option.some.injEq, Addr.mk.injEq, and_true] at hq
                              subst hq
                              have z2 := HCX.out.cell z2 (fun h => h)
                              have hly : (M[j].at' : Int) ≤ (tt : Int) := by omega
                              by_cases hlt : M[j].at' < M[k].at'
                              · as_aux_lemma =>
                                have HBF := Lib.hid (best_less HB.out hk hjl hle hlt)
                                have hlz : (M[j].at' : Int) < (M[k].at' : Int) := by omega
                                generalize M[j].at' = y at *
                                generalize M[k].at' = z at *
                                clear HCEL HB HLE hle hlt
                                go_upto_region 42 with fail
                                go_quiet (fail)
                                clear z1 z2 hly hlz
                                go_wp2_with fail
                                go_roundw
                                case rel => exact ⟨_, j + 1, _, rfl, by omega, by go_num, rfl, HBF.out, HCX.out.drewN _⟩
                                case measure => simp [RowKit.intOf]; omega
                              · as_aux_lemma =>
                                have HBF := Lib.hid (best_stays HB.out hk hjl hlt)
                                have hlz : ¬ (M[j].at' : Int) < (M[k].at' : Int) := by omega
                                generalize M[j].at' = y at *
                                generalize M[k].at' = z at *
                                clear HCEL HB HLE hle hlt
                                go_upto_region 42 with fail
                                go_quiet (fail)
                                clear z1 z2 hly hlz
                                go_wp2_with fail
                                go_roundw
                                case rel => exact ⟨_, j + 1, _, rfl, by omega, by go_num, rfl, HBF.out, HCX.out.drewN _⟩
                                case measure => simp [RowKit.intOf]; omega
                          · as_aux_lemma =>
                            have HBF := Lib.hid (best_late HB.out hjl hle)
                            have hly : ¬ (M[j].at' : Int) ≤ (tt : Int) := by omega
                            generalize M[j].at' = y at *
                            clear HCEL HB hle
                            go_upto_region 42 with fail
                            go_quiet (fail)
                            clear z1 hly
                            go_wp2_with fail
                            go_roundw
                            case rel => exact ⟨_, j + 1, _, rfl, by omega, by go_num, rfl, HBF.out, HCX.out.drewN _⟩
                            case measure => simp [RowKit.intOf]; omega
                        · as_aux_lemma =>
                          have hji : ¬ (j : Int) < (M.length : Int) := by omega
                          obtain rfl : j = M.length := by omega
                          rcases best_place HB.out with hb | ⟨k, hb, hk⟩
                          · as_aux_lemma =>
                            subst hb
                            have HO2 := Lib.hid (HO.out.chg HCX.out (fun _ _ h => h))
                            have HC2 := Lib.hid (HCY.out.trans HCX.out (fun _ h => h.elim))
                            obtain ⟨bw, cw, hwant, hints2, _⟩ := (HI.out.chg HCX.out (fun _ _ h => h)).val
                            have HSW := Lib.hid (told_same HST2.out.lst HTO.out HB.out HS.out HSO.out)
                            have HSAME := Lib.hid (sameInts_any av bw (S.map Tm.id) (W.map Tm.id) cv cw wx (by have := HSL.out; rw [List.length_map]; omega) (by rw [List.length_map]; omega) (HIN.out.chg HC2.out (fun _ _ h => h)) hints2)
                            have hdd : decide (S.map Tm.id = W.map Tm.id) = true := decide_eq_true (by rw [HSW.out])
                            rw [hdd, List.length_map, List.length_map] at HSAME
                            rw [hwant]
                            clear hwant hints2 HO HCX HI HIN hdd
                            go_wp2_with fail
                            refine HSAME.out.mono ?_
                            rintro e w10 ⟨rfl, hc10⟩
                            have HST4 := Lib.hid (HST2.out.told HP3.out HN3.out (HC2.out.trans hc10 (fun _ h => h.elim)) HTO.out HB.out (HO2.out.chg hc10 (fun _ _ h => h)) HNE.out)
                            clear hc10 HSAME HST2 HP3
                            go_wp2_with fail
                            go_meet
                            case rel => exact ⟨tt, M, added, s', ids', sv', mb, a2, c2, rfl, rfl, HST4.out⟩
                          · as_aux_lemma =>
                            subst hb
                            have hki : (k : Int) < (M.length : Int) := by omega
                            have hk0 : ¬ (k : Int) < 0 := by omega
                            have HKL := Lib.hid hk
                            have HO2 := Lib.hid (HO.out.chg HCX.out (fun _ _ h => h))
                            have HC2 := Lib.hid (HCY.out.trans HCX.out (fun _ h => h.elim))
                            have HI2 := Lib.hid (HI.out.chg HCX.out (fun _ _ h => h))
                            have HTN := Lib.hid (HTO.out.next HB.out hk)
                            obtain ⟨a', c', he, _, _, hcel⟩ := HO2.out.val
                            simp only [Value.slice.injEq] at he
                            obtain ⟨rfl, _, rfl⟩ := he
                            obtain ⟨q, hq, _, z2⟩ := hcel k hk
                            subst hq
                            have HWM : Hid ((W ++ [M[k]]).map Tm.id = W.map Tm.id ++ [M[k].id]) := by unfold Hid; rw [List.map_append]; rfl
                            have hlb : (W.map Tm.id).length + 1 ≤ 10000 := by rw [List.length_map]; omega
                            have HLB := Lib.hid hlb
                            clear hcel HO HCX HI HCY HTO HB hlb
                            go_upto_region 46 with (at_builtin; go_must (refine wpList_append_grew rfl (.tmp 152) (.tmp 158) 40 40 rfl intsT _ Tryd.underlying40 (by intro _; simp) uu _ _ rfl (ownsRow_chg HI2.out ((Chg.refl Nil _).alloc _) (fun _ _ h => h)) _ 1 [ival M[k].id] rfl (Source.box (Box.new _ [ival M[k].id] _) rfl (by intro v hv; simp [ival] at hv; subst hv; rfl)) (by have := HLB.out; unfold maxLen; omega) (by have := HLB.out; omega) ?_); intro u2 w8 hown2 hg2 _)
                            clear z2
                            have hal8 := (Chg.refl Nil wx).alloc (.cells #[.int .i64 M[k].id] 3)
                            have hc8 : Chg (Own uu) wx w8 := (hal8.weak (fun _ h => h.elim)).trans hg2.chg (fun _ h => .inl h)
                            have HO8 := Lib.hid (HO2.out.chg hc8 (fun k hk h => (HUN.out k h).2 hk))
                            have HI8 : Hid (OwnI w8 u2 ((W ++ [M[k]]).map Tm.id)) := by
                              unfold Hid OwnI
                              rw [HWM.out, List.length_append, List.map_append]
                              exact hown2
                            have HC8 := Lib.hid (HC2.out.trans hc8 (fun i hi => .inr (HUN.out i hi).1))
                            have HU8 : Hid (∀ k, u2.ownBlock = some k → w3.heap.size ≤ k ∧ k < w8.heap.size) := fun k hk => by
                              refine ⟨?_, HI8.out.lt k hk⟩
                              rcases hg2.own k hk with g1 | g1
                              · exact (HUN.out k g1).1
                              · have h1 := hal8.size
                                have h2 := HC2.out.size
                                omega
                            clear hown2 hg2 hal8 hc8 HO2 HI2 HC2 HUN HWM
                            obtain ⟨aa, haa⟩ : ∃ aa, aa = Value.slice (some ⟨q, 0, none⟩) M.length c2 := ⟨_, rfl⟩
                            rw [← haa] at HO8 HNE
                            obtain ⟨v1', v2', hs1, hs2, hsrc⟩ := HO8.out.cut HKL.out
                            have HSRC := Lib.hid hsrc
                            clear hsrc
                            rw [← haa]
                            clear haa
                            refine Ch.wp_region_chain _ (Chg (fun j => w8.heap.size ≤ j)) [0, 4, 9, 10] (CutF w8.heap.size M k) (by kernel_rfl) (fun _ => Chg.refl _ _) (fun _ _ _ h k => h.trans k (fun _ h => .inl h)) [[], [], [], [1, 2], [0, 3], [], [], [6], [5, 7], [4, 8], [9]] rfl (by kernel_rfl) (by kernel_rfl) (Chg.refl _ _).drew ?_ ?_
                            · trivial
                            refine Ch.Walk.chain 0 rfl rfl ?_ ?_
                            · intro w7 hw7 vs hvs hF N hN
                              obtain rfl := List.eq_nil_of_length_eq_zero hvs
                              simp only [Ch.depsOf, List.filterMap_nil, List.filterMap_cons, List.getElem?_toArray, List.getElem?_cons_zero, List.getElem?_cons_succ, Option.bind_some, List.nil_append, List.cons_append, Ch.Ob, Ch.chained_get, Option.map_some, List.idxOf?, List.findIdx?, List.findIdx?.go, Nat.reduceBEq, List.getD_cons_zero, List.getD_cons_succ, Nat.reduceAdd, if_true, if_false, Bool.false_eq_true]
                              go_simp
                              have hal := (Chg.refl Nil w7).alloc (.cells #[] 33)
                              exact hN _ _ (hal.weak (fun _ h => h.elim)) ⟨⟨rfl, .inr ⟨_, 0, #[], rfl, Nat.zero_le _, heap_alloc_new w7 _, Nat.le_refl _, Nat.zero_le _, rfl, rfl⟩⟩, fun b hb => by have h1 := hw7.size; have h2 : w7.heap.size = b := (by simpa [Value.ownBlock] using hb); omega⟩
                            iterate 2 ((with_reducible apply Ch.Walk.eq); (case hd => rfl); (case hi => rfl); case h => (intro w2 hw2 N hN; simp only [Ch.depsOf, List.filterMap_nil, List.filterMap_cons, List.getElem?_toArray, List.getElem?_cons_zero, List.getElem?_cons_succ, Option.bind_some, List.nil_append, List.cons_append, Ch.Ob]; go_simp; (try go_bits); with_reducible exact hN _ (Chg.refl _ _) (fun _ h => h)))
                            ((with_reducible apply Ch.Walk.eq); (case hd => rfl); (case hi => rfl); case h => (intro w2 hw2 N hN; (have hq := hs1 w2); simp only [Ch.depsOf, List.filterMap_nil, List.filterMap_cons, List.getElem?_toArray, List.getElem?_cons_zero, List.getElem?_cons_succ, Option.bind_some, List.nil_append, List.cons_append, Ch.Ob]; go_simp; (try go_bits); with_reducible exact hN _ (Chg.refl _ _) (fun _ h => h)))
                            refine Ch.Walk.chain 1 rfl rfl ?_ ?_
                            · intro w7 hw7 vs hvs hF N hN
                              have hvq := one_eq hvs
                              generalize vs.getD 0 undef = v1 at hvq
                              clear hvs
                              subst hvq
                              have f1 : OwnA w7 v1 [] := hF.1
                              have f2 : ∀ b, v1.ownBlock = some b → w8.heap.size ≤ b := hF.2
                              clear hF
                              simp only [Ch.depsOf, List.filterMap_nil, List.filterMap_cons, List.getElem?_toArray, List.getElem?_cons_zero, List.getElem?_cons_succ, Option.bind_some, List.nil_append, List.cons_append, Ch.Ob, Ch.chained_get, Option.map_some, List.idxOf?, List.findIdx?, List.findIdx?.go, Nat.reduceBEq, List.getD_cons_zero, List.getD_cons_succ, Nat.reduceAdd, if_true, if_false, Bool.false_eq_true]
                              refine Ch.if_append_row rfl (.tmp 160) (.tmp 163) 29 29 rfl lawT _ Tryd.underlying29 (by intro _; simp) v1 _ _ rfl f1 v1' k ((M.take k).flatMap two) rfl (HSRC.out _ _ hw7 (fun b hb => by have := HO8.out.lt b hb; omega)).1 (by unfold maxLen; simp; omega) (by simp; omega) (fun v' w' h1 h2 => hN _ _ (h2.chg.weak (fun j hj => .inl (f2 j hj))) ⟨?_, fun b hb => ?_⟩)
                              · unfold OwnA
                                rw [List.length_take, Nat.min_eq_left (by omega)]
                                simpa using h1
                              · have h3 := hw7.size
                                rcases h2.own b hb with g | g
                                · exact f2 b g
                                · omega
                            iterate 2 ((with_reducible apply Ch.Walk.eq); (case hd => rfl); (case hi => rfl); case h => (intro w2 hw2 N hN; simp only [Ch.depsOf, List.filterMap_nil, List.filterMap_cons, List.getElem?_toArray, List.getElem?_cons_zero, List.getElem?_cons_succ, Option.bind_some, List.nil_append, List.cons_append, Ch.Ob]; go_simp; (try go_bits); with_reducible exact hN _ (Chg.refl _ _) (fun _ h => h)))
                            ((with_reducible apply Ch.Walk.eq); (case hd => rfl); (case hi => rfl); case h => (intro w2 hw2 N hN; simp only [Ch.depsOf, List.filterMap_nil, List.filterMap_cons, List.getElem?_toArray, List.getElem?_cons_zero, List.getElem?_cons_succ, Option.bind_some, List.nil_append, List.cons_append, Ch.Ob]; go_simp; (try go_bits); with_reducible exact hN _ (Chg.refl _ _) (fun _ h => h)))
                            ((with_reducible apply Ch.Walk.eq); (case hd => rfl); (case hi => rfl); case h => (intro w2 hw2 N hN; (have hq := hs2 w2); simp only [Ch.depsOf, List.filterMap_nil, List.filterMap_cons, List.getElem?_toArray, List.getElem?_cons_zero, List.getElem?_cons_succ, Option.bind_some, List.nil_append, List.cons_append, Ch.Ob]; go_simp; (try go_bits); with_reducible exact hN _ (Chg.refl _ _) (fun _ h => h)))
                            refine Ch.Walk.chain 2 rfl rfl ?_ ?_
                            · intro w7 hw7 vs hvs hF N hN
                              have hvq := two_eq hvs
                              generalize vs.getD 0 undef = v1 at hvq
                              generalize vs.getD 1 undef = v2 at hvq
                              clear hvs
                              subst hvq
                              have f1 : OwnA w7 v2 (M.take k) := hF.1
                              have f2 : ∀ b, v2.ownBlock = some b → w8.heap.size ≤ b := hF.2
                              clear hF
                              simp only [Ch.depsOf, List.filterMap_nil, List.filterMap_cons, List.getElem?_toArray, List.getElem?_cons_zero, List.getElem?_cons_succ, Option.bind_some, List.nil_append, List.cons_append, Ch.Ob, Ch.chained_get, Option.map_some, List.idxOf?, List.findIdx?, List.findIdx?.go, Nat.reduceBEq, List.getD_cons_zero, List.getD_cons_succ, Nat.reduceAdd, if_true, if_false, Bool.false_eq_true]
                              refine Ch.if_append_row rfl (.tmp 164) (.tmp 168) 29 29 rfl lawT _ Tryd.underlying29 (by intro _; simp) v2 _ _ rfl f1 v2' (M.length - (k + 1)) ((M.drop (k + 1)).flatMap two) rfl (HSRC.out _ _ hw7 (fun b hb => by have := HO8.out.lt b hb; omega)).2 (by unfold maxLen; rw [List.length_take]; omega) (by rw [List.length_take]; omega) (fun v' w' h1 h2 => hN _ _ (h2.chg.weak (fun j hj => .inl (f2 j hj))) ⟨?_, fun b hb => ?_⟩)
                              · unfold OwnA
                                rw [eraseIdx_eq HKL.out, List.length_append, List.flatMap_append, List.length_drop]
                                exact h1
                              · have h3 := hw7.size
                                rcases h2.own b hb with g | g
                                · exact f2 b g
                                · omega
                            refine Ch.Walk.chain 3 rfl rfl ?_ ?_
                            · intro w7 hw7 vs hvs hF N hN
                              have hvq := three_eq hvs
                              generalize vs.getD 0 undef = v0 at hvq
                              generalize vs.getD 1 undef = v1 at hvq
                              generalize vs.getD 2 undef = v2 at hvq
                              clear hvs
                              subst hvq
                              simp only [Ch.depsOf, List.filterMap_nil, List.filterMap_cons, List.getElem?_toArray, List.getElem?_cons_zero, List.getElem?_cons_succ, Option.bind_some, List.nil_append, List.cons_append, Ch.Ob, Ch.chained_get, Option.map_some, List.idxOf?, List.findIdx?, List.findIdx?.go, Nat.reduceBEq, List.getD_cons_zero, List.getD_cons_succ, Nat.reduceAdd, if_true, if_false, Bool.false_eq_true]
                              have HN := Lib.hid (hN v2 w7 (Chg.refl _ _) hF)
                              clear hN hF
                              go_simp
                              exact HN.out
                            intro w4 hw4
                            simp only [List.nil_append, List.cons_append, Ch.Fin, List.map_cons, List.map_nil, List.getD_cons_zero, List.getD_cons_succ]
                            intro v0 _ v1 _ v2' _ v2 _ hF
                            have f1 : OwnA w4 v2 (M.eraseIdx k) := hF.1
                            have f2 : ∀ b, v2.ownBlock = some b → w8.heap.size ≤ b := hF.2
                            clear hF
                            have hc4 : Chg Nil w8 w4 := hw4.weak (fun j hj => .inr hj)
                            have HC4 := Lib.hid (HC8.out.trans hc4 (fun _ h => h.elim))
                            have HI4 := Lib.hid (HI8.out.chg hc4 (fun _ _ h => h))
                            have HN4 : Hid (∀ k, v2.ownBlock = some k → w.heap.size ≤ k ∧ ¬ Has p sv' mb k) := fun j hj => by
                              have h1 := f2 j hj
                              have h2 := HC8.out.size
                              have h3 := HP3.out.chg.size
                              exact ⟨by omega, fun hh => by have := HP3.out.wl.lt j hh; omega⟩
                            have HU4 : Hid (∀ k, u2.ownBlock = some k → w3.heap.size ≤ k ∧ ¬ v2.ownBlock = some k) := fun j hj => ⟨(HU8.out j hj).1, fun e => by have := (HU8.out j hj).2; have := f2 j e; omega⟩
                            have HME : Hid ((M.eraseIdx k).length < M.length) := by unfold Hid; rw [List.length_eraseIdx_of_lt HKL.out]; have := HKL.out; omega
                            have HO4 := Lib.hid f1
                            have hvf := f1.form
                            generalize vA v2 = a4 at hvf
                            generalize vC v2 = c4 at hvf
                            subst hvf
                            clear f1 f2 hc4 hw4 HO8 HSRC hs1 hs2 HC8 HI8 HU8 HNE
                            go_wp2_with fail
                            go_roundw
                            case rel => exact ⟨W ++ [M[k]], M.eraseIdx k, a4, c4, ⟨rfl, rfl, rfl⟩, HTN.out, HO4.out, HI4.out, HC4.out, HN4.out, HU4.out⟩
                            case measure => exact HME.out
                · as_aux_lemma =>
                  have hw2b : (xw == 2) = false := beq_eq_false_iff_ne.2 hw2
                  have HST4 := Lib.hid HST2.out.next
                  clear HST2 hw0 hw1 hw2
                  go_wp2_with fail
                  go_meet
                  case rel => exact ⟨now, L, added, s, ids, sv, mb, a, c, rfl, rfl, HST4.out⟩
          obtain ⟨now, L, added, s, ids, sv, mb, a, c, rfl, rfl, hst⟩ := hcut
          have HST := Lib.hid hst
          clear hst
          have c0 := HST.out.pl.wl.c0
          rw [HST.out.now] at c0
          have HM := Lib.hid (many_any HST.out.pl.wl)
          have HLEN : Hid (ids.length = L.length) := by unfold Hid; rw [HST.out.pl.ids.length_eq, List.length_map]
          go_wp2_with fail
          refine (now_any c0).mono ?_
          rintro e wy ⟨rfl, hwy⟩
          obtain rfl := hwy.symm
          go_wp2_with fail
          refine HM.out.mono ?_
          rintro e wy ⟨rfl, hwy⟩
          obtain rfl := hwy.symm
          rw [HLEN.out]
          clear HM HLEN c0
          go_wp2_with fail
          go_roundw
          case rel => exact ⟨_, i + 1, now, L, added, s, ids, sv, mb, a, c, rfl, by omega, by go_num, rfl, rfl, HST.out⟩
          case measure => simp [RowKit.intOf]; omega
    · have hii : ¬ (i : Int) < (xs.length : Int) := by omega
      obtain rfl : i = xs.length := by omega
      go_wp2_with fail
      go_ret
      exact ⟨rfl, HST.out.pl.chg⟩
end Go.Proofs.YtdahefphohkhlaaDoor
