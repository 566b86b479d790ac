/-
  The walk of Advance, its loop.
-/
import Derived.Test.YtdahefphohkhlaaDoorWhIntL
import Derived.Test.YtdahefphohkhlaaDoorWhSortW
import Derived.Deep.CutBlock
set_option linter.unusedSimpArgs false
set_option linter.unusedVariables false
namespace Go.Proofs.YtdahefphohkhlaaDoor
open Go.RowKit Go.Maps

/-- What going on to a time leaves: those that are due are told, in their order, and are gone. -/
def AdvPost (w : World) (p : Nat) (L : List Tm) (added : Nat) (sv : Nat → Value) (mb : Option Nat) (tt : Nat) (e : Ending) (w' : World) : Prop :=
  ∃ S : List Tm, List.Perm S (L.filter fun t => decide (t.at' ≤ tt)) ∧ S.Pairwise (fun x y => ¬ ltT y x) ∧ ∃ v, e = .returned (.tuple #[v, .nilIface]) ∧ OwnI w' v (S.map Tm.id) ∧
    ∃ s' sv' ids', Wl w' p s' ids' added sv' mb ∧ s'.now = tt ∧ InvK 7 s' ∧ List.Perm (allT s'.sl 449) (L.filter fun t => decide (tt < t.at')) ∧ List.Perm ids' ((L.filter fun t => decide (tt < t.at')).map Tm.id) ∧
      Chg (Has p sv mb) w w' ∧ (∀ i, Has p sv' mb i → Has p sv mb i ∨ w.heap.size ≤ i) ∧ ∀ k, v.ownBlock = some k → w.heap.size ≤ k ∧ ¬ Has p sv' mb k

set_option maxHeartbeats 4000000 in
set_option maxRecDepth 100000 in
theorem adv_any {w : World} {p : Nat} {s : Wh} {ids : List Int} {added : Nat} {sv : Nat → Value} {mb : Option Nat} (h : Wl w p s ids added sv mb) (hI : InvK 7 s) (L : List Tm) (hL : List.Perm (allT s.sl 449) L) (hll : L.length ≤ 10000)
    (hid : List.Perm ids (L.map Tm.id)) (hnum : ∀ t ∈ L, t.num ≤ 1000000000) (hwf : ∀ t ∈ L, (Lit.int .i64 t.id).wf = true) (tt : Nat) (hn : s.now ≤ tt) (ht : tt ≤ 1099511627776) :
    Calls Tryd.prog 8 #[.pointer (some ⟨p, 0, none⟩), .int .i64 (tt : Nat)] w (AdvPost w p L added sv mb tt) := by
  have c0 := h.c0
  have HW := Lib.hid h
  have HI := Lib.hid hI
  have HL := Lib.hid hL
  clear h hI hL
  have h1 : ¬ (tt : Int) < (s.now : Int) := by omega
  have h2 : ¬ (1099511627776 : Int) < (tt : Int) := by omega
  go_enter Tryd.func8, Tryd.ntmps8
  go_upto_block 0 with fail
  clear c0 h1 h2
  go_cut [6] (fun _ wy => ∃ s1 sv1 n, Wl wy p s1 ids added sv1 mb ∧ InvK 7 s1 ∧ List.Perm (allT s1.sl 449) L ∧ s1.now ≤ tt ∧ Chg (Has p sv mb) w wy ∧ (∀ i, Has p sv1 mb i → Has p sv mb i ∨ w.heap.size ≤ i) ∧ NextS s1 n ∧ tt < n)
  case first =>
    go_wp2_with fail
    go_loopw [6] (fun _ wr => ∃ wq s1 sv1, wq = wr ∧ Wl wr p s1 ids added sv1 mb ∧ InvK 7 s1 ∧ List.Perm (allT s1.sl 449) L ∧ s1.now ≤ tt ∧ Chg (Has p sv mb) w wr ∧ (∀ i, Has p sv1 mb i → Has p sv mb i ∨ w.heap.size ≤ i)) (fun _ wr => tt - clockAt p wr)
    case atStart => exact ⟨_, s, sv, rfl, HW.out, HI.out, HL.out, hn, Chg.refl _ _, fun i h => .inl h⟩
    case round =>
      obtain ⟨wr, s1, sv1, rfl, hw1, hi1, hp1, hn1, hc1, hh1⟩ := hrel
      have hclk := hw1.clockAt
      have HW1 := Lib.hid hw1
      have HI1 := Lib.hid hi1
      have HP1 := Lib.hid hp1
      have HC1 := Lib.hid hc1
      have HH1 := Lib.hid hh1
      have HCK := Lib.hid hclk
      have HX := Lib.hid (next_any hw1 tt hn1 ht)
      clear hw1 hi1 hp1 hc1 hh1 hclk
      go_wp2_with fail
      refine HX.out.mono ?_
      rintro e wy ⟨n, rfl, hwy, hlt, hle, hnx⟩
      obtain rfl := hwy.symm
      have HNX := Lib.hid hnx
      clear HX hnx
      by_cases hgt : tt < n
      · have hgi : (tt : Int) < (n : Int) := by omega
        go_wp2_with fail
        go_meet
        case rel => exact ⟨s1, sv1, n, HW1.out, HI1.out, HP1.out, hn1, HC1.out, HH1.out, HNX.out, hgt⟩
      · have hgi : ¬ (tt : Int) < (n : Int) := by omega
        have c0 := HW1.out.c0
        have f0 := HW1.out.fr 0
        go_upto_region 6 with fail
        have hcs := setCell_chg wr p 0 (.int .i64 (n : Nat))
        have HW2 := Lib.hid (HW1.out.clock n)
        have HI2 : Hid (InvK 0 { s1 with now := n }) := goOn_inv HI1.out HNX.out hlt (by omega)
        have HC2 := Lib.hid (HC1.out.trans hcs (fun i h => .inl (.inl h)))
        clear c0 f0 HNX HI1 HC1 HW1
        generalize wr.setCell ⟨p, 0, none⟩ (.int .i64 (n : Nat)) = wa at *
        have HP2 : Hid (List.Perm (allT { s1 with now := n }.sl 449) L) := HP1.out
        have HNW : Hid (({ s1 with now := n } : Wh).now = n) := rfl
        have HQ2 : Hid (∀ wz, clockAt p wz = n → tt - clockAt p wz < tt - clockAt p wr) := fun wz e => by rw [e, HCK.out]; omega
        clear HP1 HCK hlt
        generalize ({ s1 with now := n } : Wh) = s2 at *
        go_wp2_with fail
        go_loopw [37] (fun i wz => ∃ (wq : World) (k : Nat) (sv2 : Nat → Value), wq = wz ∧ k ≤ 7 ∧ i = .int .i64 k ∧ Wl wz p (turnTo s2 k) ids added sv2 mb ∧ Chg (Has p sv mb) w wz ∧ (∀ i, Has p sv2 mb i → Has p sv mb i ∨ w.heap.size ≤ i)) (fun i _ => 7 - (RowKit.intOf i).toNat)
        case atStart => exact ⟨_, 0, sv1, rfl, by omega, rfl, HW2.out, HC2.out, HH1.out⟩
        case round =>
          obtain ⟨wz, k, sv2, rfl, hk, rfl, hw3, hc3, hh3⟩ := hrel
          have HW3 := Lib.hid hw3
          have HC3 := Lib.hid hc3
          have HH3 := Lib.hid hh3
          clear hw3 hc3 hh3
          by_cases hk7 : k < 7
          · have hki : (k : Int) < 7 := by omega
            go_upto_region 9 with fail
            have hm0 : (0 : Int) ≤ (n : Int) / 2 ^ (6 * k) := by rw [shr64]; exact Int.natCast_nonneg _
            go_quiet (fail)
            go_upto_region 10 with fail
            have ho : 1 + k * 64 + ((n : Int) / 2 ^ (6 * k) % 64).toNat = 1 + (64 * k + n / 64 ^ k % 64) := by rw [shr64]; omega
            rw [ho]
            clear ho hm0
            have hcd : Chg Nil wz (wz.drewN nq) := (Chg.refl Nil wz).drewN nq
            generalize wz.drewN nq = wb at *
            have HW4 := Lib.hid (HW3.out.chg hcd (fun _ _ h => h))
            have HC4 := Lib.hid (HC3.out.trans hcd (fun _ h => h.elim))
            have HSZ := Lib.hid hcd.size
            have hmod : n / 64 ^ k % 64 < 64 := Nat.mod_lt _ (by omega)
            have HJ : Hid (64 * k + n / 64 ^ k % 64 < 449) := by unfold Hid; omega
            have HTK : Hid (turnTo s2 (k + 1) = putAll { turnTo s2 k with sl := upd (turnTo s2 k).sl (64 * k + n / 64 ^ k % 64) [] } ((turnTo s2 k).sl (64 * k + n / 64 ^ k % 64))) := by
              unfold Hid
              have e : n = (turnTo s2 k).now := by rw [turnTo_now, HNW.out]
              rw [e]
              rfl
            have HAL : Hid (List.Perm (allT (turnTo s2 k).sl 449) L) := (turnTo_all s2 k (by omega)).trans HP2.out
            clear hcd hmod HC3
            generalize 64 * k + n / 64 ^ k % 64 = j at *
            generalize turnTo s2 k = s3 at *
            obtain ⟨a, c, hsv, htm, hlc, hob⟩ := (HW4.out.own j HJ.out).rows
            have q0 := HW4.out.cs j HJ.out
            have qf := HW4.out.fr (1 + j)
            have hne : ∀ x, a = some x → x.block < wb.heap.size ∧ ¬ Has p (upd sv2 j (.slice none 0 0)) mb x.block := by
              intro x hx
              have hb := hob x hx
              refine ⟨(HW4.out.own j HJ.out).lt _ hb, ?_⟩
              rintro (e | e | ⟨j', hj', e⟩)
              · exact HW4.out.ne j HJ.out (by rw [hb, e])
              · exact HW4.out.mo HJ.out _ hb e
              · by_cases ej : j' = j
                · subst ej; rw [upd_same] at e; simp [Value.ownBlock] at e
                · rw [upd_other sv2 _ ej] at e
                  exact HW4.out.apart j j' _ HJ.out hj' (fun e => ej e.symm) hb e
            have hrow := HW4.out.row HJ.out (v' := .slice none 0 0) (l' := []) (Chg.refl _ _) (OwnTm.nil _) (fun k hk => by simp [Value.ownBlock] at hk)
            have hhas := Wl.row_has (p := p) (mb := mb) (w := wb) HJ.out (v' := .slice none 0 0) (sv := sv2) (fun k hk => by simp [Value.ownBlock] at hk)
            have hcs2 := setCell_chg wb p (1 + j) (.slice none 0 0)
            have htm2 := htm.chg hcs2 (fun x hx e => (hne x hx).2 (.inl e))
            have HROW := Lib.hid hrow
            have HHAS : Hid (∀ i, Has p (upd sv2 j (.slice none 0 0)) mb i → Has p sv mb i ∨ w.heap.size ≤ i) := fun i hi => by
              rcases hhas i hi with g | g
              · exact HH3.out i g
              · exact .inr (by have := HC4.out.size; omega)
            have HC5 := Lib.hid (HC4.out.trans hcs2 (fun i h => .inl (.inl h)))
            have HTM := Lib.hid htm2
            have HNE : Hid (∀ x, a = some x → x.block < (wb.setCell ⟨p, 1 + j, none⟩ (.slice none 0 0)).heap.size ∧ ¬ Has p (upd sv2 j (.slice none 0 0)) mb x.block) := fun x hx => ⟨Nat.lt_of_lt_of_le (hne x hx).1 hcs2.size, (hne x hx).2⟩
            have HLL : Hid ((s3.sl j).length + (allT (upd s3.sl j []) 449).length ≤ 10000) := by
              have e1 := (allT_take (f := s3.sl) HJ.out).length_eq
              rw [List.length_append] at e1
              have e2 := HAL.out.length_eq
              unfold Hid
              omega
            rw [hsv] at q0
            clear hrow hhas hcs2 htm htm2 hne hsv hob HW3 HW4 HC4 HH3 HAL HSZ
            go_upto_region 12 with fail
            clear q0 qf
            generalize wb.setCell ⟨p, 1 + j, none⟩ (.slice none 0 0) = wc at *
            generalize s3.sl j = l at *
            have HS4 : Hid (({ s3 with sl := upd s3.sl j [] } : Wh).sl = upd s3.sl j []) := rfl
            generalize ({ s3 with sl := upd s3.sl j [] } : Wh) = s4 at *
            rw [← HS4.out] at HLL
            clear HS4
            generalize upd sv2 j (.slice none 0 0) = sv4 at *
            go_wp2_with fail
            go_loopw [58] (fun i wz => ∃ (wq : World) (i' : Nat) (sv5 : Nat → Value), wq = wz ∧ i' ≤ l.length ∧ i = .int .i64 i' ∧ Wl wz p (putAll s4 (l.take i')) ids added sv5 mb ∧ TmsAt wz a l ∧ (∀ x, a = some x → x.block < wz.heap.size ∧ ¬ Has p sv5 mb x.block) ∧ Chg (Has p sv mb) w wz ∧ (∀ i, Has p sv5 mb i → Has p sv mb i ∨ w.heap.size ≤ i)) (fun i _ => l.length - (RowKit.intOf i).toNat)
            case atStart => exact ⟨_, 0, sv4, rfl, by omega, rfl, HROW.out, HTM.out, HNE.out, HC5.out, HHAS.out⟩
            case round =>
              obtain ⟨wd, i, sv5, rfl, hi, rfl, hw6, htm6, hne6, hc6, hh6⟩ := hrel
              have HW6 := Lib.hid hw6
              have HTM6 := Lib.hid htm6
              have HNE6 := Lib.hid hne6
              have HC6 := Lib.hid hc6
              have HH6 := Lib.hid hh6
              clear hw6 htm6 hne6 hc6 hh6 HROW HTM HNE HC5 HHAS
              by_cases hil : i < l.length
              · have hii : (i : Int) < (l.length : Int) := by omega
                have hib : i ≤ 10000 := by have := HLL.out; omega
                obtain ⟨b, off, rfl, hcell⟩ := HTM6.out i hil
                have y0 := hcell 0 _ rfl
                have y1 := hcell 1 _ rfl
                have y2 := hcell 2 _ rfl
                rw [Nat.add_zero] at y0
                have HLI : Hid (l[i] = l[i]) := rfl
                clear hcell
                have hal := (Chg.refl Nil wd).alloc (.cells #[.int .i64 (l[i].at' : Nat), .int .i64 l[i].id, .int .i64 (l[i].num : Nat)] 51)
                have HW7 := Lib.hid (HW6.out.chg hal (fun _ _ h => h))
                have HC7 := Lib.hid (HC6.out.trans hal (fun _ h => h.elim))
                have HTM7 := Lib.hid (HTM6.out.chg hal (fun _ _ h => h))
                have HSZ := Lib.hid hal.size
                have HML : Hid (∀ j, j < 449 → ((putAll s4 (l.take i)).sl j).length ≤ 1000000) := fun j hj => by
                  have e1 := row_le (f := (putAll s4 (l.take i)).sl) hj
                  have e2 := (putAll_all (l.take i) s4).length_eq
                  rw [List.length_append, List.length_take] at e2
                  have := HLL.out
                  omega
                have HPA : Hid (putAll s4 (l.take (i + 1)) = putS (putAll s4 (l.take i)) l[i]) := by
                  unfold Hid putAll
                  rw [List.take_succ_eq_append_getElem hil, List.foldl_append]
                  rfl
                clear hal HTM6 HC6
                go_wp2_with fail
                clear y0 y1 y2
                generalize wd.alloc (.cells #[.int .i64 (l[i].at' : Nat), .int .i64 l[i].id, .int .i64 (l[i].num : Nat)] 51) = we at *
                refine (put_any HW7.out l[i] HML.out).mono ?_
                rintro e wf ⟨rfl, sv7, hw7, hc7, hh7⟩
                have HW8 := Lib.hid hw7
                have HTM8 := Lib.hid (HTM7.out.chg hc7 (fun x hx => (HNE6.out x hx).2))
                have HNE8 : Hid (∀ x, some (⟨b, off, none⟩ : Addr) = some x → x.block < wf.heap.size ∧ ¬ Has p sv7 mb x.block) := fun x hx => by
                  have h1 := HNE6.out x hx
                  have h2 := hc7.size
                  have h3 := HSZ.out
                  refine ⟨by omega, fun hh => ?_⟩
                  rcases hh7 _ hh with g | g
                  · exact h1.2 g
                  · omega
                have HC8 := Lib.hid (HC7.out.trans hc7 (fun i h => HH6.out i h))
                have HH8 : Hid (∀ i, Has p sv7 mb i → Has p sv mb i ∨ w.heap.size ≤ i) := fun i hi => by
                  rcases hh7 i hi with g | g
                  · exact HH6.out i g
                  · exact .inr (by have := HC7.out.size; omega)
                clear hw7 hc7 hh7 HW7 HTM7 HNE6 HC7 HH6
                go_wp2_with fail
                go_roundw
                case rel => exact ⟨_, i + 1, sv7, rfl, by omega, by go_num, by rw [HPA.out]; exact HW8.out, HTM8.out, HNE8.out, HC8.out, HH8.out⟩
                case measure => simp [RowKit.intOf]; omega
              · have hii : ¬ (i : Int) < (l.length : Int) := by omega
                obtain rfl : i = l.length := by omega
                go_wp2_with fail
                go_roundw
                case rel =>
                  rw [List.take_length] at HW6
                  exact ⟨_, k + 1, sv5, rfl, by omega, by go_num, by rw [HTK.out]; exact HW6.out, HC6.out, HH6.out⟩
                case measure => simp [RowKit.intOf]; omega
          · have hki : ¬ (k : Int) < 7 := by omega
            obtain rfl : k = 7 := by omega
            go_wp2_with fail
            go_roundw
            case rel =>
              refine ⟨_, turnTo s2 7, sv2, rfl, HW3.out, turnTo_inv HI2.out 7 (by omega), (turnTo_all s2 7 (by omega)).trans HP2.out, ?_, HC3.out, HH3.out⟩
              rw [turnTo_now, HNW.out]
              omega
            case measure => exact HQ2.out wz (by rw [HW3.out.clockAt, turnTo_now, HNW.out])
  obtain ⟨s1, sv1, n, hw1, hi1, hp1, hn1, hc1, hh1, hnx, hgt⟩ := hcut
  have HW1 := Lib.hid hw1
  have HI1 := Lib.hid hi1
  have HP1 := Lib.hid hp1
  have HC1 := Lib.hid hc1
  have HH1 := Lib.hid hh1
  have HNX := Lib.hid hnx
  clear hw1 hi1 hp1 hc1 hh1 hnx HW HI HL
  have c0 := HW1.out.c0
  have f0 := HW1.out.fr 0
  go_upto_region 19 with fail
  have hcs := setCell_chg wc p 0 (.int .i64 (tt : Nat))
  have HW2 := Lib.hid (HW1.out.clock tt)
  have HI2 : Hid (InvK 7 { s1 with now := tt }) := goTo_inv HI1.out HNX.out hgt hn1 ht
  have HC2 := Lib.hid (HC1.out.trans hcs (fun i h => HH1.out i (.inl h)))
  have HP2 : Hid (List.Perm (allT { s1 with now := tt }.sl 449) L) := HP1.out
  have HNW : Hid (({ s1 with now := tt } : Wh).now = tt) := rfl
  clear c0 f0 hcs HW1 HI1 HP1 HC1 HNX
  generalize wc.setCell ⟨p, 0, none⟩ (.int .i64 (tt : Nat)) = w2 at *
  generalize ({ s1 with now := tt } : Wh) = s2 at *
  obtain ⟨hdue, hrest⟩ := due_perm HI2.out HP2.out
  rw [HNW.out] at hdue hrest
  have HDUE := Lib.hid hdue
  have HREST := Lib.hid hrest
  clear hdue hrest
  obtain ⟨a, c, hsv, _, hlc, hob⟩ := (HW2.out.own 448 (by omega)).rows
  have q0 := HW2.out.cs 448 (by omega)
  have qf := HW2.out.fr 449
  have HOW := Lib.hid (HW2.out.own 448 (by omega))
  rw [hsv] at q0
  have hne : ∀ x, a = some x → x.block < w2.heap.size ∧ ¬ Has p (upd sv1 448 (.slice none 0 0)) mb x.block := by
    intro x hx
    have hb := hob x hx
    refine ⟨(HW2.out.own 448 (by omega)).lt _ hb, ?_⟩
    rintro (e | e | ⟨j', hj', e⟩)
    · exact HW2.out.ne 448 (by omega) (by rw [hb, e])
    · exact HW2.out.mo (j := 448) (by omega) _ hb e
    · by_cases ej : j' = 448
      · subst ej; rw [upd_same] at e; simp [Value.ownBlock] at e
      · rw [upd_other sv1 _ ej] at e
        exact HW2.out.apart 448 j' _ (by omega) hj' (fun e => ej e.symm) hb e
  have hob' : ∀ k, (sv1 448).ownBlock = some k → ∃ x, a = some x ∧ x.block = k := by
    intro k hk
    rw [hsv] at hk
    cases a with
    | none => simp [Value.ownBlock] at hk
    | some x => exact ⟨x, rfl, by simpa [Value.ownBlock] using hk⟩
  have hrow := HW2.out.row (j := 448) (by omega) (v' := .slice none 0 0) (l' := []) (Chg.refl _ _) (OwnTm.nil _) (fun k hk => by simp [Value.ownBlock] at hk)
  have hhas := Wl.row_has (p := p) (mb := mb) (w := w2) (show 448 < 449 by omega) (v' := .slice none 0 0) (sv := sv1) (fun k hk => by simp [Value.ownBlock] at hk)
  have hcs2 := setCell_chg w2 p 449 (.slice none 0 0)
  have HOW3 := Lib.hid (HOW.out.chg hcs2 (fun k hk e => HW2.out.ne 448 (by omega) (by rw [hk, e])))
  have HROW := Lib.hid hrow
  have HHAS : Hid (∀ i, Has p (upd sv1 448 (.slice none 0 0)) mb i → Has p sv mb i ∨ w.heap.size ≤ i) := fun i hi => by
    rcases hhas i hi with g | g
    · exact HH1.out i g
    · exact .inr (by have := HC2.out.size; omega)
  have HC3 := Lib.hid (HC2.out.trans hcs2 (fun i h => HH1.out i (.inl h)))
  have HNE : Hid (∀ k, (sv1 448).ownBlock = some k → k < (w2.setCell ⟨p, 449, none⟩ (.slice none 0 0)).heap.size ∧ ¬ Has p (upd sv1 448 (.slice none 0 0)) mb k ∧ (Has p sv mb k ∨ w.heap.size ≤ k)) := fun k hk => by
    obtain ⟨x, hx, rfl⟩ := hob' k hk
    exact ⟨Nat.lt_of_lt_of_le (hne x hx).1 hcs2.size, (hne x hx).2, HH1.out _ (.inr (.inr ⟨448, by omega, hk⟩))⟩
  have HLD : Hid ((s2.sl 448).length ≤ 10000) := by
    have := row_le (f := s2.sl) (show 448 < 449 by omega)
    have e2 := HP2.out.length_eq
    unfold Hid
    omega
  have HBD : Hid (∀ t ∈ s2.sl 448, t.at' ≤ 1099511627776 ∧ t.num ≤ 1000000000) := fun t h => ⟨HI2.out.most 448 (by omega) t h, hnum t (List.mem_filter.1 (HDUE.out.mem_iff.1 h)).1⟩
  have HI3 : Hid (InvK 7 { s2 with sl := upd s2.sl 448 [] }) := by
    refine ⟨fun t ht => ?_, fun k i hk hi t ht => ?_, fun j hj t ht => ?_, HI2.out.now⟩
    · simp only [upd_same] at ht; cases ht
    · simp only at ht
      rw [upd_other s2.sl [] (by omega)] at ht
      exact HI2.out.slot k i hk hi t ht
    · simp only at ht
      by_cases e : j = 448
      · rw [e, upd_same] at ht; cases ht
      · rw [upd_other s2.sl [] e] at ht
        exact HI2.out.most j hj t ht
  have HNW3 : Hid (({ s2 with sl := upd s2.sl 448 [] } : Wh).now = tt) := HNW.out
  have HR3 : Hid (List.Perm (allT ({ s2 with sl := upd s2.sl 448 [] } : Wh).sl 449) (L.filter fun t => decide (tt < t.at'))) := HREST.out
  rw [hsv] at HOW3
  have HSV := Lib.hid hsv
  clear hrow hhas hcs2 hne hob hob' HW2 HC2 HH1 HOW HI2 HP2 HREST hsv
  go_upto_region 21 with fail
  clear q0 qf
  generalize w2.setCell ⟨p, 449, none⟩ (.slice none 0 0) = w3 at *
  generalize ({ s2 with sl := upd s2.sl 448 [] } : Wh) = s3 at *
  generalize upd sv1 448 (.slice none 0 0) = sv3 at *
  rw [HSV.out] at HNE
  generalize s2.sl 448 = l at *
  go_wp2_with fail
  refine (sort_any HOW3.out HBD.out (by have := HLD.out; omega)).mono ?_
  rintro e w4 ⟨rfl, S, hperm, hsort, how4, hc4⟩
  obtain ⟨a', c', hsl, htm, _, _⟩ := how4.rows
  simp only [Value.slice.injEq] at hsl
  obtain ⟨rfl, hlen, rfl⟩ := hsl
  have HW4 := Lib.hid (HROW.out.chg hc4 (fun i hi e => (HNE.out i e).2.1 hi))
  have HC4 := Lib.hid (HC3.out.trans hc4 (fun i e => (HNE.out i e).2.2))
  have HTM := Lib.hid htm
  have HSR : Hid (List.Perm ids ((S ++ L.filter fun t => decide (tt < t.at')).map Tm.id)) := by
    refine hid.trans (List.Perm.map _ ?_)
    refine List.Perm.trans ?_ ((hperm.trans HDUE.out).symm.append_right _)
    have e : ∀ l : List Tm, List.Perm l (l.filter (fun t => decide (t.at' ≤ tt)) ++ l.filter fun t => decide (tt < t.at')) := by
      intro l
      induction l with
      | nil => exact List.Perm.refl _
      | cons t l ih =>
        by_cases h : t.at' ≤ tt
        · have h' : ¬ tt < t.at' := by omega
          simp only [List.filter_cons, h, h', decide_true, decide_false, if_true, Bool.false_eq_true, if_false, List.cons_append]
          exact ih.cons t
        · have h' : tt < t.at' := by omega
          simp only [List.filter_cons, h, h', decide_true, decide_false, if_true, Bool.false_eq_true, if_false]
          exact (ih.cons t).trans List.perm_middle.symm
    exact e L
  have HSW : Hid (∀ t ∈ S, (Lit.int .i64 t.id).wf = true) := fun t h => hwf t (List.mem_filter.1 ((hperm.trans HDUE.out).mem_iff.1 h)).1
  have HSD : Hid (List.Perm S (L.filter fun t => decide (t.at' ≤ tt))) := hperm.trans HDUE.out
  have HSO := Lib.hid hsort
  have hsl : S.length ≤ 10000 := by rw [← hlen]; exact HLD.out
  have HBL : Hid (∀ x, a = some x → x.block < w4.heap.size ∧ ¬ Has p sv3 mb x.block) := fun x hx => by
    have := HNE.out x.block (by rw [hx]; rfl)
    exact ⟨Nat.lt_of_lt_of_le this.1 hc4.size, this.2.1⟩
  have HMB : Hid (∀ b, mb = some b → Has p sv mb b ∨ w.heap.size ≤ b) := fun b hb => HHAS.out b (.inr (.inl hb))
  rw [hlen]
  clear htm how4 hc4 hperm hsort HROW HC3 HOW3 HNE HBD HLD HDUE hlen HSV
  obtain ⟨R, hR⟩ : ∃ R, R = L.filter fun t => decide (tt < t.at') := ⟨_, rfl⟩
  rw [← hR] at HR3 HSR
  have HRR := Lib.hid hR
  clear hR
  go_wp2_with fail
  go_outline
  go_loopw [82, 13] (fun i u wz => ∃ (wq : World) (uq : Value) (i' : Nat) (ids' : List Int), wq = wz ∧ uq = u ∧ i' ≤ S.length ∧ i = .int .i64 i' ∧ OwnI wz u ((S.take i').map Tm.id) ∧ Wl wz p s3 ids' added sv3 mb ∧ List.Perm ids' ((S.drop i' ++ R).map Tm.id) ∧ TmsAt wz a S ∧ Chg (Has p sv mb) w wz ∧ w4.heap.size ≤ wz.heap.size ∧ ∀ k, u.ownBlock = some k → w4.heap.size ≤ k) (fun i _ _ => S.length - (RowKit.intOf i).toNat)
  case atStart => exact ⟨_, _, 0, ids, rfl, rfl, by omega, rfl, OwnI.nil _, HW4.out, HSR.out, HTM.out, HC4.out, Nat.le_refl _, by simp [Value.ownBlock]⟩
  case round =>
    obtain ⟨wd, u, i, ids', rfl, rfl, hi, rfl, hown, hw5, hpi, htm5, hc5, hz5, hub⟩ := hrel
    have HO5 := Lib.hid hown
    have HW5 := Lib.hid hw5
    have HP5 := Lib.hid hpi
    have HT5 := Lib.hid htm5
    have HC5 := Lib.hid hc5
    have HZ5 := Lib.hid hz5
    have HU5 := Lib.hid hub
    clear hown hw5 hpi htm5 hc5 hz5 hub
    by_cases hil : i < S.length
    · have hii : (i : Int) < (S.length : Int) := by omega
      have hib : i ≤ 10000 := by omega
      have HDR : Hid (S.drop i = S[i] :: S.drop (i + 1)) := List.drop_eq_getElem_cons hil
      have HTK : Hid ((S.take (i + 1)).map Tm.id = (S.take i).map Tm.id ++ [S[i].id]) := by
        unfold Hid
        rw [List.take_succ_eq_append_getElem hil, List.map_append]
        rfl
      have HWF : Hid ((Lit.int .i64 S[i].id).wf = true) := HSW.out _ (List.getElem_mem hil)
      obtain ⟨b, hb⟩ : ∃ b, mb = some b := by
        have h5 := HW5.out.ids
        rcases h5.2 with ⟨_, e⟩ | ⟨b, D, e, _⟩
        · exfalso
          have h6 := HP5.out.length_eq
          rw [e, HDR.out] at h6
          simp only [List.length_nil, List.length_map, List.cons_append, List.length_cons] at h6
          omega
        · exact ⟨b, e⟩
      subst hb
      obtain ⟨b0, off, ha, hcell⟩ := HT5.out i hil
      subst ha
      have y0 := hcell 0 _ rfl
      have y1 := hcell 1 _ rfl
      have y2 := hcell 2 _ rfl
      rw [Nat.add_zero] at y0
      have hal := (Chg.refl Nil wd).alloc (.cells #[.int .i64 (S[i].at' : Nat), .int .i64 S[i].id, .int .i64 (S[i].num : Nat)] 51)
      have hbx := Box.new wd [.int .i64 (S[i].at' : Nat), .int .i64 S[i].id, .int .i64 (S[i].num : Nat)] 51
      have HW6 := Lib.hid (HW5.out.chg hal (fun _ _ h => h))
      have HC6 := Lib.hid (HC5.out.trans hal (fun _ h => h.elim))
      have HT6 := Lib.hid (HT5.out.chg hal (fun _ _ h => h))
      have HO6 := Lib.hid (HO5.out.chg hal (fun _ _ h => h))
      have HZ6 := Lib.hid (Nat.le_trans HZ5.out hal.size)
      have HSG := Lib.hid (hal.size)
      have hgne : ¬ wd.heap.size = b := fun e => by have := HW5.out.lt b (.inr (.inl rfl)); omega
      have hgp : ¬ wd.heap.size = p := fun e => by have := HW5.out.lt p (.inl rfl); omega
      clear hcell hal HW5 HC5 HT5 HO5 HZ5
      go_upto_region 26 with fail
      clear y0 y1 y2
      generalize wd.alloc (.cells #[.int .i64 (S[i].at' : Nat), .int .i64 S[i].id, .int .i64 (S[i].num : Nat)] 51) = we at *
      generalize wd.heap.size = g at *
      have z1 := hbx.cell (j := 1) rfl
      have cm := HW6.out.cm
      have HMP := Lib.hid HW6.out.mp
      have HBX := Lib.hid hbx
      clear hbx
      refine Ch.wp_region_chain _ (Chg (fun i => i = b)) [6] (fun vs w => match vs with | [] => IdsAt w (some b) ids' | _ => IdsAt w (some b) (ids'.erase S[i].id)) (by kernel_rfl) (fun _ => Chg.refl _ _) (fun _ _ _ h k => h.trans k (fun _ h => .inl h)) [[], [0], [1], [2], [], [4], [3, 5]] rfl (by kernel_rfl) (by kernel_rfl) (Chg.refl _ _).drew ?_ ?_
      · exact HW6.out.ids.chg (Chg.refl Nil _).drew (fun _ _ h => h)
      iterate 3 ((with_reducible apply Ch.Walk.eq); (case hd => rfl); (case hi => rfl); case h => (intro w2 hw2 N hN; simp only [Ch.depsOf, List.filterMap_nil, List.filterMap_cons, List.getElem?_toArray, List.getElem?_cons_zero, List.getElem?_cons_succ, Option.bind_some, List.nil_append, List.cons_append, Ch.Ob]; go_simp; (try go_bits); with_reducible exact hN _ (Chg.refl _ _) (fun _ h => h)))
      ((with_reducible apply Ch.Walk.eq); (case hd => rfl); (case hi => rfl); case h => (intro w2 hw2 N hN; (have hq := hw2.cell cm (fun e => HMP.out (congrArg some (show p = b from e)).symm)); simp only [Ch.depsOf, List.filterMap_nil, List.filterMap_cons, List.getElem?_toArray, List.getElem?_cons_zero, List.getElem?_cons_succ, Option.bind_some, List.nil_append, List.cons_append, Ch.Ob]; go_simp; (try go_bits); with_reducible exact hN _ (Chg.refl _ _) (fun _ h => h)))
      ((with_reducible apply Ch.Walk.eq); (case hd => rfl); (case hi => rfl); case h => (intro w2 hw2 N hN; simp only [Ch.depsOf, List.filterMap_nil, List.filterMap_cons, List.getElem?_toArray, List.getElem?_cons_zero, List.getElem?_cons_succ, Option.bind_some, List.nil_append, List.cons_append, Ch.Ob]; go_simp; (try go_bits); with_reducible exact hN _ (Chg.refl _ _) (fun _ h => h)))
      ((with_reducible apply Ch.Walk.eq); (case hd => rfl); (case hi => rfl); case h => (intro w2 hw2 N hN; (have hq := hw2.cell z1 (fun e => hgne e)); simp only [Ch.depsOf, List.filterMap_nil, List.filterMap_cons, List.getElem?_toArray, List.getElem?_cons_zero, List.getElem?_cons_succ, Option.bind_some, List.nil_append, List.cons_append, Ch.Ob]; go_simp; (try go_bits); with_reducible exact hN _ (Chg.refl _ _) (fun _ h => h)))
      refine Ch.Walk.chainS 0 rfl rfl ?_ ?_
      · intro w7 hw7 vs hvs hF N hN
        obtain rfl := List.eq_nil_of_length_eq_zero hvs
        simp only [Ch.depsOf, List.filterMap_nil, List.filterMap_cons, List.getElem?_toArray, List.getElem?_cons_zero, List.getElem?_cons_succ, Option.bind_some, List.nil_append, List.cons_append, Ch.Ob, Ch.chained_get, Option.map_some, List.idxOf?, List.findIdx?, List.findIdx?.go, Nat.reduceBEq, List.getD_cons_zero, List.getD_cons_succ, Nat.reduceAdd, if_true, if_false, Bool.false_eq_true]
        obtain ⟨w8, hrun, hids, hchg⟩ := IdsAt.drop hF HWF.out 0
        have HN := Lib.hid (hN w8 hchg hids)
        clear hF hN hids hchg
        go_simp
        exact HN.out
      intro w7 hw7
      simp only [List.nil_append, List.cons_append, Ch.Fin, List.map_cons, List.map_nil, List.getD_cons_zero, List.getD_cons_succ]
      intro hids
      have HIDS : Hid (IdsAt w7 (some b) (ids'.erase S[i].id)) := hids
      have HW7 := Lib.hid (HW6.out.turned hw7 HIDS.out)
      have HC7 := Lib.hid (HC6.out.trans hw7 (fun j e => HMB.out j (by rw [show j = b from e])))
      have hab : ∀ x, some (⟨b0, off, none⟩ : Addr) = some x → ¬ x.block = b := fun x hx e => (HBL.out x hx).2 (.inr (.inl (by rw [e])))
      have HT7 := Lib.hid (HT6.out.chg hw7 hab)
      have hub7 : ∀ k, u.ownBlock = some k → ¬ k = b := fun k hk e => by
        have h1 := HU5.out k hk
        have h2 := HW4.out.lt b (.inr (.inl rfl))
        omega
      have HO7 := Lib.hid (HO6.out.chg hw7 hub7)
      have HZ7 := Lib.hid (Nat.le_trans HZ6.out hw7.size)
      have HP7 : Hid (List.Perm (ids'.erase S[i].id) ((S.drop (i + 1) ++ R).map Tm.id)) := erase_step (by have := HP5.out; rwa [HDR.out] at this)
      have z1 := hw7.cell z1 (fun e => hgne e)
      have hlb : ((S.take i).map Tm.id).length + 1 ≤ 1000000 := by rw [List.length_map, List.length_take]; omega
      have HLB := Lib.hid hlb
      clear hids HIDS HW6 HC6 HT6 HO6 HZ6 HP5 hab hub7 cm HBX hw7 hlb
      go_wp2_with (at_builtin; go_must (refine wpList_append_grew rfl (.tmp 92) (.tmp 95) 40 40 rfl intsT _ Tryd.underlying40 (by intro _; simp) u _ _ rfl (ownsRow_chg HO7.out ((Chg.refl Nil _).alloc _) (fun _ _ h => h)) _ 1 [ival S[i].id] rfl (Source.box (Box.new _ [ival S[i].id] _) rfl (by intro v hv; simp [ival] at hv; subst hv; rfl)) (by have := HLB.out; unfold maxLen; omega) (by have := HLB.out; omega) ?_); intro v2 w8 hown2 hg2 _)
      have hal8 := (Chg.refl Nil w7).alloc (.cells #[.int .i64 S[i].id] 3)
      have hc8 : Chg (Own u) w7 w8 := (hal8.weak (fun _ h => h.elim)).trans hg2.chg (fun _ h => .inl h)
      have hun : ∀ k, Own u k → ¬ Has p sv3 (some b) k := fun k hk hh => by
        have h1 := HU5.out k hk
        have h2 := HW4.out.lt k hh
        omega
      have HO8 : Hid (OwnI w8 v2 ((S.take (i + 1)).map Tm.id)) := by
        unfold Hid OwnI
        rw [HTK.out, List.length_append, List.map_append]
        exact hown2
      have HW8 := Lib.hid (HW7.out.chg hc8 (fun k hk e => hun k e hk))
      have HT8 := Lib.hid (HT7.out.chg hc8 (fun x hx e => by
        have h1 := HU5.out _ e
        have h2 := (HBL.out x hx).1
        omega))
      have HC8 := Lib.hid (HC7.out.trans hc8 (fun k hk => .inr (by have h1 := HU5.out k hk; have := HC4.out.size; omega)))
      have HZ8 := Lib.hid (Nat.le_trans HZ7.out hc8.size)
      have HU8 : Hid (∀ k, v2.ownBlock = some k → w4.heap.size ≤ k) := fun k hk => by
        rcases hg2.own k hk with h | h
        · exact HU5.out k h
        · have h1 := hal8.size
          have h2 := HZ7.out
          omega
      exact ⟨⟨_, _, i + 1, _, rfl, rfl, by omega, by go_num, HO8.out, HW8.out, HP7.out, HT8.out, HC8.out, HZ8.out, HU8.out⟩, by simp [RowKit.intOf]; omega⟩
    · have hii : ¬ (i : Int) < (S.length : Int) := by omega
      obtain rfl : i = S.length := by omega
      go_wp2_with fail
      go_ret2
      rw [List.take_length] at HO5
      rw [List.drop_length, List.nil_append] at HP5
      refine ⟨S, HSD.out, HSO.out, u, rfl, HO5.out, s3, sv3, ids', HW5.out, HNW3.out, HI3.out, by rw [← HRR.out]; exact HR3.out, by rw [← HRR.out]; exact HP5.out, HC5.out, HHAS.out, fun k hk => ⟨?_, fun hh => ?_⟩⟩
      · have h1 := HU5.out k hk
        have := HC4.out.size
        omega
      · have h1 := HU5.out k hk
        have h2 := HW4.out.lt k hh
        omega
end Go.Proofs.YtdahefphohkhlaaDoor
