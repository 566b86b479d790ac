/-
  Segments ahead of the start go. (Of the logs' seat.)
-/
import Derived.Test.YtdjmifaidgbbaaaGreatDoorLc37
import Derived.Deep.CutBlock
set_option linter.unusedSimpArgs false
set_option linter.unusedVariables false
namespace Go.Proofs.YtdjmifaidgbbaaaGreatDoor
open Go.RowKit Go.Maps

/-- The log's first segment is out of its row. -/
theorem LgS.tail {B : Nat → Prop} {w w1 w2 : World} {p l : Nat} {S : Nat → Prop} {sv sv1 : Value} {x : Nat × Value} {ss : List (Nat × Value)} {d : Dk} {g : Lg} {s0 : Sg} {segs : List Sg} (h : LgS B w p l S sv (x :: ss) d g) (hg : g.segs = s0 :: segs)
    (ho : OwnT w1 sv1 (ss.map (·.1))) (hob : sv1.ownBlock = sv.ownBlock) (hc1 : Chg (fun k => sv.ownBlock = some k) w w1) (hc2 : Chg (fun k => k = l) w1 w2) (hb : Box w2 l (({ g with segs := segs } : Lg).cells p sv1) 99) :
    LgS B w2 p l S sv1 ss d { g with segs := segs } := by
  have hc : Chg (fun k => LHas l sv k) w w2 := (hc1.weak fun k hk => .inl (.inr hk)).trans hc2 (fun k hk => .inl (.inl hk))
  have hz := hc.size
  have hL : ∀ k, LHas l sv1 k → LHas l sv k := by
    rintro k (hk | hk)
    · exact .inl hk
    · exact .inr (hob ▸ hk)
  have hT : ∀ k, THas ss k → THas (x :: ss) k := fun k ⟨y, hy, hk⟩ => ⟨y, List.mem_cons_of_mem _ hy, hk⟩
  have hlen : ss.length = segs.length := by have := h.len; rw [hg] at this; simpa using this
  have hslv : sv1.ownBlock ≠ some l := fun e => by
    have h1 : w.heap[l]? = _ := h.c
    rw [hob] at e
    rcases h.o.2 with ⟨hv, _⟩ | ⟨b, cap, cur, hv, _, hgb, _⟩
    · rw [hv] at e; cases e
    · rw [hv] at e
      obtain rfl : b = l := Option.some.inj e
      rw [h1] at hgb
      exact absurd (Obj.cells.inj (Option.some.inj hgb)).2.1 (by decide)
  refine ⟨fun k hk => Nat.lt_of_lt_of_le (h.lo k hk) hz, h.a.chg hc (fun k hk hl => (h.sl k hk).2.1 hl), hb, ownsRow_chg ho hc2 (fun k hk e => hslv (e ▸ hk)), hlen, fun i hi => ?_,
    fun k hk => ⟨(h.sl k hk).1, fun hl => (h.sl k hk).2.1 (hL k hl), fun ht => (h.sl k hk).2.2.1 (hT k ht), Nat.lt_of_lt_of_le (h.sl k hk).2.2.2 hz⟩, fun k hk => ⟨(h.lb k (hL k hk)).1, fun ht => (h.lb k (hL k hk)).2 (hT k ht)⟩, fun k hk => h.tb k (hT k hk), fun i j hi hj hij k hk => ?_⟩
  · have h1 := (h.m (i + 1) (by simpa using hi)).chg hc (fun k hk hl => (h.lb k hl).2 (THas.of (i := i + 1) (by simpa using hi) hk))
    simp only [hg, List.getElem_cons_succ] at h1
    exact h1
  · exact h.apart (i + 1) (j + 1) (by simpa using hi) (by simpa using hj) (by omega) k hk

/-- Segments ahead of the start go, while there is one behind them. -/
def dropGo (start : Int) : List Sg → Dk → Nat × Dk × List Sg
  | s0 :: s1 :: r, d => if s1.base ≤ start then (if (d.remove s0.name).1 = 0 then dropGo start (s1 :: r) (d.remove s0.name).2 else ((d.remove s0.name).1, (d.remove s0.name).2, s0 :: s1 :: r)) else (0, d, s0 :: s1 :: r)
  | l, d => (0, d, l)
def dropLg (d : Dk) (g : Lg) : Nat × Dk × Lg := ((dropGo g.start g.segs d).1, (dropGo g.start g.segs d).2.1, ({ g with segs := (dropGo g.start g.segs d).2.2 } : Lg).fail (dropGo g.start g.segs d).1)
theorem fail_zero (g : Lg) : g.fail 0 = g := if_neg (by decide)
/-- Whether the first one goes. -/
def Lg.goes (g : Lg) : Bool := match g.segs with | _ :: s1 :: _ => decide (s1.base ≤ g.start) | _ => false
theorem drop_stay {d : Dk} {g : Lg} (h : g.goes = false) : dropLg d g = (0, d, g) := by
  unfold dropLg
  unfold Lg.goes at h
  match hs : g.segs with
  | [] => rw [show dropGo g.start [] d = (0, d, []) from rfl]; simp only [fail_zero]; rw [← hs]
  | [s] => rw [show dropGo g.start [s] d = (0, d, [s]) from rfl]; simp only [fail_zero]; rw [← hs]
  | s0 :: s1 :: r =>
    rw [hs] at h
    have hn : ¬ s1.base ≤ g.start := by simpa using h
    have e : dropGo g.start (s0 :: s1 :: r) d = (0, d, s0 :: s1 :: r) := by rw [dropGo]; exact if_neg hn
    rw [e]
    simp only [fail_zero]
    rw [← hs]
theorem drop_go {d : Dk} {g : Lg} {s0 s1 : Sg} {r : List Sg} (hs : g.segs = s0 :: s1 :: r) (h : s1.base ≤ g.start) : dropLg d g = if (d.remove s0.name).1 = 0 then dropLg (d.remove s0.name).2 { g with segs := s1 :: r } else ((d.remove s0.name).1, (d.remove s0.name).2, g.fail (d.remove s0.name).1) := by
  unfold dropLg
  have e : dropGo g.start (s0 :: s1 :: r) d = if (d.remove s0.name).1 = 0 then dropGo g.start (s1 :: r) (d.remove s0.name).2 else ((d.remove s0.name).1, (d.remove s0.name).2, s0 :: s1 :: r) := by rw [dropGo]; exact if_pos h
  rw [hs, e]
  split
  · rfl
  · simp only
    rw [← hs]
def lenAt (w : World) (l : Nat) : Nat := match w.cell? ⟨l, 3, none⟩ with | some (.slice _ n _) => n | _ => 0
theorem LgS.lenAt {B : Nat → Prop} {w : World} {p l : Nat} {S : Nat → Prop} {sv : Value} {ss : List (Nat × Value)} {d : Dk} {g : Lg} (h : LgS B w p l S sv ss d g) : lenAt w l = ss.length := by
  have c3 := h.c.cell (j := 3) rfl
  have hf := h.o.form
  rw [List.length_map] at hf
  rw [hf] at c3
  unfold Go.Proofs.YtdjmifaidgbbaaaGreatDoor.lenAt
  rw [c3]

set_option maxHeartbeats 0 in
set_option maxRecDepth 20000 in
theorem ldrop_any {B : Nat → Prop} {w : World} {p l : Nat} {S : Nat → Prop} {sv : Value} {ss : List (Nat × Value)} {d : Dk} {g : Lg} (h : LgS B w p l S sv ss d g) (hne : 0 < ss.length) (hfew : ss.length ≤ 10000) (hnm : ∀ s ∈ g.segs, s.name.length ≤ 1000) (hG : Handle w) (hB : B 0) :
    Calls Tryz.prog 64 #[.pointer (some ⟨l, 0, none⟩)] w fun e w' => e = .returned (errD (dropLg d g).1) ∧ (∃ S' sv' ss', LgS B w' p l S' sv' ss' (dropLg d g).2.1 (dropLg d g).2.2 ∧ 0 < ss'.length ∧ ss'.length ≤ ss.length) ∧ Chg (Off B) w w' := by
  have HH := Lib.hid h
  have HNM := Lib.hid hnm
  have HG := Lib.hid hG
  have HB := Lib.hid hB
  obtain ⟨R, hR⟩ : ∃ R, dropLg d g = R := ⟨_, rfl⟩
  have HR := Lib.hid hR
  rw [hR]
  clear h hnm hG hB hR
  go_enter Tryz.func64, Tryz.ntmps64
  go_wp2_with fail
  go_loopw [3] (fun ev wr => ∃ (wq : World) (S' : Nat → Prop) (sv' : Value) (ss' : List (Nat × Value)) (d' : Dk) (g' : Lg), wq = wr ∧ LgS B wr p l S' sv' ss' d' g' ∧ 0 < ss'.length ∧ ss'.length ≤ ss.length ∧ Hid (dropLg d' g' = R) ∧ Hid (∀ s ∈ g'.segs, s.name.length ≤ 1000) ∧ Chg (Off B) w wr) (fun _ wr => lenAt wr l)
  case atStart => exact ⟨_, S, sv, ss, d, g, rfl, HH.out, hne, Nat.le_refl _, HR.out, HNM.out, Chg.refl _ _⟩
  case round =>
    obtain ⟨wr, S', sv', ss', d', g', rfl, hs, hne', hle, hdr, hnm, hc⟩ := hrel
    have HS := Lib.hid hs
    have HDR : Hid _ := hdr
    have HNM' : Hid _ := hnm
    have HC := Lib.hid hc
    have HNE := Lib.hid hne'
    have HLE := Lib.hid hle
    have HLN := Lib.hid hs.lenAt
    have c3 := hs.c.cell (j := 3) rfl
    have c4 := hs.c.cell (j := 4) rfl
    obtain ⟨a, cap, hv, hcap, hcell⟩ := hs.o.val
    rw [List.length_map] at hv
    have HCELL : Hid (∀ i (hi : i < ss'.length), ∃ b, a = some ⟨b, 0, none⟩ ∧ wr.cell? ⟨b, i, none⟩ = some (.pointer (some ⟨ss'[i].1, 0, none⟩))) := fun i hi => by
      obtain ⟨b, hb, hz⟩ := hcell i (by rw [List.length_map]; exact hi)
      rw [List.getElem_map] at hz
      exact ⟨b, hb, hz⟩
    have hn1 : ss'.length ≤ 10000 := by omega
    subst hv
    clear hs hdr hnm hc hne' hle hcap hcell
    go_upto_region 1 with fail
    go_cut [23] (fun bv wy => bv = .bool g'.goes ∧ Chg Nil wr wy)
    case first =>
      by_cases h1 : 1 < ss'.length
      · have h1i : (1 : Int) < (ss'.length : Int) := by omega
        obtain ⟨b, rfl, hz⟩ := HCELL.out 1 h1
        have HBA : Hid (∀ w', Chg Nil wr w' → Calls Tryz.prog 57 #[.pointer (some ⟨ss'[1].1, 0, none⟩)] w' fun e w'' => e = .returned (.int .i64 (g'.segs[1]'(by rw [← HS.out.len]; exact h1)).base) ∧ Chg Nil w' w'') := fun w' hw => by
          refine (sbase_any ((HS.out.nil hw).m 1 h1)).mono ?_
          rintro e w'' ⟨h2, h3⟩
          rw [h3]
          exact ⟨h2, Chg.refl _ _⟩
        obtain ⟨s0, s1, r, hsg⟩ : ∃ s0 s1 r, g'.segs = s0 :: s1 :: r := by
          have h2 := HS.out.len
          rcases hq : g'.segs with _ | ⟨s0, _ | ⟨s1, r⟩⟩
          · rw [hq] at h2; simp only [List.length_nil] at h2; omega
          · rw [hq] at h2; simp only [List.length_singleton] at h2; omega
          · exact ⟨s0, s1, r, rfl⟩
        have hgo : g'.goes = decide (s1.base ≤ g'.start) := by unfold Lg.goes; rw [hsg]
        have e1 : (g'.segs[1]'(by rw [← HS.out.len]; exact h1)).base = s1.base := by simp only [hsg]; rfl
        rw [e1] at HBA
        have HGO := Lib.hid hgo
        obtain ⟨q, hq⟩ : ∃ q, ss'[1].1 = q := ⟨_, rfl⟩
        rw [hq] at hz HBA
        obtain ⟨b1, hb1⟩ : ∃ b1, s1.base = b1 := ⟨_, rfl⟩
        rw [hb1] at HBA HGO
        obtain ⟨st, hst⟩ : ∃ st, g'.start = st := ⟨_, rfl⟩
        rw [hst] at c4 HGO
        obtain ⟨n, hn⟩ : ∃ n, ss'.length = n := ⟨_, rfl⟩
        rw [hn] at c3 h1 h1i hn1
        clear hgo e1 hq hb1 hst hn hsg
        refine wp_region_mono _ (Chg Nil) (by kernel_rfl) (fun _ _ _ h k => h.trans k (fun _ h => h.elim)) [[], [0], [1], [2], [3], [4], [5], [6], [6, 7], [6, 8], [6, 9], [6, 10], [6, 11], [6, 12], [6], [6, 14], [6, 15], [6, 16], [6, 13, 17], [6, 18]] rfl (by kernel_rfl) (Chg.refl _ _).drew ?_
        iterate 3 ((with_reducible apply Walk.eq); case h => (intro w2 hw2 N hN; simp only [depsOf, List.filterMap_nil, List.filterMap_cons, List.getElem?_toArray, List.getElem?_cons_zero, List.getElem?_cons_succ, Option.bind_some, List.nil_append, List.cons_append, Ob]; go_simp; (try go_bits); with_reducible exact hN _ (Chg.refl _ _)))
        ((with_reducible apply Walk.eq); case h => (intro w2 hw2 N hN; have hq := hw2.cell c3 (fun h => h); simp only [depsOf, List.filterMap_nil, List.filterMap_cons, List.getElem?_toArray, List.getElem?_cons_zero, List.getElem?_cons_succ, Option.bind_some, List.nil_append, List.cons_append, Ob]; go_simp; with_reducible exact hN _ (Chg.refl _ _)))
        iterate 6 ((with_reducible apply Walk.eq); case h => (intro w2 hw2 N hN; simp only [depsOf, List.filterMap_nil, List.filterMap_cons, List.getElem?_toArray, List.getElem?_cons_zero, List.getElem?_cons_succ, Option.bind_some, List.nil_append, List.cons_append, Ob]; go_simp; (try go_bits); with_reducible exact hN _ (Chg.refl _ _)))
        ((with_reducible apply Walk.eq); case h => (intro w2 hw2 N hN; have hq := hw2.cell c3 (fun h => h); simp only [depsOf, List.filterMap_nil, List.filterMap_cons, List.getElem?_toArray, List.getElem?_cons_zero, List.getElem?_cons_succ, Option.bind_some, List.nil_append, List.cons_append, Ob]; go_simp; with_reducible exact hN _ (Chg.refl _ _)))
        ((with_reducible apply Walk.eq); case h => (intro w2 hw2 N hN; simp only [depsOf, List.filterMap_nil, List.filterMap_cons, List.getElem?_toArray, List.getElem?_cons_zero, List.getElem?_cons_succ, Option.bind_some, List.nil_append, List.cons_append, Ob]; go_simp; (try go_bits); with_reducible exact hN _ (Chg.refl _ _)))
        ((with_reducible apply Walk.eq); case h => (intro w2 hw2 N hN; have hq := hw2.cell hz (fun h => h); simp only [depsOf, List.filterMap_nil, List.filterMap_cons, List.getElem?_toArray, List.getElem?_cons_zero, List.getElem?_cons_succ, Option.bind_some, List.nil_append, List.cons_append, Ob]; go_simp; with_reducible exact hN _ (Chg.refl _ _)))
        (with_reducible apply Walk.eq); case h =>
          intro w2 hw2 N hN
          simp only [depsOf, List.filterMap_nil, List.filterMap_cons, List.getElem?_toArray, List.getElem?_cons_zero, List.getElem?_cons_succ, Option.bind_some, List.nil_append, List.cons_append, Ob]
          go_simp
          refine (HBA.out w2 hw2).mono ?_
          rintro e w5 ⟨rfl, hc5⟩
          exact ⟨_, rfl, hN _ hc5⟩
        iterate 3 ((with_reducible apply Walk.eq); case h => (intro w2 hw2 N hN; simp only [depsOf, List.filterMap_nil, List.filterMap_cons, List.getElem?_toArray, List.getElem?_cons_zero, List.getElem?_cons_succ, Option.bind_some, List.nil_append, List.cons_append, Ob]; go_simp; (try go_bits); with_reducible exact hN _ (Chg.refl _ _)))
        ((with_reducible apply Walk.eq); case h => (intro w2 hw2 N hN; have hq := hw2.cell c4 (fun h => h); simp only [depsOf, List.filterMap_nil, List.filterMap_cons, List.getElem?_toArray, List.getElem?_cons_zero, List.getElem?_cons_succ, Option.bind_some, List.nil_append, List.cons_append, Ob]; go_simp; with_reducible exact hN _ (Chg.refl _ _)))
        iterate 2 ((with_reducible apply Walk.eq); case h => (intro w2 hw2 N hN; simp only [depsOf, List.filterMap_nil, List.filterMap_cons, List.getElem?_toArray, List.getElem?_cons_zero, List.getElem?_cons_succ, Option.bind_some, List.nil_append, List.cons_append, Ob]; go_simp; (try go_bits); with_reducible exact hN _ (Chg.refl _ _)))
        intro w7 hw7
        simp only [List.nil_append, List.cons_append, Fin]
        have HW7 := Lib.hid hw7
        clear hw7
        go_simp
        go_wp2_with fail
        go_meet
        case rel => exact ⟨by rw [HGO.out], HW7.out⟩
      · have h1i : ¬ (1 : Int) < (ss'.length : Int) := by omega
        have hgo : g'.goes = false := by
          have h2 := HS.out.len
          unfold Lg.goes
          rcases hq : g'.segs with _ | ⟨s0, _ | ⟨s1, r⟩⟩
          · rfl
          · rfl
          · rw [hq] at h2; simp only [List.length_cons] at h2; omega
        have HGO := Lib.hid hgo
        obtain ⟨n, hn⟩ : ∃ n, ss'.length = n := ⟨_, rfl⟩
        rw [hn] at c3 h1 h1i hn1
        clear hgo hn
        refine wp_region_mono _ (Chg Nil) (by kernel_rfl) (fun _ _ _ h k => h.trans k (fun _ h => h.elim)) [[], [0], [1], [2], [3], [4], [5], [6], [6, 7], [6, 8], [6, 9], [6, 10], [6, 11], [6, 12], [6], [6, 14], [6, 15], [6, 16], [6, 13, 17], [6, 18]] rfl (by kernel_rfl) (Chg.refl _ _).drew ?_
        iterate 3 ((with_reducible apply Walk.eq); case h => (intro w2 hw2 N hN; simp only [depsOf, List.filterMap_nil, List.filterMap_cons, List.getElem?_toArray, List.getElem?_cons_zero, List.getElem?_cons_succ, Option.bind_some, List.nil_append, List.cons_append, Ob]; go_simp; (try go_bits); with_reducible exact hN _ (Chg.refl _ _)))
        ((with_reducible apply Walk.eq); case h => (intro w2 hw2 N hN; have hq := hw2.cell c3 (fun h => h); simp only [depsOf, List.filterMap_nil, List.filterMap_cons, List.getElem?_toArray, List.getElem?_cons_zero, List.getElem?_cons_succ, Option.bind_some, List.nil_append, List.cons_append, Ob]; go_simp; with_reducible exact hN _ (Chg.refl _ _)))
        iterate 16 ((with_reducible apply Walk.eq); case h => (intro w2 hw2 N hN; simp only [depsOf, List.filterMap_nil, List.filterMap_cons, List.getElem?_toArray, List.getElem?_cons_zero, List.getElem?_cons_succ, Option.bind_some, List.nil_append, List.cons_append, Ob]; go_simp; (try go_bits); with_reducible exact hN _ (Chg.refl _ _)))
        intro w7 hw7
        simp only [List.nil_append, List.cons_append, Fin]
        have HW7 := Lib.hid hw7
        clear hw7
        go_simp
        go_wp2_with fail
        go_meet
        case rel => exact ⟨by rw [HGO.out], HW7.out⟩
    obtain ⟨rfl, hcw⟩ := hcut
    have HS2 := Lib.hid (HS.out.nil hcw)
    have HCW : Hid (Chg (Off B) w wc) := HC.out.trans hcw (fun _ h => h.elim)
    have HCN := Lib.hid hcw
    clear hcw c3 c4
    cases hgo : g'.goes with
    | false =>
      have HEND : Hid (R = (0, d', g')) := by rw [← HDR.out]; exact drop_stay hgo
      clear hgo
      go_wp2_with fail
      go_ret
      rw [HEND.out]
      exact ⟨rfl, ⟨S', _, ss', HS2.out, HNE.out, HLE.out⟩, HCW.out⟩
    | true =>
      obtain ⟨s0, s1, r, hsg⟩ : ∃ s0 s1 r, g'.segs = s0 :: s1 :: r := by
        unfold Lg.goes at hgo
        rcases hq : g'.segs with _ | ⟨s0, _ | ⟨s1, r⟩⟩
        · rw [hq] at hgo; cases hgo
        · rw [hq] at hgo; cases hgo
        · exact ⟨s0, s1, r, rfl⟩
      have hbs : s1.base ≤ g'.start := by
        unfold Lg.goes at hgo
        rw [hsg] at hgo
        simpa using hgo
      have hstep := HDR.out
      rw [drop_go hsg hbs] at hstep
      obtain ⟨⟨rk, d2⟩, hM⟩ : ∃ M, d'.remove s0.name = M := ⟨_, rfl⟩
      rw [hM] at hstep
      have HSTEP : Hid ((if rk = 0 then dropLg d2 { g' with segs := s1 :: r } else (rk, d2, g'.fail rk)) = R) := hstep
      obtain ⟨x0, ss2, hss⟩ : ∃ x0 ss2, ss' = x0 :: ss2 := List.exists_cons_of_length_pos HNE.out
      subst hss
      have HNE2 : Hid (0 < ss2.length) := by
        have h2 := HS2.out.len
        rw [hsg] at h2
        simp only [List.length_cons] at h2
        unfold Hid
        omega
      have HRM : Hid (Calls Tryz.prog 102 #[.pointer (some ⟨x0.1, 0, none⟩)] wc fun e w'' => e = .returned (errD rk) ∧ (∃ S'', LgS B w'' p l S'' (.slice a (x0 :: ss2).length cap) (x0 :: ss2) d2 g') ∧ Chg (Off B) wc w'') := by
        have h1 := HS2.out.seg 0 (by simp)
        have e1 : g'.segs[0]'(by rw [hsg]; simp) = s0 := by simp only [hsg]; rfl
        rw [e1] at h1
        have h2 := sremove_any h1 (HNM'.out s0 (by rw [hsg]; simp))
        rw [hM] at h2
        refine h2.mono ?_
        rintro e w'' ⟨h3, ⟨S'', h4⟩, h5⟩
        have h6 := HS2.out.back (i := 0) (by simp) h4 h5
        refine ⟨h3, ⟨S'', ?_⟩, offI h5⟩
        have e3 : ({ g' with segs := g'.segs.set 0 s0 } : Lg) = g' := by
          have : g'.segs.set 0 s0 = g'.segs := by rw [hsg]; rfl
          rw [this]
        rw [e3] at h6
        exact h6
      have c3 := HS2.out.c.cell (j := 3) rfl
      obtain ⟨b, hb0, hz0⟩ := HCELL.out 0 HNE.out
      subst hb0
      have z0 : wc.cell? ⟨b, 0, none⟩ = some (.pointer (some ⟨x0.1, 0, none⟩)) := HCN.out.cell hz0 (fun h => h)
      have HSG := Lib.hid hsg
      have HBW := Lib.hid HB.out
      have hlp : (0 : Int) < ((x0 :: ss2).length : Int) := by simp only [List.length_cons]; omega
      clear hgo hbs hstep hM hz0 hsg
      obtain ⟨n, hn⟩ : ∃ n, (x0 :: ss2).length = n := ⟨_, rfl⟩
      have HN := Lib.hid hn
      rw [hn] at c3 HRM hn1 hlp
      clear hn
      go_wp2_with fail
      refine HRM.out.mono ?_
      rintro e w5 ⟨rfl, ⟨S5, hs5⟩, hc5⟩
      have HS5 := Lib.hid hs5
      have HC5 : Hid (Chg (Off B) w w5) := HCW.out.trans hc5 (fun k hk => .inl hk)
      clear hs5 hc5 c3 z0 HRM
      by_cases hrk : rk = 0
      · subst hrk
        have hz : errD 0 = .nilIface := rfl
        rw [hz]
        have HST2 : Hid (dropLg d2 { g' with segs := s1 :: r } = R) := by rw [← HSTEP.out]; exact (if_pos rfl).symm
        have HDE := Lib.hid (delete_any (l := ss2.map (·.1)) (x := x0.1) HS5.out.o (by rw [List.length_map]; have := HN.out; rw [List.length_cons] at this; omega))
        have c3 := HS5.out.c.cell (j := 3) rfl
        clear hz
        go_wp2_with fail
        refine HDE.out.mono ?_
        rintro e w6 ⟨v', rfl, hov, hob, hc6⟩
        obtain ⟨va, vn, vc, rfl⟩ := ownsRow_form hov
        have HOV := Lib.hid hov
        have HOB := Lib.hid hob
        have HC6 := Lib.hid hc6
        have hbx6 := HS5.out.c.chg hc6 (fun h => box_row_ne' HS5.out.c HS5.out.o (by decide) h)
        have HBX6 := Lib.hid hbx6
        have f3 := hbx6.free 3
        have c3' := hbx6.cell (j := 3) rfl
        clear hov hob hc6 hbx6 c3 HDE
        go_wp2_with fail
        have hset : Chg (fun k => k = l) w6 (w6.setCell ⟨l, 3, none⟩ (.slice va vn vc)) := (Chg.refl (fun k => k = l) _).setCell (.inl rfl) _
        have hfin := HS5.out.tail HSG.out HOV.out HOB.out HC6.out hset (HBX6.out.set 3 _)
        have hcf : Chg (Off B) w (w6.setCell ⟨l, 3, none⟩ (.slice va vn vc)) := (HC5.out.trans (HC6.out.weak (S' := Off B) (fun k hk => .inl (HS5.out.lb k (.inr hk)).1)) (fun k hk => .inl hk)).trans (hset.weak (S' := Off B) (fun k hk => .inl fun hb => (HS5.out.lb l (.inl rfl)).1 (hk ▸ hb))) (fun k hk => .inl hk)
        go_roundw
        case rel => exact ⟨_, S5, _, ss2, d2, _, rfl, hfin, HNE2.out, by have h1 := HLE.out; rw [List.length_cons] at h1; omega, HST2.out, fun s hs => HNM'.out s (by rw [HSG.out]; exact List.mem_cons_of_mem _ hs), hcf⟩
        case measure =>
          rw [hfin.lenAt, HLN.out]
          simp
      · have hz := errD_ne hrk
        rw [hz]
        have HST2 : Hid (R = (rk, d2, g'.fail rk)) := by rw [← HSTEP.out]; exact if_neg hrk
        have HFA := Lib.hid (lfail_any HS5.out (HG.out.chg HC5.out (fun hn => hn HB.out)) rk hrk)
        have HRK := Lib.hid hrk
        clear hz hrk
        go_wp2_with fail
        refine HFA.out.mono ?_
        rintro e w6 ⟨rfl, hs6, hc6⟩
        have HS6 := Lib.hid hs6
        have HC6 := Lib.hid (HC5.out.trans (HS5.out.offL hc6) (fun k hk => .inl hk))
        clear hs6 hc6 HFA
        go_wp2_with fail
        go_ret
        rw [HST2.out]
        exact ⟨by show _ = Ending.returned (errD rk); rw [errD_ne HRK.out]; rfl, ⟨S5, _, _, HS6.out, by simp, HLE.out⟩, HC6.out⟩
end Go.Proofs.YtdjmifaidgbbaaaGreatDoor
