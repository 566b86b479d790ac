/-
  The walk of the program's answer.
-/
import Derived.Test.YtmklicodfiggnaaDoorTellL
import Derived.Test.YtmklicodfiggnaaDoorReqW
set_option linter.unusedSimpArgs false
namespace Go.Proofs.YtmklicodfiggnaaDoor
open Go.RowKit

set_option maxHeartbeats 4000000 in
set_option maxRecDepth 100000 in
theorem wans_any (g : Nat) (v0 : Value) (s0 : WS) (kind corr err offset start fin : Int) (found : Bool) (recs : List Rec) (a : Option Addr) (cap : Nat) (tops : List Tp) (b : Option Addr) (bcap : Nat) (w : World) (hk : 1 ≤ kind ∧ kind ≤ 7) (hl : recs.length ≤ 20000) (hsz : ∀ r ∈ recs, r.key.size ≤ 1048576 ∧ r.value.size ≤ 1048576) (hlt : tops.length ≤ 20000) (hst : ∀ t ∈ tops, t.name.size ≤ 1048576) (hs : s0.1.length ≤ 1000)
    (h : Wr 68 w g v0 s0) (hr : RecsAt w a recs) (ha : 0 < recs.length → ∀ y, a = some y → y.block ≠ g ∧ v0.ownBlock ≠ some y.block) (ht : TopsAt w b tops) (hb : 0 < tops.length → ∀ y, b = some y → y.block ≠ g ∧ v0.ownBlock ≠ some y.block) :
    Calls Tryd.prog 33 #[.pointer (some ⟨g, 0, none⟩), .agg #[.int .i64 kind, .int .i64 corr, .int .i64 err, .int .i64 offset, .int .i64 start, .int .i64 fin, .bool found, .slice a recs.length cap, .slice b tops.length bcap]] w fun e w' => e = .returned (.tuple #[]) ∧ ∃ v', Wr 68 w' g v' (ansW s0 ⟨kind, corr, err, offset, start, fin, found, recs, tops⟩) ∧ Step g w w' v0 v' := by
  have hpA := Box.new w [.int .i64 kind, .int .i64 corr, .int .i64 err, .int .i64 offset, .int .i64 start, .int .i64 fin, .bool found, .slice a recs.length cap, .slice b tops.length bcap] 37
  have hal0 := (Chg.refl Nil w).alloc (.cells #[.int .i64 kind, .int .i64 corr, .int .i64 err, .int .i64 offset, .int .i64 start, .int .i64 fin, .bool found, .slice a recs.length cap, .slice b tops.length bcap] 37)
  have hW0 := h.alloc (.cells #[.int .i64 kind, .int .i64 corr, .int .i64 err, .int .i64 offset, .int .i64 start, .int .i64 fin, .bool found, .slice a recs.length cap, .slice b tops.length bcap] 37)
  have hpn : v0.ownBlock ≠ some w.heap.size := fun e => by have := h.own.lt _ e; omega
  have hpg : w.heap.size ≠ g := by have := h.lt; omega
  have hr0 := hr.chg hal0 (fun _ _ h => h)
  have ht0 := ht.chg hal0 (fun _ _ h => h)
  have ha0 := ha
  have hb0 := hb
  have hltT := hlt
  go_enter Tryd.func33, Tryd.ntmps33
  go_upto_region 1 with fail
  clear h hr ha ht hb hlt
  generalize w.alloc (.cells #[.int .i64 kind, .int .i64 corr, .int .i64 err, .int .i64 offset, .int .i64 start, .int .i64 fin, .bool found, .slice a recs.length cap, .slice b tops.length bcap] 37) = w0 at *
  generalize w.heap.size = p at *
  have hp0 : Box w0 p [.int .i64 kind, .int .i64 corr, .int .i64 err, .int .i64 offset, .int .i64 start, .int .i64 fin, .bool found, .slice a recs.length cap, .slice b tops.length bcap] 37 ∧ v0.ownBlock ≠ some p := ⟨hpA, hpn⟩
  clear hpA hpn
  obtain ⟨B0, hB0⟩ : ∃ B0, B0 = s0.1.length := ⟨_, rfl⟩
  have hB1 : B0 ≤ 1000 := by omega
  obtain rfl | rfl | rfl | rfl | rfl | rfl | rfl : kind = 1 ∨ kind = 2 ∨ kind = 3 ∨ kind = 4 ∨ kind = 5 ∨ kind = 6 ∨ kind = 7 := by omega
  · have q0 := hp0.1.cell (j := 0) rfl
    have q3 := hp0.1.cell (j := 3) rfl
    have HS : Hid (ansW s0 ⟨1, corr, err, offset, start, fin, found, recs, tops⟩ = (numsW s0 [offset])) := rfl
    go_wp2_with fail
    refine (wnum_one g v0 s0 (offset) w0 (by omega) hW0).mono ?_
    rintro e w1 ⟨rfl, v1, hW1, hS1⟩
    have hp1 := hS1.keeps hp0.1 hpg hp0.2
    have hb1 : (numsW s0 [offset]).1.length ≤ B0 + 6 := by
      have := numsW_len s0 [offset]
      (try simp only [List.length_cons, List.length_nil] at this)
      omega
    clear q0 q3
    have q0 := hp1.1.cell (j := 0) rfl
    have q3 := hp1.1.cell (j := 3) rfl
    go_wp2_with fail
    go_end0
    exact ⟨rfl, v1, by rw [HS.out]; exact hW1, Step.pre hal0 (hS1)⟩
  · have q0 := hp0.1.cell (j := 0) rfl
    have q4 := hp0.1.cell (j := 4) rfl
    have q5 := hp0.1.cell (j := 5) rfl
    have q7 := hp0.1.cell (j := 7) rfl
    have HS : Hid (ansW s0 ⟨2, corr, err, offset, start, fin, found, recs, tops⟩ = (recsW true (numsW s0 [start, fin]) recs)) := rfl
    go_wp2_with fail
    refine (wnum_l2 g v0 s0 (start) (fin) w0 (by omega) hW0).mono ?_
    rintro e w1 ⟨rfl, v1, hW1, hS1⟩
    have hp1 := hS1.keeps hp0.1 hpg hp0.2
    have hb1 : (numsW s0 [start, fin]).1.length ≤ B0 + 12 := by
      have := numsW_len s0 [start, fin]
      (try simp only [List.length_cons, List.length_nil] at this)
      omega
    clear q0 q4 q5 q7
    have q0 := hp1.1.cell (j := 0) rfl
    have q4 := hp1.1.cell (j := 4) rfl
    have q5 := hp1.1.cell (j := 5) rfl
    have q7 := hp1.1.cell (j := 7) rfl
    obtain ⟨hrJ, haJ⟩ := (hS1).recs hr0 ha0
    go_wp2_with fail
    refine (wrecs_any true g v1 (numsW s0 [start, fin]) a recs cap w1 hl hsz (by omega) hW1 hrJ haJ).mono ?_
    rintro e w2 ⟨rfl, v2, hW2, hS2⟩
    have hp2 := hS2.keeps hp1.1 hpg hp1.2
    have hb2 : (recsW true (numsW s0 [start, fin]) recs).1.length ≤ B0 + 42000000018 := by
      have := And.intro (recsW_len true (numsW s0 [start, fin]) recs hsz) (Nat.mul_le_mul_left 2100000 hl)
      (try simp only [List.length_cons, List.length_nil] at this)
      omega
    clear q0 q4 q5 q7
    have q0 := hp2.1.cell (j := 0) rfl
    have q4 := hp2.1.cell (j := 4) rfl
    have q5 := hp2.1.cell (j := 5) rfl
    have q7 := hp2.1.cell (j := 7) rfl
    go_wp2_with fail
    go_end0
    exact ⟨rfl, v2, by rw [HS.out]; exact hW2, Step.pre hal0 ((hS1.trans hS2))⟩
  · cases found
    · have q0 := hp0.1.cell (j := 0) rfl
      have q3 := hp0.1.cell (j := 3) rfl
      have q6 := hp0.1.cell (j := 6) rfl
      have HS : Hid (ansW s0 ⟨3, corr, err, offset, start, fin, false, recs, tops⟩ = (truthW s0 false)) := rfl
      go_wp2_with fail
      refine (wtruth_any g v0 s0 false w0 (by omega) hW0).mono ?_
      rintro e w1 ⟨rfl, v1, hW1, hS1⟩
      have hp1 := hS1.keeps hp0.1 hpg hp0.2
      have hb1 : (truthW s0 false).1.length ≤ B0 + 6 := by
        have := And.intro (truthW_len s0 false) (Nat.zero_le ([] : List Nat).length)
        (try simp only [List.length_cons, List.length_nil] at this)
        omega
      clear q0 q3 q6
      have q0 := hp1.1.cell (j := 0) rfl
      have q3 := hp1.1.cell (j := 3) rfl
      have q6 := hp1.1.cell (j := 6) rfl
      go_wp2_with fail
      go_end0
      exact ⟨rfl, v1, by rw [HS.out]; exact hW1, Step.pre hal0 (hS1)⟩
    · have q0 := hp0.1.cell (j := 0) rfl
      have q3 := hp0.1.cell (j := 3) rfl
      have q6 := hp0.1.cell (j := 6) rfl
      have HS : Hid (ansW s0 ⟨3, corr, err, offset, start, fin, true, recs, tops⟩ = (numsW (truthW s0 true) [offset])) := rfl
      go_wp2_with fail
      refine (wtruth_any g v0 s0 true w0 (by omega) hW0).mono ?_
      rintro e w1 ⟨rfl, v1, hW1, hS1⟩
      have hp1 := hS1.keeps hp0.1 hpg hp0.2
      have hb1 : (truthW s0 true).1.length ≤ B0 + 6 := by
        have := And.intro (truthW_len s0 true) (Nat.zero_le ([] : List Nat).length)
        (try simp only [List.length_cons, List.length_nil] at this)
        omega
      clear q0 q3 q6
      have q0 := hp1.1.cell (j := 0) rfl
      have q3 := hp1.1.cell (j := 3) rfl
      have q6 := hp1.1.cell (j := 6) rfl
      go_wp2_with fail
      refine (wnum_one g v1 (truthW s0 true) (offset) w1 (by omega) hW1).mono ?_
      rintro e w2 ⟨rfl, v2, hW2, hS2⟩
      have hp2 := hS2.keeps hp1.1 hpg hp1.2
      have hb2 : (numsW (truthW s0 true) [offset]).1.length ≤ B0 + 12 := by
        have := numsW_len (truthW s0 true) [offset]
        (try simp only [List.length_cons, List.length_nil] at this)
        omega
      clear q0 q3 q6
      have q0 := hp2.1.cell (j := 0) rfl
      have q3 := hp2.1.cell (j := 3) rfl
      have q6 := hp2.1.cell (j := 6) rfl
      go_wp2_with fail
      go_end0
      exact ⟨rfl, v2, by rw [HS.out]; exact hW2, Step.pre hal0 ((hS1.trans hS2))⟩
  · have q0 := hp0.1.cell (j := 0) rfl
    have q4 := hp0.1.cell (j := 4) rfl
    have HS : Hid (ansW s0 ⟨4, corr, err, offset, start, fin, found, recs, tops⟩ = (numsW s0 [start])) := rfl
    go_wp2_with fail
    refine (wnum_one g v0 s0 (start) w0 (by omega) hW0).mono ?_
    rintro e w1 ⟨rfl, v1, hW1, hS1⟩
    have hp1 := hS1.keeps hp0.1 hpg hp0.2
    have hb1 : (numsW s0 [start]).1.length ≤ B0 + 6 := by
      have := numsW_len s0 [start]
      (try simp only [List.length_cons, List.length_nil] at this)
      omega
    clear q0 q4
    have q0 := hp1.1.cell (j := 0) rfl
    have q4 := hp1.1.cell (j := 4) rfl
    go_wp2_with fail
    go_end0
    exact ⟨rfl, v1, by rw [HS.out]; exact hW1, Step.pre hal0 (hS1)⟩
  · have q0 := hp0.1.cell (j := 0) rfl
    have HS : Hid (ansW s0 ⟨5, corr, err, offset, start, fin, found, recs, tops⟩ = s0) := rfl
    go_wp2_with fail
    go_end0
    exact ⟨rfl, v0, by rw [HS.out]; exact hW0, Step.pre hal0 (Step.refl _ _ _)⟩
  · have q0 := hp0.1.cell (j := 0) rfl
    have HS : Hid (ansW s0 ⟨6, corr, err, offset, start, fin, found, recs, tops⟩ = s0) := rfl
    go_wp2_with fail
    go_end0
    exact ⟨rfl, v0, by rw [HS.out]; exact hW0, Step.pre hal0 (Step.refl _ _ _)⟩
  · have q0 := hp0.1.cell (j := 0) rfl
    have q8 := hp0.1.cell (j := 8) rfl
    have HS : Hid (ansW s0 ⟨7, corr, err, offset, start, fin, found, recs, tops⟩ = topsW s0 tops) := rfl
    have hTS := (Step.refl g w0 v0).tops ht0 hb0
    obtain ⟨htJ, hbJ⟩ := hTS
    have HTJ := Lib.hid htJ
    have hBs : s0.1.length ≤ 1000000 := by omega
    have hlnT := numsW_len s0 [(tops.length : Int)]
    simp only [List.length_cons, List.length_nil] at hlnT
    clear htJ
    go_wp2_with fail
    refine (wnum_one g v0 s0 (tops.length : Int) w0 (by omega) hW0).mono ?_
    rintro e wa ⟨rfl, va, hWa, hSa⟩
    have hpa := hSa.keeps hp0.1 hpg hp0.2
    clear q0 q8
    have q8 := hpa.1.cell (j := 8) rfl
    have HD : Hid (topsW s0 tops = (tops.take tops.length).foldl tpW (numsW s0 [(tops.length : Int)])) := by unfold Hid topsW; rw [List.take_length]
    generalize numsW s0 [(tops.length : Int)] = sa at *
    go_wp2_with fail
    go_loopw [59] (fun i wr => ∃ (k : Nat) (vk : Value), k ≤ tops.length ∧ i = .int .i64 k ∧ Wr 68 wr g vk ((tops.take k).foldl tpW sa) ∧ Step g w0 wr v0 vk) (fun i _ => tops.length - (intOf i).toNat)
    case atStart => exact ⟨0, va, Nat.zero_le _, rfl, hWa, hSa⟩
    case round =>
      obtain ⟨k, vk, hk, rfl, hWk, hSk⟩ := hrel
      clear hSa hWa hpa q8
      by_cases hlt : k < tops.length
      · obtain ⟨rb, off, rfl, hcell0⟩ := HTJ.out k hlt
        obtain ⟨hb1, hb2⟩ := hbJ (by omega) _ rfl
        have hcell : ∀ j u, tops[k].cells[j]? = some u → wr.cell? ⟨rb, off + k * 3 + j, none⟩ = some u := fun j u hj => hSk.chg.cell (hcell0 j u hj) (fun e => e.elim hb1 hb2)
        have g0 : wr.cell? ⟨rb, off + k * 3, none⟩ = _ := hcell 0 _ rfl
        have g1 := hcell 1 _ rfl
        have g2 := hcell 2 _ rfl
        have HN0 : Hid ((tops.take (k + 1)).foldl tpW sa = tpW ((tops.take k).foldl tpW sa) tops[k]) := by
          unfold Hid
          rw [take_snoc tops k hlt, List.foldl_append]; rfl
        have hln0 := tops_len (tops.take k) sa (fun x hx => hst x (List.mem_of_mem_take hx))
        rw [List.length_take] at hln0
        have hnz := hst _ (List.getElem_mem hlt)
        have hB2 : 1100000 * min k tops.length ≤ 1100000 * 20000 := Nat.mul_le_mul_left _ (by omega)
        clear hcell hcell0
        generalize (tops.take k).foldl tpW sa = sk at *
        generalize tops[k] = tp at *
        obtain ⟨nm, pt, cp⟩ := tp
        simp only at g0 g1 g2 hnz
        have HN : Hid ((tops.take (k + 1)).foldl tpW sa = truthW (numsW (textW sk nm 40) [pt]) cp) := HN0.out
        have hxA := Box.new wr [.string nm, .int .i64 pt, .bool cp] 74
        have halx := (Chg.refl Nil wr).alloc (.cells #[.string nm, .int .i64 pt, .bool cp] 74)
        have hWx := hWk.alloc (.cells #[.string nm, .int .i64 pt, .bool cp] 74)
        have hxn : vk.ownBlock ≠ some wr.heap.size := fun e => by have := hWk.own.lt _ e; omega
        have hxg : wr.heap.size ≠ g := by have := hWk.lt; omega
        go_upto_region 18 with fail
        clear hWk g0 g1 g2
        generalize wr.alloc (.cells #[.string nm, .int .i64 pt, .bool cp] 74) = wx at *
        generalize wr.heap.size = px at *
        have hx0 : Box wx px _ _ ∧ vk.ownBlock ≠ some px := ⟨hxA, hxn⟩
        clear hxA hxn
        have y0 := hx0.1.cell (j := 0) rfl
        have y1 := hx0.1.cell (j := 1) rfl
        have y2 := hx0.1.cell (j := 2) rfl
        have l1 := textW_len sk nm 40
        have l2 := numsW_len (textW sk nm 40) [pt]
        simp only [List.length_cons, List.length_nil] at l2
        go_wp2_with fail
        refine (wtext_any g vk sk nm 40 wx hnz (by omega) hWx).mono ?_
        rintro e wb ⟨rfl, vb, hWb, hSb⟩
        have hxb := hSb.keeps hx0.1 hxg hx0.2
        clear y0 y1 y2
        have y1 := hxb.1.cell (j := 1) rfl
        have y2 := hxb.1.cell (j := 2) rfl
        go_wp2_with fail
        refine (wnum_one g vb (textW sk nm 40) pt wb (by omega) hWb).mono ?_
        rintro e wc2 ⟨rfl, vc, hWc, hSc⟩
        have hxc := hSc.keeps hxb.1 hxg hxb.2
        clear y1 y2
        have y2 := hxc.1.cell (j := 2) rfl
        go_wp2_with fail
        refine (wtruth_any g vc (numsW (textW sk nm 40) [pt]) cp wc2 (by omega) hWc).mono ?_
        rintro e wd ⟨rfl, vd, hWd, hSd⟩
        go_wp2_with fail
        go_roundw
        case rel =>
          refine ⟨k + 1, vd, by omega, by go_num, ?_, ?_⟩
          · rw [HN.out]; exact hWd
          · exact hSk.trans (Step.pre halx ((hSb.trans hSc).trans hSd))
        case measure => simp [intOf]; omega
      · have hkl : k = tops.length := by omega
        subst hkl
        rw [← HD.out] at hWk
        go_wp2_with fail
        go_end0
        exact ⟨rfl, vk, by rw [HS.out]; exact hWk, Step.pre hal0 hSk⟩
end Go.Proofs.YtmklicodfiggnaaDoor
