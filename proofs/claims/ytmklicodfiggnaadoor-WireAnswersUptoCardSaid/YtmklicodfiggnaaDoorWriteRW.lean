/-
  The walk of a writer's records (the program).
-/
import Derived.Test.YtmklicodfiggnaaDoorWriterW
import Derived.Outline
import Derived.Deep.DeepCutAuto
set_option linter.unusedSimpArgs false
namespace Go.Proofs.YtmklicodfiggnaaDoor
open Go.RowKit

set_option maxHeartbeats 4000000 in
set_option maxRecDepth 100000 in
theorem wrecs_any (wi : Bool) (g : Nat) (v : Value) (s : WS) (a : Option Addr) (rs : List Rec) (cap : Nat) (w : World) (hl : rs.length ≤ 20000) (hsz : ∀ r ∈ rs, r.key.size ≤ 1048576 ∧ r.value.size ≤ 1048576) (hs : s.1.length ≤ 100000000) (h : Wr 68 w g v s)
    (hr : RecsAt w a rs) (ha : 0 < rs.length → ∀ x, a = some x → x.block ≠ g ∧ v.ownBlock ≠ some x.block) :
    Calls Tryd.prog 52 #[.pointer (some ⟨g, 0, none⟩), .slice a rs.length cap, .bool wi] w fun e w' => e = .returned (.tuple #[]) ∧ ∃ v', Wr 68 w' g v' (recsW wi s rs) ∧ Step g w w' v v' := by
  have HR := Lib.hid hr
  have HSZ := Lib.hid hsz
  have hw1 := wnum_one g v s (rs.length : Int) w (by omega) h
  have HW := Lib.hid hw1
  have hgl := h.lt
  clear hr hsz hw1 h
  go_enter Tryd.func52, Tryd.ntmps52
  go_wp2_with fail
  refine HW.out.mono ?_
  rintro e wa ⟨rfl, va, hWa, hSa⟩
  have hln := numsW_len s [(rs.length : Int)]
  simp only [List.length_cons, List.length_nil] at hln
  have HD : Hid (recsW wi s rs = (rs.take rs.length).foldl (recW wi) (numsW s [(rs.length : Int)])) := by unfold Hid recsW; rw [List.take_length]
  generalize numsW s [(rs.length : Int)] = sa at *
  go_wp2_with fail
  go_loopw [15] (fun i wr => ∃ (k : Nat) (v1 : Value), k ≤ rs.length ∧ i = .int .i64 k ∧ Wr 68 wr g v1 ((rs.take k).foldl (recW wi) sa) ∧ Step g w wr v v1) (fun i _ => rs.length - (intOf i).toNat)
  case atStart => exact ⟨0, va, Nat.zero_le _, rfl, hWa, hSa⟩
  case round =>
    obtain ⟨k, vk, hk, rfl, hWk, hS⟩ := hrel
    clear hSa hWa
    by_cases hlt : k < rs.length
    · obtain ⟨rb, off, rfl, hcell0⟩ := HR.out k hlt
      have hlt0 : rb < w.heap.size := World.block_lt_of_cell? _ _ (hcell0 0 _ rfl)
      obtain ⟨ha1, ha2⟩ := ha (by omega) _ rfl
      have hcell : ∀ j u, rs[k].cells[j]? = some u → wr.cell? ⟨rb, off + k * 6 + j, none⟩ = some u := fun j u hj => hS.chg.cell (hcell0 j u hj) (fun e => e.elim ha1 ha2)
      have g0 : wr.cell? ⟨rb, off + k * 6, none⟩ = _ := hcell 0 _ rfl
      have g1 := hcell 1 _ rfl
      have g2 := hcell 2 _ rfl
      have g3 := hcell 3 _ rfl
      have g4 := hcell 4 _ rfl
      have g5 := hcell 5 _ rfl
      have HN0 : Hid ((rs.take (k + 1)).foldl (recW wi) sa = recW wi ((rs.take k).foldl (recW wi) sa) rs[k]) := by
        unfold Hid
        rw [take_snoc rs k hlt, List.foldl_append]; rfl
      have hln0 := recs_len wi sa (rs.take k) (fun x hx => HSZ.out x (List.mem_of_mem_take hx))
      rw [List.length_take] at hln0
      obtain ⟨hk1, hv1⟩ := HSZ.out _ (List.getElem_mem hlt)
      clear hcell hcell0
      generalize (rs.take k).foldl (recW wi) sa = s0 at *
      obtain ⟨B0, hB0⟩ : ∃ B0, B0 = s0.1.length := ⟨_, rfl⟩
      have hB1 : B0 ≤ 100000000000 := by have : 2100000 * min k rs.length ≤ 2100000 * 20000 := Nat.mul_le_mul_left _ (by omega); omega
      clear hln0
      generalize rs[k] = r at *
      obtain ⟨ro, rt, rk, rkey, rg, rval⟩ := r
      simp only at g0 g1 g2 g3 g4 g5 hk1 hv1
      have hkz := hk1
      have hvz := hv1
      clear hk1 hv1
      have hpA := Box.new wr [.int .i64 ro, .int .i64 rt, .bool rk, .string rkey, .bool rg, .string rval] 99
      have hal0 := (Chg.refl Nil wr).alloc (.cells #[.int .i64 ro, .int .i64 rt, .bool rk, .string rkey, .bool rg, .string rval] 99)
      have hW0 := hWk.alloc (.cells #[.int .i64 ro, .int .i64 rt, .bool rk, .string rkey, .bool rg, .string rval] 99)
      have hpn : vk.ownBlock ≠ some wr.heap.size := fun e => by have := hWk.own.lt _ e; omega
      have hpg : wr.heap.size ≠ g := by have := hWk.lt; omega
      go_upto_region 4 with fail
      clear hWk g0 g1 g2 g3 g4 g5
      generalize wr.alloc (.cells #[.int .i64 ro, .int .i64 rt, .bool rk, .string rkey, .bool rg, .string rval] 99) = w0 at *
      generalize wr.heap.size = p at *
      have hp0 : Box w0 p _ _ ∧ vk.ownBlock ≠ some p := ⟨hpA, hpn⟩
      clear hpA hpn
      have hv0 : ∃ v0, v0 = vk := ⟨_, rfl⟩
      obtain ⟨v0, hv0⟩ := hv0
      rw [← hv0] at hp0 hW0 hS
      clear hv0
      have q0 := hp0.1.cell (j := 0) rfl
      have q1 := hp0.1.cell (j := 1) rfl
      have q2 := hp0.1.cell (j := 2) rfl
      have q3 := hp0.1.cell (j := 3) rfl
      have q4 := hp0.1.cell (j := 4) rfl
      have q5 := hp0.1.cell (j := 5) rfl
      cases wi
      · have HN : Hid ((rs.take (k + 1)).foldl (recW false) sa = valW (truthW (keyW (truthW (numsW s0 [rt]) rk) ⟨ro, rt, rk, rkey, rg, rval⟩) rg) ⟨ro, rt, rk, rkey, rg, rval⟩) := HN0.out
        cases rk <;> cases rg
        all_goals simp only [valW, keyW, if_true, if_false, Bool.false_eq_true] at HN
        · go_wp2_with fail
          refine (wnum_one g v0 s0 rt w0 (by omega) hW0).mono ?_
          rintro e w1 ⟨rfl, v1, hW1, hS1⟩
          have hp1 := hS1.keeps hp0.1 hpg hp0.2
          have hb1 : (numsW s0 [rt]).1.length ≤ B0 + 6 := by
            have := numsW_len s0 [rt]; simp only [List.length_cons, List.length_nil] at this
            omega
          clear q0 q1 q2 q3 q4 q5
          have q0 := hp1.1.cell (j := 0) rfl
          have q1 := hp1.1.cell (j := 1) rfl
          have q2 := hp1.1.cell (j := 2) rfl
          have q3 := hp1.1.cell (j := 3) rfl
          have q4 := hp1.1.cell (j := 4) rfl
          have q5 := hp1.1.cell (j := 5) rfl
          go_wp2_with fail
          refine (wtruth_any g v1 (numsW s0 [rt]) false w1 (by omega) hW1).mono ?_
          rintro e w2 ⟨rfl, v2, hW2, hS2⟩
          have hp2 := hS2.keeps hp1.1 hpg hp1.2
          have hb2 : (truthW (numsW s0 [rt]) false).1.length ≤ B0 + 12 := by
            have := truthW_len (numsW s0 [rt]) false
            omega
          clear q0 q1 q2 q3 q4 q5
          have q0 := hp2.1.cell (j := 0) rfl
          have q1 := hp2.1.cell (j := 1) rfl
          have q2 := hp2.1.cell (j := 2) rfl
          have q3 := hp2.1.cell (j := 3) rfl
          have q4 := hp2.1.cell (j := 4) rfl
          have q5 := hp2.1.cell (j := 5) rfl
          go_wp2_with fail
          refine (wtruth_any g v2 (truthW (numsW s0 [rt]) false) false w2 (by omega) hW2).mono ?_
          rintro e w3 ⟨rfl, v3, hW3, hS3⟩
          have hp3 := hS3.keeps hp2.1 hpg hp2.2
          have hb3 : (truthW (truthW (numsW s0 [rt]) false) false).1.length ≤ B0 + 18 := by
            have := truthW_len (truthW (numsW s0 [rt]) false) false
            omega
          clear q0 q1 q2 q3 q4 q5
          have q0 := hp3.1.cell (j := 0) rfl
          have q1 := hp3.1.cell (j := 1) rfl
          have q2 := hp3.1.cell (j := 2) rfl
          have q3 := hp3.1.cell (j := 3) rfl
          have q4 := hp3.1.cell (j := 4) rfl
          have q5 := hp3.1.cell (j := 5) rfl
          go_wp2_with fail
          refine (wtext_any g v3 (truthW (truthW (numsW s0 [rt]) false) false) rval 500 w3 hvz (by omega) hW3).mono ?_
          rintro e w4 ⟨rfl, v4, hW4, hS4⟩
          have hp4 := hS4.keeps hp3.1 hpg hp3.2
          have hb4 : (textW (truthW (truthW (numsW s0 [rt]) false) false) rval 500).1.length ≤ B0 + 1048600 := by
            have := textW_len (truthW (truthW (numsW s0 [rt]) false) false) rval 500
            omega
          clear q0 q1 q2 q3 q4 q5
          have q0 := hp4.1.cell (j := 0) rfl
          have q1 := hp4.1.cell (j := 1) rfl
          have q2 := hp4.1.cell (j := 2) rfl
          have q3 := hp4.1.cell (j := 3) rfl
          have q4 := hp4.1.cell (j := 4) rfl
          have q5 := hp4.1.cell (j := 5) rfl
          go_wp2_with fail
          go_roundw
          case rel =>
            refine ⟨k + 1, v4, by omega, by go_num, ?_, ?_⟩
            · rw [HN.out]; exact hW4
            · exact hS.trans (Step.pre hal0 ((((hS1.trans hS2).trans hS3).trans hS4)))
          case measure => simp [intOf]; omega
        · go_wp2_with fail
          refine (wnum_one g v0 s0 rt w0 (by omega) hW0).mono ?_
          rintro e w1 ⟨rfl, v1, hW1, hS1⟩
          have hp1 := hS1.keeps hp0.1 hpg hp0.2
          have hb1 : (numsW s0 [rt]).1.length ≤ B0 + 6 := by
            have := numsW_len s0 [rt]; simp only [List.length_cons, List.length_nil] at this
            omega
          clear q0 q1 q2 q3 q4 q5
          have q0 := hp1.1.cell (j := 0) rfl
          have q1 := hp1.1.cell (j := 1) rfl
          have q2 := hp1.1.cell (j := 2) rfl
          have q3 := hp1.1.cell (j := 3) rfl
          have q4 := hp1.1.cell (j := 4) rfl
          have q5 := hp1.1.cell (j := 5) rfl
          go_wp2_with fail
          refine (wtruth_any g v1 (numsW s0 [rt]) false w1 (by omega) hW1).mono ?_
          rintro e w2 ⟨rfl, v2, hW2, hS2⟩
          have hp2 := hS2.keeps hp1.1 hpg hp1.2
          have hb2 : (truthW (numsW s0 [rt]) false).1.length ≤ B0 + 12 := by
            have := truthW_len (numsW s0 [rt]) false
            omega
          clear q0 q1 q2 q3 q4 q5
          have q0 := hp2.1.cell (j := 0) rfl
          have q1 := hp2.1.cell (j := 1) rfl
          have q2 := hp2.1.cell (j := 2) rfl
          have q3 := hp2.1.cell (j := 3) rfl
          have q4 := hp2.1.cell (j := 4) rfl
          have q5 := hp2.1.cell (j := 5) rfl
          go_wp2_with fail
          refine (wtruth_any g v2 (truthW (numsW s0 [rt]) false) true w2 (by omega) hW2).mono ?_
          rintro e w3 ⟨rfl, v3, hW3, hS3⟩
          have hp3 := hS3.keeps hp2.1 hpg hp2.2
          have hb3 : (truthW (truthW (numsW s0 [rt]) false) true).1.length ≤ B0 + 18 := by
            have := truthW_len (truthW (numsW s0 [rt]) false) true
            omega
          clear q0 q1 q2 q3 q4 q5
          have q0 := hp3.1.cell (j := 0) rfl
          have q1 := hp3.1.cell (j := 1) rfl
          have q2 := hp3.1.cell (j := 2) rfl
          have q3 := hp3.1.cell (j := 3) rfl
          have q4 := hp3.1.cell (j := 4) rfl
          have q5 := hp3.1.cell (j := 5) rfl
          go_wp2_with fail
          go_roundw
          case rel =>
            refine ⟨k + 1, v3, by omega, by go_num, ?_, ?_⟩
            · rw [HN.out]; exact hW3
            · exact hS.trans (Step.pre hal0 (((hS1.trans hS2).trans hS3)))
          case measure => simp [intOf]; omega
        · go_wp2_with fail
          refine (wnum_one g v0 s0 rt w0 (by omega) hW0).mono ?_
          rintro e w1 ⟨rfl, v1, hW1, hS1⟩
          have hp1 := hS1.keeps hp0.1 hpg hp0.2
          have hb1 : (numsW s0 [rt]).1.length ≤ B0 + 6 := by
            have := numsW_len s0 [rt]; simp only [List.length_cons, List.length_nil] at this
            omega
          clear q0 q1 q2 q3 q4 q5
          have q0 := hp1.1.cell (j := 0) rfl
          have q1 := hp1.1.cell (j := 1) rfl
          have q2 := hp1.1.cell (j := 2) rfl
          have q3 := hp1.1.cell (j := 3) rfl
          have q4 := hp1.1.cell (j := 4) rfl
          have q5 := hp1.1.cell (j := 5) rfl
          go_wp2_with fail
          refine (wtruth_any g v1 (numsW s0 [rt]) true w1 (by omega) hW1).mono ?_
          rintro e w2 ⟨rfl, v2, hW2, hS2⟩
          have hp2 := hS2.keeps hp1.1 hpg hp1.2
          have hb2 : (truthW (numsW s0 [rt]) true).1.length ≤ B0 + 12 := by
            have := truthW_len (numsW s0 [rt]) true
            omega
          clear q0 q1 q2 q3 q4 q5
          have q0 := hp2.1.cell (j := 0) rfl
          have q1 := hp2.1.cell (j := 1) rfl
          have q2 := hp2.1.cell (j := 2) rfl
          have q3 := hp2.1.cell (j := 3) rfl
          have q4 := hp2.1.cell (j := 4) rfl
          have q5 := hp2.1.cell (j := 5) rfl
          go_wp2_with fail
          refine (wtext_any g v2 (truthW (numsW s0 [rt]) true) rkey 60 w2 hkz (by omega) hW2).mono ?_
          rintro e w3 ⟨rfl, v3, hW3, hS3⟩
          have hp3 := hS3.keeps hp2.1 hpg hp2.2
          have hb3 : (textW (truthW (numsW s0 [rt]) true) rkey 60).1.length ≤ B0 + 1048594 := by
            have := textW_len (truthW (numsW s0 [rt]) true) rkey 60
            omega
          clear q0 q1 q2 q3 q4 q5
          have q0 := hp3.1.cell (j := 0) rfl
          have q1 := hp3.1.cell (j := 1) rfl
          have q2 := hp3.1.cell (j := 2) rfl
          have q3 := hp3.1.cell (j := 3) rfl
          have q4 := hp3.1.cell (j := 4) rfl
          have q5 := hp3.1.cell (j := 5) rfl
          go_wp2_with fail
          refine (wtruth_any g v3 (textW (truthW (numsW s0 [rt]) true) rkey 60) false w3 (by omega) hW3).mono ?_
          rintro e w4 ⟨rfl, v4, hW4, hS4⟩
          have hp4 := hS4.keeps hp3.1 hpg hp3.2
          have hb4 : (truthW (textW (truthW (numsW s0 [rt]) true) rkey 60) false).1.length ≤ B0 + 1048600 := by
            have := truthW_len (textW (truthW (numsW s0 [rt]) true) rkey 60) false
            omega
          clear q0 q1 q2 q3 q4 q5
          have q0 := hp4.1.cell (j := 0) rfl
          have q1 := hp4.1.cell (j := 1) rfl
          have q2 := hp4.1.cell (j := 2) rfl
          have q3 := hp4.1.cell (j := 3) rfl
          have q4 := hp4.1.cell (j := 4) rfl
          have q5 := hp4.1.cell (j := 5) rfl
          go_wp2_with fail
          refine (wtext_any g v4 (truthW (textW (truthW (numsW s0 [rt]) true) rkey 60) false) rval 500 w4 hvz (by omega) hW4).mono ?_
          rintro e w5 ⟨rfl, v5, hW5, hS5⟩
          have hp5 := hS5.keeps hp4.1 hpg hp4.2
          have hb5 : (textW (truthW (textW (truthW (numsW s0 [rt]) true) rkey 60) false) rval 500).1.length ≤ B0 + 2097182 := by
            have := textW_len (truthW (textW (truthW (numsW s0 [rt]) true) rkey 60) false) rval 500
            omega
          clear q0 q1 q2 q3 q4 q5
          have q0 := hp5.1.cell (j := 0) rfl
          have q1 := hp5.1.cell (j := 1) rfl
          have q2 := hp5.1.cell (j := 2) rfl
          have q3 := hp5.1.cell (j := 3) rfl
          have q4 := hp5.1.cell (j := 4) rfl
          have q5 := hp5.1.cell (j := 5) rfl
          go_wp2_with fail
          go_roundw
          case rel =>
            refine ⟨k + 1, v5, by omega, by go_num, ?_, ?_⟩
            · rw [HN.out]; exact hW5
            · exact hS.trans (Step.pre hal0 (((((hS1.trans hS2).trans hS3).trans hS4).trans hS5)))
          case measure => simp [intOf]; omega
        · go_wp2_with fail
          refine (wnum_one g v0 s0 rt w0 (by omega) hW0).mono ?_
          rintro e w1 ⟨rfl, v1, hW1, hS1⟩
          have hp1 := hS1.keeps hp0.1 hpg hp0.2
          have hb1 : (numsW s0 [rt]).1.length ≤ B0 + 6 := by
            have := numsW_len s0 [rt]; simp only [List.length_cons, List.length_nil] at this
            omega
          clear q0 q1 q2 q3 q4 q5
          have q0 := hp1.1.cell (j := 0) rfl
          have q1 := hp1.1.cell (j := 1) rfl
          have q2 := hp1.1.cell (j := 2) rfl
          have q3 := hp1.1.cell (j := 3) rfl
          have q4 := hp1.1.cell (j := 4) rfl
          have q5 := hp1.1.cell (j := 5) rfl
          go_wp2_with fail
          refine (wtruth_any g v1 (numsW s0 [rt]) true w1 (by omega) hW1).mono ?_
          rintro e w2 ⟨rfl, v2, hW2, hS2⟩
          have hp2 := hS2.keeps hp1.1 hpg hp1.2
          have hb2 : (truthW (numsW s0 [rt]) true).1.length ≤ B0 + 12 := by
            have := truthW_len (numsW s0 [rt]) true
            omega
          clear q0 q1 q2 q3 q4 q5
          have q0 := hp2.1.cell (j := 0) rfl
          have q1 := hp2.1.cell (j := 1) rfl
          have q2 := hp2.1.cell (j := 2) rfl
          have q3 := hp2.1.cell (j := 3) rfl
          have q4 := hp2.1.cell (j := 4) rfl
          have q5 := hp2.1.cell (j := 5) rfl
          go_wp2_with fail
          refine (wtext_any g v2 (truthW (numsW s0 [rt]) true) rkey 60 w2 hkz (by omega) hW2).mono ?_
          rintro e w3 ⟨rfl, v3, hW3, hS3⟩
          have hp3 := hS3.keeps hp2.1 hpg hp2.2
          have hb3 : (textW (truthW (numsW s0 [rt]) true) rkey 60).1.length ≤ B0 + 1048594 := by
            have := textW_len (truthW (numsW s0 [rt]) true) rkey 60
            omega
          clear q0 q1 q2 q3 q4 q5
          have q0 := hp3.1.cell (j := 0) rfl
          have q1 := hp3.1.cell (j := 1) rfl
          have q2 := hp3.1.cell (j := 2) rfl
          have q3 := hp3.1.cell (j := 3) rfl
          have q4 := hp3.1.cell (j := 4) rfl
          have q5 := hp3.1.cell (j := 5) rfl
          go_wp2_with fail
          refine (wtruth_any g v3 (textW (truthW (numsW s0 [rt]) true) rkey 60) true w3 (by omega) hW3).mono ?_
          rintro e w4 ⟨rfl, v4, hW4, hS4⟩
          have hp4 := hS4.keeps hp3.1 hpg hp3.2
          have hb4 : (truthW (textW (truthW (numsW s0 [rt]) true) rkey 60) true).1.length ≤ B0 + 1048600 := by
            have := truthW_len (textW (truthW (numsW s0 [rt]) true) rkey 60) true
            omega
          clear q0 q1 q2 q3 q4 q5
          have q0 := hp4.1.cell (j := 0) rfl
          have q1 := hp4.1.cell (j := 1) rfl
          have q2 := hp4.1.cell (j := 2) rfl
          have q3 := hp4.1.cell (j := 3) rfl
          have q4 := hp4.1.cell (j := 4) rfl
          have q5 := hp4.1.cell (j := 5) rfl
          go_wp2_with fail
          go_roundw
          case rel =>
            refine ⟨k + 1, v4, by omega, by go_num, ?_, ?_⟩
            · rw [HN.out]; exact hW4
            · exact hS.trans (Step.pre hal0 ((((hS1.trans hS2).trans hS3).trans hS4)))
          case measure => simp [intOf]; omega
      · have HN : Hid ((rs.take (k + 1)).foldl (recW true) sa = valW (truthW (keyW (truthW (numsW (numsW s0 [ro]) [rt]) rk) ⟨ro, rt, rk, rkey, rg, rval⟩) rg) ⟨ro, rt, rk, rkey, rg, rval⟩) := HN0.out
        cases rk <;> cases rg
        all_goals simp only [valW, keyW, if_true, if_false, Bool.false_eq_true] at HN
        · go_wp2_with fail
          refine (wnum_one g v0 s0 ro w0 (by omega) hW0).mono ?_
          rintro e w1 ⟨rfl, v1, hW1, hS1⟩
          have hp1 := hS1.keeps hp0.1 hpg hp0.2
          have hb1 : (numsW s0 [ro]).1.length ≤ B0 + 6 := by
            have := numsW_len s0 [ro]; simp only [List.length_cons, List.length_nil] at this
            omega
          clear q0 q1 q2 q3 q4 q5
          have q0 := hp1.1.cell (j := 0) rfl
          have q1 := hp1.1.cell (j := 1) rfl
          have q2 := hp1.1.cell (j := 2) rfl
          have q3 := hp1.1.cell (j := 3) rfl
          have q4 := hp1.1.cell (j := 4) rfl
          have q5 := hp1.1.cell (j := 5) rfl
          go_wp2_with fail
          refine (wnum_one g v1 (numsW s0 [ro]) rt w1 (by omega) hW1).mono ?_
          rintro e w2 ⟨rfl, v2, hW2, hS2⟩
          have hp2 := hS2.keeps hp1.1 hpg hp1.2
          have hb2 : (numsW (numsW s0 [ro]) [rt]).1.length ≤ B0 + 12 := by
            have := numsW_len (numsW s0 [ro]) [rt]; simp only [List.length_cons, List.length_nil] at this
            omega
          clear q0 q1 q2 q3 q4 q5
          have q0 := hp2.1.cell (j := 0) rfl
          have q1 := hp2.1.cell (j := 1) rfl
          have q2 := hp2.1.cell (j := 2) rfl
          have q3 := hp2.1.cell (j := 3) rfl
          have q4 := hp2.1.cell (j := 4) rfl
          have q5 := hp2.1.cell (j := 5) rfl
          go_wp2_with fail
          refine (wtruth_any g v2 (numsW (numsW s0 [ro]) [rt]) false w2 (by omega) hW2).mono ?_
          rintro e w3 ⟨rfl, v3, hW3, hS3⟩
          have hp3 := hS3.keeps hp2.1 hpg hp2.2
          have hb3 : (truthW (numsW (numsW s0 [ro]) [rt]) false).1.length ≤ B0 + 18 := by
            have := truthW_len (numsW (numsW s0 [ro]) [rt]) false
            omega
          clear q0 q1 q2 q3 q4 q5
          have q0 := hp3.1.cell (j := 0) rfl
          have q1 := hp3.1.cell (j := 1) rfl
          have q2 := hp3.1.cell (j := 2) rfl
          have q3 := hp3.1.cell (j := 3) rfl
          have q4 := hp3.1.cell (j := 4) rfl
          have q5 := hp3.1.cell (j := 5) rfl
          go_wp2_with fail
          refine (wtruth_any g v3 (truthW (numsW (numsW s0 [ro]) [rt]) false) false w3 (by omega) hW3).mono ?_
          rintro e w4 ⟨rfl, v4, hW4, hS4⟩
          have hp4 := hS4.keeps hp3.1 hpg hp3.2
          have hb4 : (truthW (truthW (numsW (numsW s0 [ro]) [rt]) false) false).1.length ≤ B0 + 24 := by
            have := truthW_len (truthW (numsW (numsW s0 [ro]) [rt]) false) false
            omega
          clear q0 q1 q2 q3 q4 q5
          have q0 := hp4.1.cell (j := 0) rfl
          have q1 := hp4.1.cell (j := 1) rfl
          have q2 := hp4.1.cell (j := 2) rfl
          have q3 := hp4.1.cell (j := 3) rfl
          have q4 := hp4.1.cell (j := 4) rfl
          have q5 := hp4.1.cell (j := 5) rfl
          go_wp2_with fail
          refine (wtext_any g v4 (truthW (truthW (numsW (numsW s0 [ro]) [rt]) false) false) rval 500 w4 hvz (by omega) hW4).mono ?_
          rintro e w5 ⟨rfl, v5, hW5, hS5⟩
          have hp5 := hS5.keeps hp4.1 hpg hp4.2
          have hb5 : (textW (truthW (truthW (numsW (numsW s0 [ro]) [rt]) false) false) rval 500).1.length ≤ B0 + 1048606 := by
            have := textW_len (truthW (truthW (numsW (numsW s0 [ro]) [rt]) false) false) rval 500
            omega
          clear q0 q1 q2 q3 q4 q5
          have q0 := hp5.1.cell (j := 0) rfl
          have q1 := hp5.1.cell (j := 1) rfl
          have q2 := hp5.1.cell (j := 2) rfl
          have q3 := hp5.1.cell (j := 3) rfl
          have q4 := hp5.1.cell (j := 4) rfl
          have q5 := hp5.1.cell (j := 5) rfl
          go_wp2_with fail
          go_roundw
          case rel =>
            refine ⟨k + 1, v5, by omega, by go_num, ?_, ?_⟩
            · rw [HN.out]; exact hW5
            · exact hS.trans (Step.pre hal0 (((((hS1.trans hS2).trans hS3).trans hS4).trans hS5)))
          case measure => simp [intOf]; omega
        · go_wp2_with fail
          refine (wnum_one g v0 s0 ro w0 (by omega) hW0).mono ?_
          rintro e w1 ⟨rfl, v1, hW1, hS1⟩
          have hp1 := hS1.keeps hp0.1 hpg hp0.2
          have hb1 : (numsW s0 [ro]).1.length ≤ B0 + 6 := by
            have := numsW_len s0 [ro]; simp only [List.length_cons, List.length_nil] at this
            omega
          clear q0 q1 q2 q3 q4 q5
          have q0 := hp1.1.cell (j := 0) rfl
          have q1 := hp1.1.cell (j := 1) rfl
          have q2 := hp1.1.cell (j := 2) rfl
          have q3 := hp1.1.cell (j := 3) rfl
          have q4 := hp1.1.cell (j := 4) rfl
          have q5 := hp1.1.cell (j := 5) rfl
          go_wp2_with fail
          refine (wnum_one g v1 (numsW s0 [ro]) rt w1 (by omega) hW1).mono ?_
          rintro e w2 ⟨rfl, v2, hW2, hS2⟩
          have hp2 := hS2.keeps hp1.1 hpg hp1.2
          have hb2 : (numsW (numsW s0 [ro]) [rt]).1.length ≤ B0 + 12 := by
            have := numsW_len (numsW s0 [ro]) [rt]; simp only [List.length_cons, List.length_nil] at this
            omega
          clear q0 q1 q2 q3 q4 q5
          have q0 := hp2.1.cell (j := 0) rfl
          have q1 := hp2.1.cell (j := 1) rfl
          have q2 := hp2.1.cell (j := 2) rfl
          have q3 := hp2.1.cell (j := 3) rfl
          have q4 := hp2.1.cell (j := 4) rfl
          have q5 := hp2.1.cell (j := 5) rfl
          go_wp2_with fail
          refine (wtruth_any g v2 (numsW (numsW s0 [ro]) [rt]) false w2 (by omega) hW2).mono ?_
          rintro e w3 ⟨rfl, v3, hW3, hS3⟩
          have hp3 := hS3.keeps hp2.1 hpg hp2.2
          have hb3 : (truthW (numsW (numsW s0 [ro]) [rt]) false).1.length ≤ B0 + 18 := by
            have := truthW_len (numsW (numsW s0 [ro]) [rt]) false
            omega
          clear q0 q1 q2 q3 q4 q5
          have q0 := hp3.1.cell (j := 0) rfl
          have q1 := hp3.1.cell (j := 1) rfl
          have q2 := hp3.1.cell (j := 2) rfl
          have q3 := hp3.1.cell (j := 3) rfl
          have q4 := hp3.1.cell (j := 4) rfl
          have q5 := hp3.1.cell (j := 5) rfl
          go_wp2_with fail
          refine (wtruth_any g v3 (truthW (numsW (numsW s0 [ro]) [rt]) false) true w3 (by omega) hW3).mono ?_
          rintro e w4 ⟨rfl, v4, hW4, hS4⟩
          have hp4 := hS4.keeps hp3.1 hpg hp3.2
          have hb4 : (truthW (truthW (numsW (numsW s0 [ro]) [rt]) false) true).1.length ≤ B0 + 24 := by
            have := truthW_len (truthW (numsW (numsW s0 [ro]) [rt]) false) true
            omega
          clear q0 q1 q2 q3 q4 q5
          have q0 := hp4.1.cell (j := 0) rfl
          have q1 := hp4.1.cell (j := 1) rfl
          have q2 := hp4.1.cell (j := 2) rfl
          have q3 := hp4.1.cell (j := 3) rfl
          have q4 := hp4.1.cell (j := 4) rfl
          have q5 := hp4.1.cell (j := 5) rfl
          go_wp2_with fail
          go_roundw
          case rel =>
            refine ⟨k + 1, v4, by omega, by go_num, ?_, ?_⟩
            · rw [HN.out]; exact hW4
            · exact hS.trans (Step.pre hal0 ((((hS1.trans hS2).trans hS3).trans hS4)))
          case measure => simp [intOf]; omega
        · go_wp2_with fail
          refine (wnum_one g v0 s0 ro w0 (by omega) hW0).mono ?_
          rintro e w1 ⟨rfl, v1, hW1, hS1⟩
          have hp1 := hS1.keeps hp0.1 hpg hp0.2
          have hb1 : (numsW s0 [ro]).1.length ≤ B0 + 6 := by
            have := numsW_len s0 [ro]; simp only [List.length_cons, List.length_nil] at this
            omega
          clear q0 q1 q2 q3 q4 q5
          have q0 := hp1.1.cell (j := 0) rfl
          have q1 := hp1.1.cell (j := 1) rfl
          have q2 := hp1.1.cell (j := 2) rfl
          have q3 := hp1.1.cell (j := 3) rfl
          have q4 := hp1.1.cell (j := 4) rfl
          have q5 := hp1.1.cell (j := 5) rfl
          go_wp2_with fail
          refine (wnum_one g v1 (numsW s0 [ro]) rt w1 (by omega) hW1).mono ?_
          rintro e w2 ⟨rfl, v2, hW2, hS2⟩
          have hp2 := hS2.keeps hp1.1 hpg hp1.2
          have hb2 : (numsW (numsW s0 [ro]) [rt]).1.length ≤ B0 + 12 := by
            have := numsW_len (numsW s0 [ro]) [rt]; simp only [List.length_cons, List.length_nil] at this
            omega
          clear q0 q1 q2 q3 q4 q5
          have q0 := hp2.1.cell (j := 0) rfl
          have q1 := hp2.1.cell (j := 1) rfl
          have q2 := hp2.1.cell (j := 2) rfl
          have q3 := hp2.1.cell (j := 3) rfl
          have q4 := hp2.1.cell (j := 4) rfl
          have q5 := hp2.1.cell (j := 5) rfl
          go_wp2_with fail
          refine (wtruth_any g v2 (numsW (numsW s0 [ro]) [rt]) true w2 (by omega) hW2).mono ?_
          rintro e w3 ⟨rfl, v3, hW3, hS3⟩
          have hp3 := hS3.keeps hp2.1 hpg hp2.2
          have hb3 : (truthW (numsW (numsW s0 [ro]) [rt]) true).1.length ≤ B0 + 18 := by
            have := truthW_len (numsW (numsW s0 [ro]) [rt]) true
            omega
          clear q0 q1 q2 q3 q4 q5
          have q0 := hp3.1.cell (j := 0) rfl
          have q1 := hp3.1.cell (j := 1) rfl
          have q2 := hp3.1.cell (j := 2) rfl
          have q3 := hp3.1.cell (j := 3) rfl
          have q4 := hp3.1.cell (j := 4) rfl
          have q5 := hp3.1.cell (j := 5) rfl
          go_wp2_with fail
          refine (wtext_any g v3 (truthW (numsW (numsW s0 [ro]) [rt]) true) rkey 60 w3 hkz (by omega) hW3).mono ?_
          rintro e w4 ⟨rfl, v4, hW4, hS4⟩
          have hp4 := hS4.keeps hp3.1 hpg hp3.2
          have hb4 : (textW (truthW (numsW (numsW s0 [ro]) [rt]) true) rkey 60).1.length ≤ B0 + 1048600 := by
            have := textW_len (truthW (numsW (numsW s0 [ro]) [rt]) true) rkey 60
            omega
          clear q0 q1 q2 q3 q4 q5
          have q0 := hp4.1.cell (j := 0) rfl
          have q1 := hp4.1.cell (j := 1) rfl
          have q2 := hp4.1.cell (j := 2) rfl
          have q3 := hp4.1.cell (j := 3) rfl
          have q4 := hp4.1.cell (j := 4) rfl
          have q5 := hp4.1.cell (j := 5) rfl
          go_wp2_with fail
          refine (wtruth_any g v4 (textW (truthW (numsW (numsW s0 [ro]) [rt]) true) rkey 60) false w4 (by omega) hW4).mono ?_
          rintro e w5 ⟨rfl, v5, hW5, hS5⟩
          have hp5 := hS5.keeps hp4.1 hpg hp4.2
          have hb5 : (truthW (textW (truthW (numsW (numsW s0 [ro]) [rt]) true) rkey 60) false).1.length ≤ B0 + 1048606 := by
            have := truthW_len (textW (truthW (numsW (numsW s0 [ro]) [rt]) true) rkey 60) false
            omega
          clear q0 q1 q2 q3 q4 q5
          have q0 := hp5.1.cell (j := 0) rfl
          have q1 := hp5.1.cell (j := 1) rfl
          have q2 := hp5.1.cell (j := 2) rfl
          have q3 := hp5.1.cell (j := 3) rfl
          have q4 := hp5.1.cell (j := 4) rfl
          have q5 := hp5.1.cell (j := 5) rfl
          go_wp2_with fail
          refine (wtext_any g v5 (truthW (textW (truthW (numsW (numsW s0 [ro]) [rt]) true) rkey 60) false) rval 500 w5 hvz (by omega) hW5).mono ?_
          rintro e w6 ⟨rfl, v6, hW6, hS6⟩
          have hp6 := hS6.keeps hp5.1 hpg hp5.2
          have hb6 : (textW (truthW (textW (truthW (numsW (numsW s0 [ro]) [rt]) true) rkey 60) false) rval 500).1.length ≤ B0 + 2097188 := by
            have := textW_len (truthW (textW (truthW (numsW (numsW s0 [ro]) [rt]) true) rkey 60) false) rval 500
            omega
          clear q0 q1 q2 q3 q4 q5
          have q0 := hp6.1.cell (j := 0) rfl
          have q1 := hp6.1.cell (j := 1) rfl
          have q2 := hp6.1.cell (j := 2) rfl
          have q3 := hp6.1.cell (j := 3) rfl
          have q4 := hp6.1.cell (j := 4) rfl
          have q5 := hp6.1.cell (j := 5) rfl
          go_wp2_with fail
          go_roundw
          case rel =>
            refine ⟨k + 1, v6, by omega, by go_num, ?_, ?_⟩
            · rw [HN.out]; exact hW6
            · exact hS.trans (Step.pre hal0 ((((((hS1.trans hS2).trans hS3).trans hS4).trans hS5).trans hS6)))
          case measure => simp [intOf]; omega
        · go_wp2_with fail
          refine (wnum_one g v0 s0 ro w0 (by omega) hW0).mono ?_
          rintro e w1 ⟨rfl, v1, hW1, hS1⟩
          have hp1 := hS1.keeps hp0.1 hpg hp0.2
          have hb1 : (numsW s0 [ro]).1.length ≤ B0 + 6 := by
            have := numsW_len s0 [ro]; simp only [List.length_cons, List.length_nil] at this
            omega
          clear q0 q1 q2 q3 q4 q5
          have q0 := hp1.1.cell (j := 0) rfl
          have q1 := hp1.1.cell (j := 1) rfl
          have q2 := hp1.1.cell (j := 2) rfl
          have q3 := hp1.1.cell (j := 3) rfl
          have q4 := hp1.1.cell (j := 4) rfl
          have q5 := hp1.1.cell (j := 5) rfl
          go_wp2_with fail
          refine (wnum_one g v1 (numsW s0 [ro]) rt w1 (by omega) hW1).mono ?_
          rintro e w2 ⟨rfl, v2, hW2, hS2⟩
          have hp2 := hS2.keeps hp1.1 hpg hp1.2
          have hb2 : (numsW (numsW s0 [ro]) [rt]).1.length ≤ B0 + 12 := by
            have := numsW_len (numsW s0 [ro]) [rt]; simp only [List.length_cons, List.length_nil] at this
            omega
          clear q0 q1 q2 q3 q4 q5
          have q0 := hp2.1.cell (j := 0) rfl
          have q1 := hp2.1.cell (j := 1) rfl
          have q2 := hp2.1.cell (j := 2) rfl
          have q3 := hp2.1.cell (j := 3) rfl
          have q4 := hp2.1.cell (j := 4) rfl
          have q5 := hp2.1.cell (j := 5) rfl
          go_wp2_with fail
          refine (wtruth_any g v2 (numsW (numsW s0 [ro]) [rt]) true w2 (by omega) hW2).mono ?_
          rintro e w3 ⟨rfl, v3, hW3, hS3⟩
          have hp3 := hS3.keeps hp2.1 hpg hp2.2
          have hb3 : (truthW (numsW (numsW s0 [ro]) [rt]) true).1.length ≤ B0 + 18 := by
            have := truthW_len (numsW (numsW s0 [ro]) [rt]) true
            omega
          clear q0 q1 q2 q3 q4 q5
          have q0 := hp3.1.cell (j := 0) rfl
          have q1 := hp3.1.cell (j := 1) rfl
          have q2 := hp3.1.cell (j := 2) rfl
          have q3 := hp3.1.cell (j := 3) rfl
          have q4 := hp3.1.cell (j := 4) rfl
          have q5 := hp3.1.cell (j := 5) rfl
          go_wp2_with fail
          refine (wtext_any g v3 (truthW (numsW (numsW s0 [ro]) [rt]) true) rkey 60 w3 hkz (by omega) hW3).mono ?_
          rintro e w4 ⟨rfl, v4, hW4, hS4⟩
          have hp4 := hS4.keeps hp3.1 hpg hp3.2
          have hb4 : (textW (truthW (numsW (numsW s0 [ro]) [rt]) true) rkey 60).1.length ≤ B0 + 1048600 := by
            have := textW_len (truthW (numsW (numsW s0 [ro]) [rt]) true) rkey 60
            omega
          clear q0 q1 q2 q3 q4 q5
          have q0 := hp4.1.cell (j := 0) rfl
          have q1 := hp4.1.cell (j := 1) rfl
          have q2 := hp4.1.cell (j := 2) rfl
          have q3 := hp4.1.cell (j := 3) rfl
          have q4 := hp4.1.cell (j := 4) rfl
          have q5 := hp4.1.cell (j := 5) rfl
          go_wp2_with fail
          refine (wtruth_any g v4 (textW (truthW (numsW (numsW s0 [ro]) [rt]) true) rkey 60) true w4 (by omega) hW4).mono ?_
          rintro e w5 ⟨rfl, v5, hW5, hS5⟩
          have hp5 := hS5.keeps hp4.1 hpg hp4.2
          have hb5 : (truthW (textW (truthW (numsW (numsW s0 [ro]) [rt]) true) rkey 60) true).1.length ≤ B0 + 1048606 := by
            have := truthW_len (textW (truthW (numsW (numsW s0 [ro]) [rt]) true) rkey 60) true
            omega
          clear q0 q1 q2 q3 q4 q5
          have q0 := hp5.1.cell (j := 0) rfl
          have q1 := hp5.1.cell (j := 1) rfl
          have q2 := hp5.1.cell (j := 2) rfl
          have q3 := hp5.1.cell (j := 3) rfl
          have q4 := hp5.1.cell (j := 4) rfl
          have q5 := hp5.1.cell (j := 5) rfl
          go_wp2_with fail
          go_roundw
          case rel =>
            refine ⟨k + 1, v5, by omega, by go_num, ?_, ?_⟩
            · rw [HN.out]; exact hW5
            · exact hS.trans (Step.pre hal0 (((((hS1.trans hS2).trans hS3).trans hS4).trans hS5)))
          case measure => simp [intOf]; omega
    · have hkl : k = rs.length := by omega
      subst hkl
      rw [← HD.out] at hWk
      go_wp2_with fail
      go_end0
      exact ⟨rfl, vk, hWk, hS⟩

end Go.Proofs.YtmklicodfiggnaaDoor
