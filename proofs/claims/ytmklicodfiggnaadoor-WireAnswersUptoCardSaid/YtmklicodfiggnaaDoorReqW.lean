/-
  The walks of the program's request.
-/
import Derived.Test.YtmklicodfiggnaaDoorAskL
import Derived.Test.YtmklicodfiggnaaDoorWriteRW
import Derived.Outline
import Derived.Deep.DeepCutAuto
set_option linter.unusedSimpArgs false
namespace Go.Proofs.YtmklicodfiggnaaDoor
open Go.RowKit

theorem wnum_l2 (g : Nat) (v : Value) (s : WS) (n0 n1 : Int) (w : World) (hs : s.1.length ≤ 10000000000000) (h : Wr 68 w g v s) :
    Calls Tryd.prog 32 #[.pointer (some ⟨g, 0, none⟩), .slice (some ⟨w.heap.size, 0, none⟩) 2 2] (w.alloc (.cells #[.int .i64 n0, .int .i64 n1] 3)) fun e w' => e = .returned (.tuple #[]) ∧ ∃ v', Wr 68 w' g v' (numsW s [n0, n1]) ∧ Step g w w' v v' := by
  refine (wnum_any g w.heap.size v s [n0, n1] (w.alloc (.cells #[.int .i64 n0, .int .i64 n1] 3)) (by simp) hs (h.alloc _) (Box.new w [.int .i64 n0, .int .i64 n1] 3) (by have := h.lt; omega) (fun e => by have := h.own.lt _ e; omega)).mono ?_
  rintro e w' ⟨rfl, v', hW, hS⟩
  exact ⟨rfl, v', hW, hS.pre ((Chg.refl Nil w).alloc _)⟩

theorem wnum_l4 (g : Nat) (v : Value) (s : WS) (n0 n1 n2 n3 : Int) (w : World) (hs : s.1.length ≤ 10000000000000) (h : Wr 68 w g v s) :
    Calls Tryd.prog 32 #[.pointer (some ⟨g, 0, none⟩), .slice (some ⟨w.heap.size, 0, none⟩) 4 4] (w.alloc (.cells #[.int .i64 n0, .int .i64 n1, .int .i64 n2, .int .i64 n3] 3)) fun e w' => e = .returned (.tuple #[]) ∧ ∃ v', Wr 68 w' g v' (numsW s [n0, n1, n2, n3]) ∧ Step g w w' v v' := by
  refine (wnum_any g w.heap.size v s [n0, n1, n2, n3] (w.alloc (.cells #[.int .i64 n0, .int .i64 n1, .int .i64 n2, .int .i64 n3] 3)) (by simp) hs (h.alloc _) (Box.new w [.int .i64 n0, .int .i64 n1, .int .i64 n2, .int .i64 n3] 3) (by have := h.lt; omega) (fun e => by have := h.own.lt _ e; omega)).mono ?_
  rintro e w' ⟨rfl, v', hW, hS⟩
  exact ⟨rfl, v', hW, hS.pre ((Chg.refl Nil w).alloc _)⟩

theorem wnum_l5 (g : Nat) (v : Value) (s : WS) (n0 n1 n2 n3 n4 : Int) (w : World) (hs : s.1.length ≤ 10000000000000) (h : Wr 68 w g v s) :
    Calls Tryd.prog 32 #[.pointer (some ⟨g, 0, none⟩), .slice (some ⟨w.heap.size, 0, none⟩) 5 5] (w.alloc (.cells #[.int .i64 n0, .int .i64 n1, .int .i64 n2, .int .i64 n3, .int .i64 n4] 3)) fun e w' => e = .returned (.tuple #[]) ∧ ∃ v', Wr 68 w' g v' (numsW s [n0, n1, n2, n3, n4]) ∧ Step g w w' v v' := by
  refine (wnum_any g w.heap.size v s [n0, n1, n2, n3, n4] (w.alloc (.cells #[.int .i64 n0, .int .i64 n1, .int .i64 n2, .int .i64 n3, .int .i64 n4] 3)) (by simp) hs (h.alloc _) (Box.new w [.int .i64 n0, .int .i64 n1, .int .i64 n2, .int .i64 n3, .int .i64 n4] 3) (by have := h.lt; omega) (fun e => by have := h.own.lt _ e; omega)).mono ?_
  rintro e w' ⟨rfl, v', hW, hS⟩
  exact ⟨rfl, v', hW, hS.pre ((Chg.refl Nil w).alloc _)⟩

set_option maxHeartbeats 4000000 in
set_option maxRecDepth 100000 in
theorem wreq_any (g : Nat) (v0 : Value) (s0 : WS) (kind corr part offset most least wait time parts : Int) (topic : ByteArray) (sure compact : Bool) (recs : List Rec) (a : Option Addr) (cap : Nat) (w : World) (hk : 1 ≤ kind ∧ kind ≤ 7) (hl : recs.length ≤ 20000) (ht : topic.size ≤ 1048576) (hsz : ∀ r ∈ recs, r.key.size ≤ 1048576 ∧ r.value.size ≤ 1048576) (hs : s0.1.length ≤ 1000)
    (h : Wr 68 w g v0 s0) (hr : RecsAt w a recs) (ha : 0 < recs.length → ∀ y, a = some y → y.block ≠ g ∧ v0.ownBlock ≠ some y.block) :
    Calls Tryd.prog 29 #[.pointer (some ⟨g, 0, none⟩), .agg #[.int .i64 kind, .int .i64 corr, .string topic, .int .i64 part, .int .i64 offset, .int .i64 most, .int .i64 least, .int .i64 wait, .int .i64 time, .int .i64 parts, .bool sure, .bool compact, .slice a recs.length cap]] w fun e w' => e = .returned (.tuple #[]) ∧ ∃ v', Wr 68 w' g v' (reqW s0 ⟨kind, corr, topic, part, offset, most, least, wait, time, parts, sure, compact, recs⟩) ∧ Step g w w' v0 v' := by
  have hpA := Box.new w [.int .i64 kind, .int .i64 corr, .string topic, .int .i64 part, .int .i64 offset, .int .i64 most, .int .i64 least, .int .i64 wait, .int .i64 time, .int .i64 parts, .bool sure, .bool compact, .slice a recs.length cap] 24
  have hal0 := (Chg.refl Nil w).alloc (.cells #[.int .i64 kind, .int .i64 corr, .string topic, .int .i64 part, .int .i64 offset, .int .i64 most, .int .i64 least, .int .i64 wait, .int .i64 time, .int .i64 parts, .bool sure, .bool compact, .slice a recs.length cap] 24)
  have hW0 := h.alloc (.cells #[.int .i64 kind, .int .i64 corr, .string topic, .int .i64 part, .int .i64 offset, .int .i64 most, .int .i64 least, .int .i64 wait, .int .i64 time, .int .i64 parts, .bool sure, .bool compact, .slice a recs.length cap] 24)
  have hpn : v0.ownBlock ≠ some w.heap.size := fun e => by have := h.own.lt _ e; omega
  have hpg : w.heap.size ≠ g := by have := h.lt; omega
  have hr0 := hr.chg hal0 (fun _ _ h => h)
  have ha0 := ha
  go_enter Tryd.func29, Tryd.ntmps29
  go_upto_region 1 with fail
  clear h hr ha
  generalize w.alloc (.cells #[.int .i64 kind, .int .i64 corr, .string topic, .int .i64 part, .int .i64 offset, .int .i64 most, .int .i64 least, .int .i64 wait, .int .i64 time, .int .i64 parts, .bool sure, .bool compact, .slice a recs.length cap] 24) = w0 at *
  generalize w.heap.size = p at *
  have hp0 : Box w0 p [.int .i64 kind, .int .i64 corr, .string topic, .int .i64 part, .int .i64 offset, .int .i64 most, .int .i64 least, .int .i64 wait, .int .i64 time, .int .i64 parts, .bool sure, .bool compact, .slice a recs.length cap] 24 ∧ v0.ownBlock ≠ some p := ⟨hpA, hpn⟩
  clear hpA hpn
  obtain ⟨B0, hB0⟩ : ∃ B0, B0 = s0.1.length := ⟨_, rfl⟩
  have hB1 : B0 ≤ 1000 := by omega
  obtain rfl | rfl | rfl | rfl | rfl | rfl | rfl : kind = 1 ∨ kind = 2 ∨ kind = 3 ∨ kind = 4 ∨ kind = 5 ∨ kind = 6 ∨ kind = 7 := by omega
  · have q0 := hp0.1.cell (j := 0) rfl
    have q1 := hp0.1.cell (j := 1) rfl
    have q2 := hp0.1.cell (j := 2) rfl
    have q3 := hp0.1.cell (j := 3) rfl
    have q10 := hp0.1.cell (j := 10) rfl
    have q12 := hp0.1.cell (j := 12) rfl
    have HS : Hid (reqW s0 ⟨1, corr, topic, part, offset, most, least, wait, time, parts, sure, compact, recs⟩ = (recsW false (truthW (numsW (textW (numsW s0 [1, corr]) topic 40) [part]) sure) recs)) := rfl
    go_wp2_with fail
    refine (wnum_l2 g v0 s0 (1) (corr) w0 (by omega) hW0).mono ?_
    rintro e w1 ⟨rfl, v1, hW1, hS1⟩
    have hp1 := hS1.keeps hp0.1 hpg hp0.2
    have hb1 : (numsW s0 [1, corr]).1.length ≤ B0 + 12 := by
      have := numsW_len s0 [1, corr]
      (try simp only [List.length_cons, List.length_nil] at this)
      omega
    clear q0 q1 q2 q3 q10 q12
    have q0 := hp1.1.cell (j := 0) rfl
    have q1 := hp1.1.cell (j := 1) rfl
    have q2 := hp1.1.cell (j := 2) rfl
    have q3 := hp1.1.cell (j := 3) rfl
    have q10 := hp1.1.cell (j := 10) rfl
    have q12 := hp1.1.cell (j := 12) rfl
    go_wp2_with fail
    refine (wtext_any g v1 (numsW s0 [1, corr]) topic 40 w1 ht (by omega) hW1).mono ?_
    rintro e w2 ⟨rfl, v2, hW2, hS2⟩
    have hp2 := hS2.keeps hp1.1 hpg hp1.2
    have hb2 : (textW (numsW s0 [1, corr]) topic 40).1.length ≤ B0 + 1048594 := by
      have := And.intro (textW_len (numsW s0 [1, corr]) topic 40) (Nat.zero_le ([] : List Nat).length)
      (try simp only [List.length_cons, List.length_nil] at this)
      omega
    clear q0 q1 q2 q3 q10 q12
    have q0 := hp2.1.cell (j := 0) rfl
    have q1 := hp2.1.cell (j := 1) rfl
    have q2 := hp2.1.cell (j := 2) rfl
    have q3 := hp2.1.cell (j := 3) rfl
    have q10 := hp2.1.cell (j := 10) rfl
    have q12 := hp2.1.cell (j := 12) rfl
    go_wp2_with fail
    refine (wnum_one g v2 (textW (numsW s0 [1, corr]) topic 40) (part) w2 (by omega) hW2).mono ?_
    rintro e w3 ⟨rfl, v3, hW3, hS3⟩
    have hp3 := hS3.keeps hp2.1 hpg hp2.2
    have hb3 : (numsW (textW (numsW s0 [1, corr]) topic 40) [part]).1.length ≤ B0 + 1048600 := by
      have := numsW_len (textW (numsW s0 [1, corr]) topic 40) [part]
      (try simp only [List.length_cons, List.length_nil] at this)
      omega
    clear q0 q1 q2 q3 q10 q12
    have q0 := hp3.1.cell (j := 0) rfl
    have q1 := hp3.1.cell (j := 1) rfl
    have q2 := hp3.1.cell (j := 2) rfl
    have q3 := hp3.1.cell (j := 3) rfl
    have q10 := hp3.1.cell (j := 10) rfl
    have q12 := hp3.1.cell (j := 12) rfl
    go_wp2_with fail
    refine (wtruth_any g v3 (numsW (textW (numsW s0 [1, corr]) topic 40) [part]) sure w3 (by omega) hW3).mono ?_
    rintro e w4 ⟨rfl, v4, hW4, hS4⟩
    have hp4 := hS4.keeps hp3.1 hpg hp3.2
    have hb4 : (truthW (numsW (textW (numsW s0 [1, corr]) topic 40) [part]) sure).1.length ≤ B0 + 1048606 := by
      have := And.intro (truthW_len (numsW (textW (numsW s0 [1, corr]) topic 40) [part]) sure) (Nat.zero_le ([] : List Nat).length)
      (try simp only [List.length_cons, List.length_nil] at this)
      omega
    clear q0 q1 q2 q3 q10 q12
    have q0 := hp4.1.cell (j := 0) rfl
    have q1 := hp4.1.cell (j := 1) rfl
    have q2 := hp4.1.cell (j := 2) rfl
    have q3 := hp4.1.cell (j := 3) rfl
    have q10 := hp4.1.cell (j := 10) rfl
    have q12 := hp4.1.cell (j := 12) rfl
    obtain ⟨hrJ, haJ⟩ := ((((hS1.trans hS2).trans hS3).trans hS4)).recs hr0 ha0
    go_wp2_with fail
    refine (wrecs_any false g v4 (truthW (numsW (textW (numsW s0 [1, corr]) topic 40) [part]) sure) a recs cap w4 hl hsz (by omega) hW4 hrJ haJ).mono ?_
    rintro e w5 ⟨rfl, v5, hW5, hS5⟩
    have hp5 := hS5.keeps hp4.1 hpg hp4.2
    have hb5 : (recsW false (truthW (numsW (textW (numsW s0 [1, corr]) topic 40) [part]) sure) recs).1.length ≤ B0 + 42001048612 := by
      have := And.intro (recsW_len false (truthW (numsW (textW (numsW s0 [1, corr]) topic 40) [part]) sure) recs hsz) (Nat.mul_le_mul_left 2100000 hl)
      (try simp only [List.length_cons, List.length_nil] at this)
      omega
    clear q0 q1 q2 q3 q10 q12
    have q0 := hp5.1.cell (j := 0) rfl
    have q1 := hp5.1.cell (j := 1) rfl
    have q2 := hp5.1.cell (j := 2) rfl
    have q3 := hp5.1.cell (j := 3) rfl
    have q10 := hp5.1.cell (j := 10) rfl
    have q12 := hp5.1.cell (j := 12) rfl
    go_wp2_with fail
    go_end0
    exact ⟨rfl, v5, by rw [HS.out]; exact hW5, Step.pre hal0 (((((hS1.trans hS2).trans hS3).trans hS4).trans hS5))⟩
  · have q0 := hp0.1.cell (j := 0) rfl
    have q1 := hp0.1.cell (j := 1) rfl
    have q2 := hp0.1.cell (j := 2) rfl
    have q3 := hp0.1.cell (j := 3) rfl
    have q4 := hp0.1.cell (j := 4) rfl
    have q5 := hp0.1.cell (j := 5) rfl
    have q6 := hp0.1.cell (j := 6) rfl
    have q7 := hp0.1.cell (j := 7) rfl
    have HS : Hid (reqW s0 ⟨2, corr, topic, part, offset, most, least, wait, time, parts, sure, compact, recs⟩ = (numsW (numsW (textW (numsW s0 [2, corr]) topic 40) [part]) [offset, most, least, wait])) := rfl
    go_wp2_with fail
    refine (wnum_l2 g v0 s0 (2) (corr) w0 (by omega) hW0).mono ?_
    rintro e w1 ⟨rfl, v1, hW1, hS1⟩
    have hp1 := hS1.keeps hp0.1 hpg hp0.2
    have hb1 : (numsW s0 [2, corr]).1.length ≤ B0 + 12 := by
      have := numsW_len s0 [2, corr]
      (try simp only [List.length_cons, List.length_nil] at this)
      omega
    clear q0 q1 q2 q3 q4 q5 q6 q7
    have q0 := hp1.1.cell (j := 0) rfl
    have q1 := hp1.1.cell (j := 1) rfl
    have q2 := hp1.1.cell (j := 2) rfl
    have q3 := hp1.1.cell (j := 3) rfl
    have q4 := hp1.1.cell (j := 4) rfl
    have q5 := hp1.1.cell (j := 5) rfl
    have q6 := hp1.1.cell (j := 6) rfl
    have q7 := hp1.1.cell (j := 7) rfl
    go_wp2_with fail
    refine (wtext_any g v1 (numsW s0 [2, corr]) topic 40 w1 ht (by omega) hW1).mono ?_
    rintro e w2 ⟨rfl, v2, hW2, hS2⟩
    have hp2 := hS2.keeps hp1.1 hpg hp1.2
    have hb2 : (textW (numsW s0 [2, corr]) topic 40).1.length ≤ B0 + 1048594 := by
      have := And.intro (textW_len (numsW s0 [2, corr]) topic 40) (Nat.zero_le ([] : List Nat).length)
      (try simp only [List.length_cons, List.length_nil] at this)
      omega
    clear q0 q1 q2 q3 q4 q5 q6 q7
    have q0 := hp2.1.cell (j := 0) rfl
    have q1 := hp2.1.cell (j := 1) rfl
    have q2 := hp2.1.cell (j := 2) rfl
    have q3 := hp2.1.cell (j := 3) rfl
    have q4 := hp2.1.cell (j := 4) rfl
    have q5 := hp2.1.cell (j := 5) rfl
    have q6 := hp2.1.cell (j := 6) rfl
    have q7 := hp2.1.cell (j := 7) rfl
    go_wp2_with fail
    refine (wnum_one g v2 (textW (numsW s0 [2, corr]) topic 40) (part) w2 (by omega) hW2).mono ?_
    rintro e w3 ⟨rfl, v3, hW3, hS3⟩
    have hp3 := hS3.keeps hp2.1 hpg hp2.2
    have hb3 : (numsW (textW (numsW s0 [2, corr]) topic 40) [part]).1.length ≤ B0 + 1048600 := by
      have := numsW_len (textW (numsW s0 [2, corr]) topic 40) [part]
      (try simp only [List.length_cons, List.length_nil] at this)
      omega
    clear q0 q1 q2 q3 q4 q5 q6 q7
    have q0 := hp3.1.cell (j := 0) rfl
    have q1 := hp3.1.cell (j := 1) rfl
    have q2 := hp3.1.cell (j := 2) rfl
    have q3 := hp3.1.cell (j := 3) rfl
    have q4 := hp3.1.cell (j := 4) rfl
    have q5 := hp3.1.cell (j := 5) rfl
    have q6 := hp3.1.cell (j := 6) rfl
    have q7 := hp3.1.cell (j := 7) rfl
    go_wp2_with fail
    refine (wnum_l4 g v3 (numsW (textW (numsW s0 [2, corr]) topic 40) [part]) (offset) (most) (least) (wait) w3 (by omega) hW3).mono ?_
    rintro e w4 ⟨rfl, v4, hW4, hS4⟩
    have hp4 := hS4.keeps hp3.1 hpg hp3.2
    have hb4 : (numsW (numsW (textW (numsW s0 [2, corr]) topic 40) [part]) [offset, most, least, wait]).1.length ≤ B0 + 1048624 := by
      have := numsW_len (numsW (textW (numsW s0 [2, corr]) topic 40) [part]) [offset, most, least, wait]
      (try simp only [List.length_cons, List.length_nil] at this)
      omega
    clear q0 q1 q2 q3 q4 q5 q6 q7
    have q0 := hp4.1.cell (j := 0) rfl
    have q1 := hp4.1.cell (j := 1) rfl
    have q2 := hp4.1.cell (j := 2) rfl
    have q3 := hp4.1.cell (j := 3) rfl
    have q4 := hp4.1.cell (j := 4) rfl
    have q5 := hp4.1.cell (j := 5) rfl
    have q6 := hp4.1.cell (j := 6) rfl
    have q7 := hp4.1.cell (j := 7) rfl
    go_wp2_with fail
    go_end0
    exact ⟨rfl, v4, by rw [HS.out]; exact hW4, Step.pre hal0 ((((hS1.trans hS2).trans hS3).trans hS4))⟩
  · have q0 := hp0.1.cell (j := 0) rfl
    have q1 := hp0.1.cell (j := 1) rfl
    have q2 := hp0.1.cell (j := 2) rfl
    have q3 := hp0.1.cell (j := 3) rfl
    have q8 := hp0.1.cell (j := 8) rfl
    have HS : Hid (reqW s0 ⟨3, corr, topic, part, offset, most, least, wait, time, parts, sure, compact, recs⟩ = (numsW (numsW (textW (numsW s0 [3, corr]) topic 40) [part]) [time])) := rfl
    go_wp2_with fail
    refine (wnum_l2 g v0 s0 (3) (corr) w0 (by omega) hW0).mono ?_
    rintro e w1 ⟨rfl, v1, hW1, hS1⟩
    have hp1 := hS1.keeps hp0.1 hpg hp0.2
    have hb1 : (numsW s0 [3, corr]).1.length ≤ B0 + 12 := by
      have := numsW_len s0 [3, corr]
      (try simp only [List.length_cons, List.length_nil] at this)
      omega
    clear q0 q1 q2 q3 q8
    have q0 := hp1.1.cell (j := 0) rfl
    have q1 := hp1.1.cell (j := 1) rfl
    have q2 := hp1.1.cell (j := 2) rfl
    have q3 := hp1.1.cell (j := 3) rfl
    have q8 := hp1.1.cell (j := 8) rfl
    go_wp2_with fail
    refine (wtext_any g v1 (numsW s0 [3, corr]) topic 40 w1 ht (by omega) hW1).mono ?_
    rintro e w2 ⟨rfl, v2, hW2, hS2⟩
    have hp2 := hS2.keeps hp1.1 hpg hp1.2
    have hb2 : (textW (numsW s0 [3, corr]) topic 40).1.length ≤ B0 + 1048594 := by
      have := And.intro (textW_len (numsW s0 [3, corr]) topic 40) (Nat.zero_le ([] : List Nat).length)
      (try simp only [List.length_cons, List.length_nil] at this)
      omega
    clear q0 q1 q2 q3 q8
    have q0 := hp2.1.cell (j := 0) rfl
    have q1 := hp2.1.cell (j := 1) rfl
    have q2 := hp2.1.cell (j := 2) rfl
    have q3 := hp2.1.cell (j := 3) rfl
    have q8 := hp2.1.cell (j := 8) rfl
    go_wp2_with fail
    refine (wnum_one g v2 (textW (numsW s0 [3, corr]) topic 40) (part) w2 (by omega) hW2).mono ?_
    rintro e w3 ⟨rfl, v3, hW3, hS3⟩
    have hp3 := hS3.keeps hp2.1 hpg hp2.2
    have hb3 : (numsW (textW (numsW s0 [3, corr]) topic 40) [part]).1.length ≤ B0 + 1048600 := by
      have := numsW_len (textW (numsW s0 [3, corr]) topic 40) [part]
      (try simp only [List.length_cons, List.length_nil] at this)
      omega
    clear q0 q1 q2 q3 q8
    have q0 := hp3.1.cell (j := 0) rfl
    have q1 := hp3.1.cell (j := 1) rfl
    have q2 := hp3.1.cell (j := 2) rfl
    have q3 := hp3.1.cell (j := 3) rfl
    have q8 := hp3.1.cell (j := 8) rfl
    go_wp2_with fail
    refine (wnum_one g v3 (numsW (textW (numsW s0 [3, corr]) topic 40) [part]) (time) w3 (by omega) hW3).mono ?_
    rintro e w4 ⟨rfl, v4, hW4, hS4⟩
    have hp4 := hS4.keeps hp3.1 hpg hp3.2
    have hb4 : (numsW (numsW (textW (numsW s0 [3, corr]) topic 40) [part]) [time]).1.length ≤ B0 + 1048606 := by
      have := numsW_len (numsW (textW (numsW s0 [3, corr]) topic 40) [part]) [time]
      (try simp only [List.length_cons, List.length_nil] at this)
      omega
    clear q0 q1 q2 q3 q8
    have q0 := hp4.1.cell (j := 0) rfl
    have q1 := hp4.1.cell (j := 1) rfl
    have q2 := hp4.1.cell (j := 2) rfl
    have q3 := hp4.1.cell (j := 3) rfl
    have q8 := hp4.1.cell (j := 8) rfl
    go_wp2_with fail
    go_end0
    exact ⟨rfl, v4, by rw [HS.out]; exact hW4, Step.pre hal0 ((((hS1.trans hS2).trans hS3).trans hS4))⟩
  · have q0 := hp0.1.cell (j := 0) rfl
    have q1 := hp0.1.cell (j := 1) rfl
    have q2 := hp0.1.cell (j := 2) rfl
    have q3 := hp0.1.cell (j := 3) rfl
    have q4 := hp0.1.cell (j := 4) rfl
    have HS : Hid (reqW s0 ⟨4, corr, topic, part, offset, most, least, wait, time, parts, sure, compact, recs⟩ = (numsW (numsW (textW (numsW s0 [4, corr]) topic 40) [part]) [offset])) := rfl
    go_wp2_with fail
    refine (wnum_l2 g v0 s0 (4) (corr) w0 (by omega) hW0).mono ?_
    rintro e w1 ⟨rfl, v1, hW1, hS1⟩
    have hp1 := hS1.keeps hp0.1 hpg hp0.2
    have hb1 : (numsW s0 [4, corr]).1.length ≤ B0 + 12 := by
      have := numsW_len s0 [4, corr]
      (try simp only [List.length_cons, List.length_nil] at this)
      omega
    clear q0 q1 q2 q3 q4
    have q0 := hp1.1.cell (j := 0) rfl
    have q1 := hp1.1.cell (j := 1) rfl
    have q2 := hp1.1.cell (j := 2) rfl
    have q3 := hp1.1.cell (j := 3) rfl
    have q4 := hp1.1.cell (j := 4) rfl
    go_wp2_with fail
    refine (wtext_any g v1 (numsW s0 [4, corr]) topic 40 w1 ht (by omega) hW1).mono ?_
    rintro e w2 ⟨rfl, v2, hW2, hS2⟩
    have hp2 := hS2.keeps hp1.1 hpg hp1.2
    have hb2 : (textW (numsW s0 [4, corr]) topic 40).1.length ≤ B0 + 1048594 := by
      have := And.intro (textW_len (numsW s0 [4, corr]) topic 40) (Nat.zero_le ([] : List Nat).length)
      (try simp only [List.length_cons, List.length_nil] at this)
      omega
    clear q0 q1 q2 q3 q4
    have q0 := hp2.1.cell (j := 0) rfl
    have q1 := hp2.1.cell (j := 1) rfl
    have q2 := hp2.1.cell (j := 2) rfl
    have q3 := hp2.1.cell (j := 3) rfl
    have q4 := hp2.1.cell (j := 4) rfl
    go_wp2_with fail
    refine (wnum_one g v2 (textW (numsW s0 [4, corr]) topic 40) (part) w2 (by omega) hW2).mono ?_
    rintro e w3 ⟨rfl, v3, hW3, hS3⟩
    have hp3 := hS3.keeps hp2.1 hpg hp2.2
    have hb3 : (numsW (textW (numsW s0 [4, corr]) topic 40) [part]).1.length ≤ B0 + 1048600 := by
      have := numsW_len (textW (numsW s0 [4, corr]) topic 40) [part]
      (try simp only [List.length_cons, List.length_nil] at this)
      omega
    clear q0 q1 q2 q3 q4
    have q0 := hp3.1.cell (j := 0) rfl
    have q1 := hp3.1.cell (j := 1) rfl
    have q2 := hp3.1.cell (j := 2) rfl
    have q3 := hp3.1.cell (j := 3) rfl
    have q4 := hp3.1.cell (j := 4) rfl
    go_wp2_with fail
    refine (wnum_one g v3 (numsW (textW (numsW s0 [4, corr]) topic 40) [part]) (offset) w3 (by omega) hW3).mono ?_
    rintro e w4 ⟨rfl, v4, hW4, hS4⟩
    have hp4 := hS4.keeps hp3.1 hpg hp3.2
    have hb4 : (numsW (numsW (textW (numsW s0 [4, corr]) topic 40) [part]) [offset]).1.length ≤ B0 + 1048606 := by
      have := numsW_len (numsW (textW (numsW s0 [4, corr]) topic 40) [part]) [offset]
      (try simp only [List.length_cons, List.length_nil] at this)
      omega
    clear q0 q1 q2 q3 q4
    have q0 := hp4.1.cell (j := 0) rfl
    have q1 := hp4.1.cell (j := 1) rfl
    have q2 := hp4.1.cell (j := 2) rfl
    have q3 := hp4.1.cell (j := 3) rfl
    have q4 := hp4.1.cell (j := 4) rfl
    go_wp2_with fail
    go_end0
    exact ⟨rfl, v4, by rw [HS.out]; exact hW4, Step.pre hal0 ((((hS1.trans hS2).trans hS3).trans hS4))⟩
  · have q0 := hp0.1.cell (j := 0) rfl
    have q1 := hp0.1.cell (j := 1) rfl
    have q2 := hp0.1.cell (j := 2) rfl
    have q9 := hp0.1.cell (j := 9) rfl
    have q11 := hp0.1.cell (j := 11) rfl
    have HS : Hid (reqW s0 ⟨5, corr, topic, part, offset, most, least, wait, time, parts, sure, compact, recs⟩ = (truthW (numsW (textW (numsW s0 [5, corr]) topic 40) [parts]) compact)) := rfl
    go_wp2_with fail
    refine (wnum_l2 g v0 s0 (5) (corr) w0 (by omega) hW0).mono ?_
    rintro e w1 ⟨rfl, v1, hW1, hS1⟩
    have hp1 := hS1.keeps hp0.1 hpg hp0.2
    have hb1 : (numsW s0 [5, corr]).1.length ≤ B0 + 12 := by
      have := numsW_len s0 [5, corr]
      (try simp only [List.length_cons, List.length_nil] at this)
      omega
    clear q0 q1 q2 q9 q11
    have q0 := hp1.1.cell (j := 0) rfl
    have q1 := hp1.1.cell (j := 1) rfl
    have q2 := hp1.1.cell (j := 2) rfl
    have q9 := hp1.1.cell (j := 9) rfl
    have q11 := hp1.1.cell (j := 11) rfl
    go_wp2_with fail
    refine (wtext_any g v1 (numsW s0 [5, corr]) topic 40 w1 ht (by omega) hW1).mono ?_
    rintro e w2 ⟨rfl, v2, hW2, hS2⟩
    have hp2 := hS2.keeps hp1.1 hpg hp1.2
    have hb2 : (textW (numsW s0 [5, corr]) topic 40).1.length ≤ B0 + 1048594 := by
      have := And.intro (textW_len (numsW s0 [5, corr]) topic 40) (Nat.zero_le ([] : List Nat).length)
      (try simp only [List.length_cons, List.length_nil] at this)
      omega
    clear q0 q1 q2 q9 q11
    have q0 := hp2.1.cell (j := 0) rfl
    have q1 := hp2.1.cell (j := 1) rfl
    have q2 := hp2.1.cell (j := 2) rfl
    have q9 := hp2.1.cell (j := 9) rfl
    have q11 := hp2.1.cell (j := 11) rfl
    go_wp2_with fail
    refine (wnum_one g v2 (textW (numsW s0 [5, corr]) topic 40) (parts) w2 (by omega) hW2).mono ?_
    rintro e w3 ⟨rfl, v3, hW3, hS3⟩
    have hp3 := hS3.keeps hp2.1 hpg hp2.2
    have hb3 : (numsW (textW (numsW s0 [5, corr]) topic 40) [parts]).1.length ≤ B0 + 1048600 := by
      have := numsW_len (textW (numsW s0 [5, corr]) topic 40) [parts]
      (try simp only [List.length_cons, List.length_nil] at this)
      omega
    clear q0 q1 q2 q9 q11
    have q0 := hp3.1.cell (j := 0) rfl
    have q1 := hp3.1.cell (j := 1) rfl
    have q2 := hp3.1.cell (j := 2) rfl
    have q9 := hp3.1.cell (j := 9) rfl
    have q11 := hp3.1.cell (j := 11) rfl
    go_wp2_with fail
    refine (wtruth_any g v3 (numsW (textW (numsW s0 [5, corr]) topic 40) [parts]) compact w3 (by omega) hW3).mono ?_
    rintro e w4 ⟨rfl, v4, hW4, hS4⟩
    have hp4 := hS4.keeps hp3.1 hpg hp3.2
    have hb4 : (truthW (numsW (textW (numsW s0 [5, corr]) topic 40) [parts]) compact).1.length ≤ B0 + 1048606 := by
      have := And.intro (truthW_len (numsW (textW (numsW s0 [5, corr]) topic 40) [parts]) compact) (Nat.zero_le ([] : List Nat).length)
      (try simp only [List.length_cons, List.length_nil] at this)
      omega
    clear q0 q1 q2 q9 q11
    have q0 := hp4.1.cell (j := 0) rfl
    have q1 := hp4.1.cell (j := 1) rfl
    have q2 := hp4.1.cell (j := 2) rfl
    have q9 := hp4.1.cell (j := 9) rfl
    have q11 := hp4.1.cell (j := 11) rfl
    go_wp2_with fail
    go_end0
    exact ⟨rfl, v4, by rw [HS.out]; exact hW4, Step.pre hal0 ((((hS1.trans hS2).trans hS3).trans hS4))⟩
  · have q0 := hp0.1.cell (j := 0) rfl
    have q1 := hp0.1.cell (j := 1) rfl
    have q2 := hp0.1.cell (j := 2) rfl
    have HS : Hid (reqW s0 ⟨6, corr, topic, part, offset, most, least, wait, time, parts, sure, compact, recs⟩ = (textW (numsW s0 [6, corr]) topic 40)) := rfl
    go_wp2_with fail
    refine (wnum_l2 g v0 s0 (6) (corr) w0 (by omega) hW0).mono ?_
    rintro e w1 ⟨rfl, v1, hW1, hS1⟩
    have hp1 := hS1.keeps hp0.1 hpg hp0.2
    have hb1 : (numsW s0 [6, corr]).1.length ≤ B0 + 12 := by
      have := numsW_len s0 [6, corr]
      (try simp only [List.length_cons, List.length_nil] at this)
      omega
    clear q0 q1 q2
    have q0 := hp1.1.cell (j := 0) rfl
    have q1 := hp1.1.cell (j := 1) rfl
    have q2 := hp1.1.cell (j := 2) rfl
    go_wp2_with fail
    refine (wtext_any g v1 (numsW s0 [6, corr]) topic 40 w1 ht (by omega) hW1).mono ?_
    rintro e w2 ⟨rfl, v2, hW2, hS2⟩
    have hp2 := hS2.keeps hp1.1 hpg hp1.2
    have hb2 : (textW (numsW s0 [6, corr]) topic 40).1.length ≤ B0 + 1048594 := by
      have := And.intro (textW_len (numsW s0 [6, corr]) topic 40) (Nat.zero_le ([] : List Nat).length)
      (try simp only [List.length_cons, List.length_nil] at this)
      omega
    clear q0 q1 q2
    have q0 := hp2.1.cell (j := 0) rfl
    have q1 := hp2.1.cell (j := 1) rfl
    have q2 := hp2.1.cell (j := 2) rfl
    go_wp2_with fail
    go_end0
    exact ⟨rfl, v2, by rw [HS.out]; exact hW2, Step.pre hal0 ((hS1.trans hS2))⟩
  · have q0 := hp0.1.cell (j := 0) rfl
    have q1 := hp0.1.cell (j := 1) rfl
    have HS : Hid (reqW s0 ⟨7, corr, topic, part, offset, most, least, wait, time, parts, sure, compact, recs⟩ = (numsW s0 [7, corr])) := rfl
    go_wp2_with fail
    refine (wnum_l2 g v0 s0 (7) (corr) w0 (by omega) hW0).mono ?_
    rintro e w1 ⟨rfl, v1, hW1, hS1⟩
    have hp1 := hS1.keeps hp0.1 hpg hp0.2
    have hb1 : (numsW s0 [7, corr]).1.length ≤ B0 + 12 := by
      have := numsW_len s0 [7, corr]
      (try simp only [List.length_cons, List.length_nil] at this)
      omega
    clear q0 q1
    have q0 := hp1.1.cell (j := 0) rfl
    have q1 := hp1.1.cell (j := 1) rfl
    go_wp2_with fail
    go_end0
    exact ⟨rfl, v1, by rw [HS.out]; exact hW1, Step.pre hal0 hS1⟩
end Go.Proofs.YtmklicodfiggnaaDoor
