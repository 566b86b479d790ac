/-
  The walk of the document's Ask.
-/
import Derived.Test.YtmklicodfiggnaaDoorAskW
import Derived.Test.YtmklicodfiggnaaDoorMakeRW
set_option linter.unusedSimpArgs false
namespace Go.Proofs.YtmklicodfiggnaaDoor
open Go.RowKit

theorem mnum_l2 (g : Nat) (v : Value) (s : WS) (n0 n1 : Int) (w : World) (hs : s.1.length ≤ 10000000000000) (h : Wr 59 w g v s) :
    Calls Tryd.prog 23 #[.pointer (some ⟨g, 0, none⟩), .slice (some ⟨w.heap.size, 0, none⟩) 2 2] (w.alloc (.cells #[.int .i64 n0, .int .i64 n1] 3)) fun e w' => e = .returned (.tuple #[]) ∧ ∃ v', Wr 59 w' g v' (numsW s [n0, n1]) ∧ Step g w w' v v' := by
  refine (mnum_any g w.heap.size v s [n0, n1] (w.alloc (.cells #[.int .i64 n0, .int .i64 n1] 3)) (by simp) hs (h.alloc _) (Box.new w [.int .i64 n0, .int .i64 n1] 3) (by have := h.lt; omega) (fun e => by have := h.own.lt _ e; omega)).mono ?_
  rintro e w' ⟨rfl, v', hW, hS⟩
  exact ⟨rfl, v', hW, hS.pre ((Chg.refl Nil w).alloc _)⟩

theorem mnum_l4 (g : Nat) (v : Value) (s : WS) (n0 n1 n2 n3 : Int) (w : World) (hs : s.1.length ≤ 10000000000000) (h : Wr 59 w g v s) :
    Calls Tryd.prog 23 #[.pointer (some ⟨g, 0, none⟩), .slice (some ⟨w.heap.size, 0, none⟩) 4 4] (w.alloc (.cells #[.int .i64 n0, .int .i64 n1, .int .i64 n2, .int .i64 n3] 3)) fun e w' => e = .returned (.tuple #[]) ∧ ∃ v', Wr 59 w' g v' (numsW s [n0, n1, n2, n3]) ∧ Step g w w' v v' := by
  refine (mnum_any g w.heap.size v s [n0, n1, n2, n3] (w.alloc (.cells #[.int .i64 n0, .int .i64 n1, .int .i64 n2, .int .i64 n3] 3)) (by simp) hs (h.alloc _) (Box.new w [.int .i64 n0, .int .i64 n1, .int .i64 n2, .int .i64 n3] 3) (by have := h.lt; omega) (fun e => by have := h.own.lt _ e; omega)).mono ?_
  rintro e w' ⟨rfl, v', hW, hS⟩
  exact ⟨rfl, v', hW, hS.pre ((Chg.refl Nil w).alloc _)⟩

theorem mnum_l5 (g : Nat) (v : Value) (s : WS) (n0 n1 n2 n3 n4 : Int) (w : World) (hs : s.1.length ≤ 10000000000000) (h : Wr 59 w g v s) :
    Calls Tryd.prog 23 #[.pointer (some ⟨g, 0, none⟩), .slice (some ⟨w.heap.size, 0, none⟩) 5 5] (w.alloc (.cells #[.int .i64 n0, .int .i64 n1, .int .i64 n2, .int .i64 n3, .int .i64 n4] 3)) fun e w' => e = .returned (.tuple #[]) ∧ ∃ v', Wr 59 w' g v' (numsW s [n0, n1, n2, n3, n4]) ∧ Step g w w' v v' := by
  refine (mnum_any g w.heap.size v s [n0, n1, n2, n3, n4] (w.alloc (.cells #[.int .i64 n0, .int .i64 n1, .int .i64 n2, .int .i64 n3, .int .i64 n4] 3)) (by simp) hs (h.alloc _) (Box.new w [.int .i64 n0, .int .i64 n1, .int .i64 n2, .int .i64 n3, .int .i64 n4] 3) (by have := h.lt; omega) (fun e => by have := h.own.lt _ e; omega)).mono ?_
  rintro e w' ⟨rfl, v', hW, hS⟩
  exact ⟨rfl, v', hW, hS.pre ((Chg.refl Nil w).alloc _)⟩

set_option maxHeartbeats 4000000 in
set_option maxRecDepth 100000 in
theorem mask_any (kind corr part offset most least wait time parts : Int) (topic : ByteArray) (sure compact : Bool) (recs : List Rec) (a : Option Addr) (cap : Nat) (w : World) (hl : recs.length ≤ 20000) (ht : topic.size ≤ 1048576) (hsz : ∀ r ∈ recs, r.key.size ≤ 1048576 ∧ r.value.size ≤ 1048576) (hr : RecsAt w a recs) :
    Calls Tryd.prog 9 #[.agg #[.int .i64 kind, .int .i64 corr, .string topic, .int .i64 part, .int .i64 offset, .int .i64 most, .int .i64 least, .int .i64 wait, .int .i64 time, .int .i64 parts, .bool sure, .bool compact, .slice a recs.length cap]] w (AskPost w ⟨kind, corr, topic, part, offset, most, least, wait, time, parts, sure, compact, recs⟩ (fun k => .int .i64 (k : Nat))) := by
  have hx := Box.new w [.int .i64 kind, .int .i64 corr, .string topic, .int .i64 part, .int .i64 offset, .int .i64 most, .int .i64 least, .int .i64 wait, .int .i64 time, .int .i64 parts, .bool sure, .bool compact, .slice a recs.length cap] 24
  have hal0 := (Chg.refl Nil w).alloc (.cells #[.int .i64 kind, .int .i64 corr, .string topic, .int .i64 part, .int .i64 offset, .int .i64 most, .int .i64 least, .int .i64 wait, .int .i64 time, .int .i64 parts, .bool sure, .bool compact, .slice a recs.length cap] 24)
  have hr0 := hr.chg hal0 (fun _ _ h => h)
  have hrlt : 0 < recs.length → ∀ y, a = some y → y.block < w.heap.size := by
    intro h0 y hy
    obtain ⟨b, off, rfl, hc⟩ := hr 0 h0
    cases hy
    exact World.block_lt_of_cell? _ _ (hc 0 _ rfl)
  go_enter Tryd.func9, Tryd.ntmps9
  go_upto_region 1 with fail
  have hp : w.heap.size < (w.alloc (.cells #[.int .i64 kind, .int .i64 corr, .string topic, .int .i64 part, .int .i64 offset, .int .i64 most, .int .i64 least, .int .i64 wait, .int .i64 time, .int .i64 parts, .bool sure, .bool compact, .slice a recs.length cap] 24)).heap.size := by simp
  generalize w.alloc (.cells #[.int .i64 kind, .int .i64 corr, .string topic, .int .i64 part, .int .i64 offset, .int .i64 most, .int .i64 least, .int .i64 wait, .int .i64 time, .int .i64 parts, .bool sure, .bool compact, .slice a recs.length cap] 24) = wx at *
  have q0 := hx.cell (j := 0) rfl
  clear hr
  by_cases hk : 1 ≤ kind ∧ kind ≤ 7
  · have HA : Hid (askErr ⟨kind, corr, topic, part, offset, most, least, wait, time, parts, sure, compact, recs⟩ = frameErr (reqW ([], 0) ⟨kind, corr, topic, part, offset, most, least, wait, time, parts, sure, compact, recs⟩)) := by unfold Hid askErr; simp only; rw [if_neg (by omega)]
    have HB : Hid (askB ⟨kind, corr, topic, part, offset, most, least, wait, time, parts, sure, compact, recs⟩ = frameB (reqW ([], 0) ⟨kind, corr, topic, part, offset, most, least, wait, time, parts, sure, compact, recs⟩)) := rfl
    have hbd := reqW_bad ([], 0) ⟨kind, corr, topic, part, offset, most, least, wait, time, parts, sure, compact, recs⟩ (by simp)
    have hln := reqW_len ([], 0) ⟨kind, corr, topic, part, offset, most, least, wait, time, parts, sure, compact, recs⟩ ht hl hsz
    simp only [List.length_nil] at hln
    have HBD := Lib.hid hbd
    have HLN := Lib.hid hln
    have hg0 := Box.new wx [.slice none 0 0, .int .i64 0] 59
    have halg := (Chg.refl Nil wx).alloc (.cells #[.slice none 0 0, .int .i64 0] 59)
    have hW0 : Wr 59 (wx.alloc (.cells #[.slice none 0 0, .int .i64 0] 59)) wx.heap.size (.slice none 0 0) ([], 0) := ⟨hg0, OwnB.nil _ _, by simp [Value.ownBlock]⟩
    have hp0 : Box (wx.alloc (.cells #[.slice none 0 0, .int .i64 0] 59)) w.heap.size _ _ ∧ (Value.slice none 0 0).ownBlock ≠ some w.heap.size := ⟨hx.chg halg (fun h => h), by simp [Value.ownBlock]⟩
    have hr1 := hr0.chg halg (fun _ _ h => h)
    have ha0 : 0 < recs.length → ∀ y, a = some y → y.block ≠ wx.heap.size ∧ (Value.slice none 0 0).ownBlock ≠ some y.block := fun h0 y hy => ⟨by have := hrlt h0 y hy; omega, by simp [Value.ownBlock]⟩
    have hch0 := hal0.trans halg (fun _ h => .inl h)
    have hpg : w.heap.size ≠ wx.heap.size := by omega
    have hs0 : ([] : List UInt8).length = 0 := rfl
    clear hx hr0 hrlt hg0 hal0 halg hbd hln
    obtain rfl | rfl | rfl | rfl | rfl | rfl | rfl : kind = 1 ∨ kind = 2 ∨ kind = 3 ∨ kind = 4 ∨ kind = 5 ∨ kind = 6 ∨ kind = 7 := by omega
    · go_upto_region 4 with fail
      clear q0
      have hr0 := hr1
      clear hr1
      generalize hw0 : wx.alloc (.cells #[.slice none 0 0, .int .i64 0] 59) = w0 at *
      generalize hgz : wx.heap.size = g at *
      have hgw : w.heap.size ≤ g := by omega
      clear hw0 hgz hp
      generalize hv0 : Value.slice none 0 0 = v0 at hW0 hp0 ha0
      have hv0n : ∀ k, v0.ownBlock ≠ some k := by rw [← hv0]; simp [Value.ownBlock]
      clear hv0
      generalize hs00 : (([] : List UInt8), 0) = s0 at *
      obtain ⟨B0, hB0⟩ : ∃ B0, B0 = s0.1.length := ⟨_, rfl⟩
      have hB1 : B0 ≤ 1000 := by rw [hB0, ← hs00]; simp
      clear hs00 hs0
      have q0 := hp0.1.cell (j := 0) rfl
      have q1 := hp0.1.cell (j := 1) rfl
      have q2 := hp0.1.cell (j := 2) rfl
      have q3 := hp0.1.cell (j := 3) rfl
      have q10 := hp0.1.cell (j := 10) rfl
      have q12 := hp0.1.cell (j := 12) rfl
      have HS : Hid (reqW s0 ⟨1, corr, topic, part, offset, most, least, wait, time, parts, sure, compact, recs⟩ = (recsW false (truthW (numsW (textW (numsW s0 [1, corr]) topic 40) [part]) sure) recs)) := rfl
      go_wp2_with fail
      refine (mnum_l2 g v0 s0 (1) (corr) w0 (by omega) hW0).mono ?_
      rintro e w1 ⟨rfl, v1, hW1, hS1⟩
      have hp1 := hS1.keeps hp0.1 hpg hp0.2
      have hb1 : (numsW s0 [1, corr]).1.length ≤ B0 + 12 := by
        have := numsW_len s0 [1, corr]
        (try simp only [List.length_cons, List.length_nil] at this)
        omega
      clear q0 q1 q2 q3 q10 q12
      have q0 := hp1.1.cell (j := 0) rfl
      have q1 := hp1.1.cell (j := 1) rfl
      have q2 := hp1.1.cell (j := 2) rfl
      have q3 := hp1.1.cell (j := 3) rfl
      have q10 := hp1.1.cell (j := 10) rfl
      have q12 := hp1.1.cell (j := 12) rfl
      go_wp2_with fail
      refine (mtext_any g v1 (numsW s0 [1, corr]) topic 40 w1 ht (by omega) hW1).mono ?_
      rintro e w2 ⟨rfl, v2, hW2, hS2⟩
      have hp2 := hS2.keeps hp1.1 hpg hp1.2
      have hb2 : (textW (numsW s0 [1, corr]) topic 40).1.length ≤ B0 + 1048594 := by
        have := And.intro (textW_len (numsW s0 [1, corr]) topic 40) (Nat.zero_le ([] : List Nat).length)
        (try simp only [List.length_cons, List.length_nil] at this)
        omega
      clear q0 q1 q2 q3 q10 q12
      have q0 := hp2.1.cell (j := 0) rfl
      have q1 := hp2.1.cell (j := 1) rfl
      have q2 := hp2.1.cell (j := 2) rfl
      have q3 := hp2.1.cell (j := 3) rfl
      have q10 := hp2.1.cell (j := 10) rfl
      have q12 := hp2.1.cell (j := 12) rfl
      go_wp2_with fail
      refine (mnum_one g v2 (textW (numsW s0 [1, corr]) topic 40) (part) w2 (by omega) hW2).mono ?_
      rintro e w3 ⟨rfl, v3, hW3, hS3⟩
      have hp3 := hS3.keeps hp2.1 hpg hp2.2
      have hb3 : (numsW (textW (numsW s0 [1, corr]) topic 40) [part]).1.length ≤ B0 + 1048600 := by
        have := numsW_len (textW (numsW s0 [1, corr]) topic 40) [part]
        (try simp only [List.length_cons, List.length_nil] at this)
        omega
      clear q0 q1 q2 q3 q10 q12
      have q0 := hp3.1.cell (j := 0) rfl
      have q1 := hp3.1.cell (j := 1) rfl
      have q2 := hp3.1.cell (j := 2) rfl
      have q3 := hp3.1.cell (j := 3) rfl
      have q10 := hp3.1.cell (j := 10) rfl
      have q12 := hp3.1.cell (j := 12) rfl
      go_wp2_with fail
      refine (mtruth_any g v3 (numsW (textW (numsW s0 [1, corr]) topic 40) [part]) sure w3 (by omega) hW3).mono ?_
      rintro e w4 ⟨rfl, v4, hW4, hS4⟩
      have hp4 := hS4.keeps hp3.1 hpg hp3.2
      have hb4 : (truthW (numsW (textW (numsW s0 [1, corr]) topic 40) [part]) sure).1.length ≤ B0 + 1048606 := by
        have := And.intro (truthW_len (numsW (textW (numsW s0 [1, corr]) topic 40) [part]) sure) (Nat.zero_le ([] : List Nat).length)
        (try simp only [List.length_cons, List.length_nil] at this)
        omega
      clear q0 q1 q2 q3 q10 q12
      have q0 := hp4.1.cell (j := 0) rfl
      have q1 := hp4.1.cell (j := 1) rfl
      have q2 := hp4.1.cell (j := 2) rfl
      have q3 := hp4.1.cell (j := 3) rfl
      have q10 := hp4.1.cell (j := 10) rfl
      have q12 := hp4.1.cell (j := 12) rfl
      obtain ⟨hrJ, haJ⟩ := ((((hS1.trans hS2).trans hS3).trans hS4)).recs hr0 ha0
      go_wp2_with fail
      refine (mrecs_any false g v4 (truthW (numsW (textW (numsW s0 [1, corr]) topic 40) [part]) sure) a recs cap w4 hl hsz (by omega) hW4 hrJ haJ).mono ?_
      rintro e w5 ⟨rfl, v5, hW5, hS5⟩
      have hp5 := hS5.keeps hp4.1 hpg hp4.2
      have hb5 : (recsW false (truthW (numsW (textW (numsW s0 [1, corr]) topic 40) [part]) sure) recs).1.length ≤ B0 + 42001048612 := by
        have := And.intro (recsW_len false (truthW (numsW (textW (numsW s0 [1, corr]) topic 40) [part]) sure) recs hsz) (Nat.mul_le_mul_left 2100000 hl)
        (try simp only [List.length_cons, List.length_nil] at this)
        omega
      clear q0 q1 q2 q3 q10 q12
      have q0 := hp5.1.cell (j := 0) rfl
      have q1 := hp5.1.cell (j := 1) rfl
      have q2 := hp5.1.cell (j := 2) rfl
      have q3 := hp5.1.cell (j := 3) rfl
      have q10 := hp5.1.cell (j := 10) rfl
      have q12 := hp5.1.cell (j := 12) rfl
      have HBD2 := HBD
      have HLN2 := HLN
      rw [HS.out] at HA HB HBD2 HLN2
      have hSa := ((((hS1.trans hS2).trans hS3).trans hS4).trans hS5)
      have hch3 : Chg Nil w w5 := hch0.trans hSa.chg (fun i hi => hi.elim (fun e => .inr (by omega)) fun e => absurd e (hv0n i))
      have hWf := hW5
      have HLNo := HLN2.out
      have HBDo := HBD2.out
      generalize (recsW false (truthW (numsW (textW (numsW s0 [1, corr]) topic 40) [part]) sure) recs) = sq at *
      go_wp2_with fail
      refine (mframe_any g v5 sq w5 (by omega) (by omega) hWf).mono ?_
      rintro e wf ⟨hcf, hpost⟩
      have hch4 : Chg Nil w wf := hch3.trans hcf (fun i hi => .inr (by omega))
      rcases hpost with ⟨hbad, rfl⟩ | ⟨hgood, u, rfl, hown, hfr⟩
      · go_wp2_with fail
        go_ret2
        exact ⟨hch4, .inl ⟨by rw [HA.out]; exact hbad, by rw [HA.out]; rfl⟩⟩
      · have HO := Lib.hid hown
        clear hown
        go_wp2_with fail
        go_ret2
        exact ⟨hch4, .inr ⟨by rw [HA.out]; exact hgood, u, rfl, by rw [HB.out]; exact HO.out, fun k hk => by have := hfr k hk; have := hch3.size; omega⟩⟩
    · go_upto_region 4 with fail
      clear q0
      have hr0 := hr1
      clear hr1
      generalize hw0 : wx.alloc (.cells #[.slice none 0 0, .int .i64 0] 59) = w0 at *
      generalize hgz : wx.heap.size = g at *
      have hgw : w.heap.size ≤ g := by omega
      clear hw0 hgz hp
      generalize hv0 : Value.slice none 0 0 = v0 at hW0 hp0 ha0
      have hv0n : ∀ k, v0.ownBlock ≠ some k := by rw [← hv0]; simp [Value.ownBlock]
      clear hv0
      generalize hs00 : (([] : List UInt8), 0) = s0 at *
      obtain ⟨B0, hB0⟩ : ∃ B0, B0 = s0.1.length := ⟨_, rfl⟩
      have hB1 : B0 ≤ 1000 := by rw [hB0, ← hs00]; simp
      clear hs00 hs0
      have q0 := hp0.1.cell (j := 0) rfl
      have q1 := hp0.1.cell (j := 1) rfl
      have q2 := hp0.1.cell (j := 2) rfl
      have q3 := hp0.1.cell (j := 3) rfl
      have q4 := hp0.1.cell (j := 4) rfl
      have q5 := hp0.1.cell (j := 5) rfl
      have q6 := hp0.1.cell (j := 6) rfl
      have q7 := hp0.1.cell (j := 7) rfl
      have HS : Hid (reqW s0 ⟨2, corr, topic, part, offset, most, least, wait, time, parts, sure, compact, recs⟩ = (numsW (textW (numsW s0 [2, corr]) topic 40) [part, offset, most, least, wait])) := rfl
      go_wp2_with fail
      refine (mnum_l2 g v0 s0 (2) (corr) w0 (by omega) hW0).mono ?_
      rintro e w1 ⟨rfl, v1, hW1, hS1⟩
      have hp1 := hS1.keeps hp0.1 hpg hp0.2
      have hb1 : (numsW s0 [2, corr]).1.length ≤ B0 + 12 := by
        have := numsW_len s0 [2, corr]
        (try simp only [List.length_cons, List.length_nil] at this)
        omega
      clear q0 q1 q2 q3 q4 q5 q6 q7
      have q0 := hp1.1.cell (j := 0) rfl
      have q1 := hp1.1.cell (j := 1) rfl
      have q2 := hp1.1.cell (j := 2) rfl
      have q3 := hp1.1.cell (j := 3) rfl
      have q4 := hp1.1.cell (j := 4) rfl
      have q5 := hp1.1.cell (j := 5) rfl
      have q6 := hp1.1.cell (j := 6) rfl
      have q7 := hp1.1.cell (j := 7) rfl
      go_wp2_with fail
      refine (mtext_any g v1 (numsW s0 [2, corr]) topic 40 w1 ht (by omega) hW1).mono ?_
      rintro e w2 ⟨rfl, v2, hW2, hS2⟩
      have hp2 := hS2.keeps hp1.1 hpg hp1.2
      have hb2 : (textW (numsW s0 [2, corr]) topic 40).1.length ≤ B0 + 1048594 := by
        have := And.intro (textW_len (numsW s0 [2, corr]) topic 40) (Nat.zero_le ([] : List Nat).length)
        (try simp only [List.length_cons, List.length_nil] at this)
        omega
      clear q0 q1 q2 q3 q4 q5 q6 q7
      have q0 := hp2.1.cell (j := 0) rfl
      have q1 := hp2.1.cell (j := 1) rfl
      have q2 := hp2.1.cell (j := 2) rfl
      have q3 := hp2.1.cell (j := 3) rfl
      have q4 := hp2.1.cell (j := 4) rfl
      have q5 := hp2.1.cell (j := 5) rfl
      have q6 := hp2.1.cell (j := 6) rfl
      have q7 := hp2.1.cell (j := 7) rfl
      go_wp2_with fail
      refine (mnum_l5 g v2 (textW (numsW s0 [2, corr]) topic 40) (part) (offset) (most) (least) (wait) w2 (by omega) hW2).mono ?_
      rintro e w3 ⟨rfl, v3, hW3, hS3⟩
      have hp3 := hS3.keeps hp2.1 hpg hp2.2
      have hb3 : (numsW (textW (numsW s0 [2, corr]) topic 40) [part, offset, most, least, wait]).1.length ≤ B0 + 1048624 := by
        have := numsW_len (textW (numsW s0 [2, corr]) topic 40) [part, offset, most, least, wait]
        (try simp only [List.length_cons, List.length_nil] at this)
        omega
      clear q0 q1 q2 q3 q4 q5 q6 q7
      have q0 := hp3.1.cell (j := 0) rfl
      have q1 := hp3.1.cell (j := 1) rfl
      have q2 := hp3.1.cell (j := 2) rfl
      have q3 := hp3.1.cell (j := 3) rfl
      have q4 := hp3.1.cell (j := 4) rfl
      have q5 := hp3.1.cell (j := 5) rfl
      have q6 := hp3.1.cell (j := 6) rfl
      have q7 := hp3.1.cell (j := 7) rfl
      have HBD2 := HBD
      have HLN2 := HLN
      rw [HS.out] at HA HB HBD2 HLN2
      have hSa := ((hS1.trans hS2).trans hS3)
      have hch3 : Chg Nil w w3 := hch0.trans hSa.chg (fun i hi => hi.elim (fun e => .inr (by omega)) fun e => absurd e (hv0n i))
      have hWf := hW3
      have HLNo := HLN2.out
      have HBDo := HBD2.out
      generalize (numsW (textW (numsW s0 [2, corr]) topic 40) [part, offset, most, least, wait]) = sq at *
      go_wp2_with fail
      refine (mframe_any g v3 sq w3 (by omega) (by omega) hWf).mono ?_
      rintro e wf ⟨hcf, hpost⟩
      have hch4 : Chg Nil w wf := hch3.trans hcf (fun i hi => .inr (by omega))
      rcases hpost with ⟨hbad, rfl⟩ | ⟨hgood, u, rfl, hown, hfr⟩
      · go_wp2_with fail
        go_ret2
        exact ⟨hch4, .inl ⟨by rw [HA.out]; exact hbad, by rw [HA.out]; rfl⟩⟩
      · have HO := Lib.hid hown
        clear hown
        go_wp2_with fail
        go_ret2
        exact ⟨hch4, .inr ⟨by rw [HA.out]; exact hgood, u, rfl, by rw [HB.out]; exact HO.out, fun k hk => by have := hfr k hk; have := hch3.size; omega⟩⟩
    · go_upto_region 4 with fail
      clear q0
      have hr0 := hr1
      clear hr1
      generalize hw0 : wx.alloc (.cells #[.slice none 0 0, .int .i64 0] 59) = w0 at *
      generalize hgz : wx.heap.size = g at *
      have hgw : w.heap.size ≤ g := by omega
      clear hw0 hgz hp
      generalize hv0 : Value.slice none 0 0 = v0 at hW0 hp0 ha0
      have hv0n : ∀ k, v0.ownBlock ≠ some k := by rw [← hv0]; simp [Value.ownBlock]
      clear hv0
      generalize hs00 : (([] : List UInt8), 0) = s0 at *
      obtain ⟨B0, hB0⟩ : ∃ B0, B0 = s0.1.length := ⟨_, rfl⟩
      have hB1 : B0 ≤ 1000 := by rw [hB0, ← hs00]; simp
      clear hs00 hs0
      have q0 := hp0.1.cell (j := 0) rfl
      have q1 := hp0.1.cell (j := 1) rfl
      have q2 := hp0.1.cell (j := 2) rfl
      have q3 := hp0.1.cell (j := 3) rfl
      have q8 := hp0.1.cell (j := 8) rfl
      have HS : Hid (reqW s0 ⟨3, corr, topic, part, offset, most, least, wait, time, parts, sure, compact, recs⟩ = (numsW (textW (numsW s0 [3, corr]) topic 40) [part, time])) := rfl
      go_wp2_with fail
      refine (mnum_l2 g v0 s0 (3) (corr) w0 (by omega) hW0).mono ?_
      rintro e w1 ⟨rfl, v1, hW1, hS1⟩
      have hp1 := hS1.keeps hp0.1 hpg hp0.2
      have hb1 : (numsW s0 [3, corr]).1.length ≤ B0 + 12 := by
        have := numsW_len s0 [3, corr]
        (try simp only [List.length_cons, List.length_nil] at this)
        omega
      clear q0 q1 q2 q3 q8
      have q0 := hp1.1.cell (j := 0) rfl
      have q1 := hp1.1.cell (j := 1) rfl
      have q2 := hp1.1.cell (j := 2) rfl
      have q3 := hp1.1.cell (j := 3) rfl
      have q8 := hp1.1.cell (j := 8) rfl
      go_wp2_with fail
      refine (mtext_any g v1 (numsW s0 [3, corr]) topic 40 w1 ht (by omega) hW1).mono ?_
      rintro e w2 ⟨rfl, v2, hW2, hS2⟩
      have hp2 := hS2.keeps hp1.1 hpg hp1.2
      have hb2 : (textW (numsW s0 [3, corr]) topic 40).1.length ≤ B0 + 1048594 := by
        have := And.intro (textW_len (numsW s0 [3, corr]) topic 40) (Nat.zero_le ([] : List Nat).length)
        (try simp only [List.length_cons, List.length_nil] at this)
        omega
      clear q0 q1 q2 q3 q8
      have q0 := hp2.1.cell (j := 0) rfl
      have q1 := hp2.1.cell (j := 1) rfl
      have q2 := hp2.1.cell (j := 2) rfl
      have q3 := hp2.1.cell (j := 3) rfl
      have q8 := hp2.1.cell (j := 8) rfl
      go_wp2_with fail
      refine (mnum_l2 g v2 (textW (numsW s0 [3, corr]) topic 40) (part) (time) w2 (by omega) hW2).mono ?_
      rintro e w3 ⟨rfl, v3, hW3, hS3⟩
      have hp3 := hS3.keeps hp2.1 hpg hp2.2
      have hb3 : (numsW (textW (numsW s0 [3, corr]) topic 40) [part, time]).1.length ≤ B0 + 1048606 := by
        have := numsW_len (textW (numsW s0 [3, corr]) topic 40) [part, time]
        (try simp only [List.length_cons, List.length_nil] at this)
        omega
      clear q0 q1 q2 q3 q8
      have q0 := hp3.1.cell (j := 0) rfl
      have q1 := hp3.1.cell (j := 1) rfl
      have q2 := hp3.1.cell (j := 2) rfl
      have q3 := hp3.1.cell (j := 3) rfl
      have q8 := hp3.1.cell (j := 8) rfl
      have HBD2 := HBD
      have HLN2 := HLN
      rw [HS.out] at HA HB HBD2 HLN2
      have hSa := ((hS1.trans hS2).trans hS3)
      have hch3 : Chg Nil w w3 := hch0.trans hSa.chg (fun i hi => hi.elim (fun e => .inr (by omega)) fun e => absurd e (hv0n i))
      have hWf := hW3
      have HLNo := HLN2.out
      have HBDo := HBD2.out
      generalize (numsW (textW (numsW s0 [3, corr]) topic 40) [part, time]) = sq at *
      go_wp2_with fail
      refine (mframe_any g v3 sq w3 (by omega) (by omega) hWf).mono ?_
      rintro e wf ⟨hcf, hpost⟩
      have hch4 : Chg Nil w wf := hch3.trans hcf (fun i hi => .inr (by omega))
      rcases hpost with ⟨hbad, rfl⟩ | ⟨hgood, u, rfl, hown, hfr⟩
      · go_wp2_with fail
        go_ret2
        exact ⟨hch4, .inl ⟨by rw [HA.out]; exact hbad, by rw [HA.out]; rfl⟩⟩
      · have HO := Lib.hid hown
        clear hown
        go_wp2_with fail
        go_ret2
        exact ⟨hch4, .inr ⟨by rw [HA.out]; exact hgood, u, rfl, by rw [HB.out]; exact HO.out, fun k hk => by have := hfr k hk; have := hch3.size; omega⟩⟩
    · go_upto_region 4 with fail
      clear q0
      have hr0 := hr1
      clear hr1
      generalize hw0 : wx.alloc (.cells #[.slice none 0 0, .int .i64 0] 59) = w0 at *
      generalize hgz : wx.heap.size = g at *
      have hgw : w.heap.size ≤ g := by omega
      clear hw0 hgz hp
      generalize hv0 : Value.slice none 0 0 = v0 at hW0 hp0 ha0
      have hv0n : ∀ k, v0.ownBlock ≠ some k := by rw [← hv0]; simp [Value.ownBlock]
      clear hv0
      generalize hs00 : (([] : List UInt8), 0) = s0 at *
      obtain ⟨B0, hB0⟩ : ∃ B0, B0 = s0.1.length := ⟨_, rfl⟩
      have hB1 : B0 ≤ 1000 := by rw [hB0, ← hs00]; simp
      clear hs00 hs0
      have q0 := hp0.1.cell (j := 0) rfl
      have q1 := hp0.1.cell (j := 1) rfl
      have q2 := hp0.1.cell (j := 2) rfl
      have q3 := hp0.1.cell (j := 3) rfl
      have q4 := hp0.1.cell (j := 4) rfl
      have HS : Hid (reqW s0 ⟨4, corr, topic, part, offset, most, least, wait, time, parts, sure, compact, recs⟩ = (numsW (textW (numsW s0 [4, corr]) topic 40) [part, offset])) := rfl
      go_wp2_with fail
      refine (mnum_l2 g v0 s0 (4) (corr) w0 (by omega) hW0).mono ?_
      rintro e w1 ⟨rfl, v1, hW1, hS1⟩
      have hp1 := hS1.keeps hp0.1 hpg hp0.2
      have hb1 : (numsW s0 [4, corr]).1.length ≤ B0 + 12 := by
        have := numsW_len s0 [4, corr]
        (try simp only [List.length_cons, List.length_nil] at this)
        omega
      clear q0 q1 q2 q3 q4
      have q0 := hp1.1.cell (j := 0) rfl
      have q1 := hp1.1.cell (j := 1) rfl
      have q2 := hp1.1.cell (j := 2) rfl
      have q3 := hp1.1.cell (j := 3) rfl
      have q4 := hp1.1.cell (j := 4) rfl
      go_wp2_with fail
      refine (mtext_any g v1 (numsW s0 [4, corr]) topic 40 w1 ht (by omega) hW1).mono ?_
      rintro e w2 ⟨rfl, v2, hW2, hS2⟩
      have hp2 := hS2.keeps hp1.1 hpg hp1.2
      have hb2 : (textW (numsW s0 [4, corr]) topic 40).1.length ≤ B0 + 1048594 := by
        have := And.intro (textW_len (numsW s0 [4, corr]) topic 40) (Nat.zero_le ([] : List Nat).length)
        (try simp only [List.length_cons, List.length_nil] at this)
        omega
      clear q0 q1 q2 q3 q4
      have q0 := hp2.1.cell (j := 0) rfl
      have q1 := hp2.1.cell (j := 1) rfl
      have q2 := hp2.1.cell (j := 2) rfl
      have q3 := hp2.1.cell (j := 3) rfl
      have q4 := hp2.1.cell (j := 4) rfl
      go_wp2_with fail
      refine (mnum_l2 g v2 (textW (numsW s0 [4, corr]) topic 40) (part) (offset) w2 (by omega) hW2).mono ?_
      rintro e w3 ⟨rfl, v3, hW3, hS3⟩
      have hp3 := hS3.keeps hp2.1 hpg hp2.2
      have hb3 : (numsW (textW (numsW s0 [4, corr]) topic 40) [part, offset]).1.length ≤ B0 + 1048606 := by
        have := numsW_len (textW (numsW s0 [4, corr]) topic 40) [part, offset]
        (try simp only [List.length_cons, List.length_nil] at this)
        omega
      clear q0 q1 q2 q3 q4
      have q0 := hp3.1.cell (j := 0) rfl
      have q1 := hp3.1.cell (j := 1) rfl
      have q2 := hp3.1.cell (j := 2) rfl
      have q3 := hp3.1.cell (j := 3) rfl
      have q4 := hp3.1.cell (j := 4) rfl
      have HBD2 := HBD
      have HLN2 := HLN
      rw [HS.out] at HA HB HBD2 HLN2
      have hSa := ((hS1.trans hS2).trans hS3)
      have hch3 : Chg Nil w w3 := hch0.trans hSa.chg (fun i hi => hi.elim (fun e => .inr (by omega)) fun e => absurd e (hv0n i))
      have hWf := hW3
      have HLNo := HLN2.out
      have HBDo := HBD2.out
      generalize (numsW (textW (numsW s0 [4, corr]) topic 40) [part, offset]) = sq at *
      go_wp2_with fail
      refine (mframe_any g v3 sq w3 (by omega) (by omega) hWf).mono ?_
      rintro e wf ⟨hcf, hpost⟩
      have hch4 : Chg Nil w wf := hch3.trans hcf (fun i hi => .inr (by omega))
      rcases hpost with ⟨hbad, rfl⟩ | ⟨hgood, u, rfl, hown, hfr⟩
      · go_wp2_with fail
        go_ret2
        exact ⟨hch4, .inl ⟨by rw [HA.out]; exact hbad, by rw [HA.out]; rfl⟩⟩
      · have HO := Lib.hid hown
        clear hown
        go_wp2_with fail
        go_ret2
        exact ⟨hch4, .inr ⟨by rw [HA.out]; exact hgood, u, rfl, by rw [HB.out]; exact HO.out, fun k hk => by have := hfr k hk; have := hch3.size; omega⟩⟩
    · go_upto_region 4 with fail
      clear q0
      have hr0 := hr1
      clear hr1
      generalize hw0 : wx.alloc (.cells #[.slice none 0 0, .int .i64 0] 59) = w0 at *
      generalize hgz : wx.heap.size = g at *
      have hgw : w.heap.size ≤ g := by omega
      clear hw0 hgz hp
      generalize hv0 : Value.slice none 0 0 = v0 at hW0 hp0 ha0
      have hv0n : ∀ k, v0.ownBlock ≠ some k := by rw [← hv0]; simp [Value.ownBlock]
      clear hv0
      generalize hs00 : (([] : List UInt8), 0) = s0 at *
      obtain ⟨B0, hB0⟩ : ∃ B0, B0 = s0.1.length := ⟨_, rfl⟩
      have hB1 : B0 ≤ 1000 := by rw [hB0, ← hs00]; simp
      clear hs00 hs0
      have q0 := hp0.1.cell (j := 0) rfl
      have q1 := hp0.1.cell (j := 1) rfl
      have q2 := hp0.1.cell (j := 2) rfl
      have q9 := hp0.1.cell (j := 9) rfl
      have q11 := hp0.1.cell (j := 11) rfl
      have HS : Hid (reqW s0 ⟨5, corr, topic, part, offset, most, least, wait, time, parts, sure, compact, recs⟩ = (truthW (numsW (textW (numsW s0 [5, corr]) topic 40) [parts]) compact)) := rfl
      go_wp2_with fail
      refine (mnum_l2 g v0 s0 (5) (corr) w0 (by omega) hW0).mono ?_
      rintro e w1 ⟨rfl, v1, hW1, hS1⟩
      have hp1 := hS1.keeps hp0.1 hpg hp0.2
      have hb1 : (numsW s0 [5, corr]).1.length ≤ B0 + 12 := by
        have := numsW_len s0 [5, corr]
        (try simp only [List.length_cons, List.length_nil] at this)
        omega
      clear q0 q1 q2 q9 q11
      have q0 := hp1.1.cell (j := 0) rfl
      have q1 := hp1.1.cell (j := 1) rfl
      have q2 := hp1.1.cell (j := 2) rfl
      have q9 := hp1.1.cell (j := 9) rfl
      have q11 := hp1.1.cell (j := 11) rfl
      go_wp2_with fail
      refine (mtext_any g v1 (numsW s0 [5, corr]) topic 40 w1 ht (by omega) hW1).mono ?_
      rintro e w2 ⟨rfl, v2, hW2, hS2⟩
      have hp2 := hS2.keeps hp1.1 hpg hp1.2
      have hb2 : (textW (numsW s0 [5, corr]) topic 40).1.length ≤ B0 + 1048594 := by
        have := And.intro (textW_len (numsW s0 [5, corr]) topic 40) (Nat.zero_le ([] : List Nat).length)
        (try simp only [List.length_cons, List.length_nil] at this)
        omega
      clear q0 q1 q2 q9 q11
      have q0 := hp2.1.cell (j := 0) rfl
      have q1 := hp2.1.cell (j := 1) rfl
      have q2 := hp2.1.cell (j := 2) rfl
      have q9 := hp2.1.cell (j := 9) rfl
      have q11 := hp2.1.cell (j := 11) rfl
      go_wp2_with fail
      refine (mnum_one g v2 (textW (numsW s0 [5, corr]) topic 40) (parts) w2 (by omega) hW2).mono ?_
      rintro e w3 ⟨rfl, v3, hW3, hS3⟩
      have hp3 := hS3.keeps hp2.1 hpg hp2.2
      have hb3 : (numsW (textW (numsW s0 [5, corr]) topic 40) [parts]).1.length ≤ B0 + 1048600 := by
        have := numsW_len (textW (numsW s0 [5, corr]) topic 40) [parts]
        (try simp only [List.length_cons, List.length_nil] at this)
        omega
      clear q0 q1 q2 q9 q11
      have q0 := hp3.1.cell (j := 0) rfl
      have q1 := hp3.1.cell (j := 1) rfl
      have q2 := hp3.1.cell (j := 2) rfl
      have q9 := hp3.1.cell (j := 9) rfl
      have q11 := hp3.1.cell (j := 11) rfl
      go_wp2_with fail
      refine (mtruth_any g v3 (numsW (textW (numsW s0 [5, corr]) topic 40) [parts]) compact w3 (by omega) hW3).mono ?_
      rintro e w4 ⟨rfl, v4, hW4, hS4⟩
      have hp4 := hS4.keeps hp3.1 hpg hp3.2
      have hb4 : (truthW (numsW (textW (numsW s0 [5, corr]) topic 40) [parts]) compact).1.length ≤ B0 + 1048606 := by
        have := And.intro (truthW_len (numsW (textW (numsW s0 [5, corr]) topic 40) [parts]) compact) (Nat.zero_le ([] : List Nat).length)
        (try simp only [List.length_cons, List.length_nil] at this)
        omega
      clear q0 q1 q2 q9 q11
      have q0 := hp4.1.cell (j := 0) rfl
      have q1 := hp4.1.cell (j := 1) rfl
      have q2 := hp4.1.cell (j := 2) rfl
      have q9 := hp4.1.cell (j := 9) rfl
      have q11 := hp4.1.cell (j := 11) rfl
      have HBD2 := HBD
      have HLN2 := HLN
      rw [HS.out] at HA HB HBD2 HLN2
      have hSa := (((hS1.trans hS2).trans hS3).trans hS4)
      have hch3 : Chg Nil w w4 := hch0.trans hSa.chg (fun i hi => hi.elim (fun e => .inr (by omega)) fun e => absurd e (hv0n i))
      have hWf := hW4
      have HLNo := HLN2.out
      have HBDo := HBD2.out
      generalize (truthW (numsW (textW (numsW s0 [5, corr]) topic 40) [parts]) compact) = sq at *
      go_wp2_with fail
      refine (mframe_any g v4 sq w4 (by omega) (by omega) hWf).mono ?_
      rintro e wf ⟨hcf, hpost⟩
      have hch4 : Chg Nil w wf := hch3.trans hcf (fun i hi => .inr (by omega))
      rcases hpost with ⟨hbad, rfl⟩ | ⟨hgood, u, rfl, hown, hfr⟩
      · go_wp2_with fail
        go_ret2
        exact ⟨hch4, .inl ⟨by rw [HA.out]; exact hbad, by rw [HA.out]; rfl⟩⟩
      · have HO := Lib.hid hown
        clear hown
        go_wp2_with fail
        go_ret2
        exact ⟨hch4, .inr ⟨by rw [HA.out]; exact hgood, u, rfl, by rw [HB.out]; exact HO.out, fun k hk => by have := hfr k hk; have := hch3.size; omega⟩⟩
    · go_upto_region 4 with fail
      clear q0
      have hr0 := hr1
      clear hr1
      generalize hw0 : wx.alloc (.cells #[.slice none 0 0, .int .i64 0] 59) = w0 at *
      generalize hgz : wx.heap.size = g at *
      have hgw : w.heap.size ≤ g := by omega
      clear hw0 hgz hp
      generalize hv0 : Value.slice none 0 0 = v0 at hW0 hp0 ha0
      have hv0n : ∀ k, v0.ownBlock ≠ some k := by rw [← hv0]; simp [Value.ownBlock]
      clear hv0
      generalize hs00 : (([] : List UInt8), 0) = s0 at *
      obtain ⟨B0, hB0⟩ : ∃ B0, B0 = s0.1.length := ⟨_, rfl⟩
      have hB1 : B0 ≤ 1000 := by rw [hB0, ← hs00]; simp
      clear hs00 hs0
      have q0 := hp0.1.cell (j := 0) rfl
      have q1 := hp0.1.cell (j := 1) rfl
      have q2 := hp0.1.cell (j := 2) rfl
      have HS : Hid (reqW s0 ⟨6, corr, topic, part, offset, most, least, wait, time, parts, sure, compact, recs⟩ = (textW (numsW s0 [6, corr]) topic 40)) := rfl
      go_wp2_with fail
      refine (mnum_l2 g v0 s0 (6) (corr) w0 (by omega) hW0).mono ?_
      rintro e w1 ⟨rfl, v1, hW1, hS1⟩
      have hp1 := hS1.keeps hp0.1 hpg hp0.2
      have hb1 : (numsW s0 [6, corr]).1.length ≤ B0 + 12 := by
        have := numsW_len s0 [6, corr]
        (try simp only [List.length_cons, List.length_nil] at this)
        omega
      clear q0 q1 q2
      have q0 := hp1.1.cell (j := 0) rfl
      have q1 := hp1.1.cell (j := 1) rfl
      have q2 := hp1.1.cell (j := 2) rfl
      go_wp2_with fail
      refine (mtext_any g v1 (numsW s0 [6, corr]) topic 40 w1 ht (by omega) hW1).mono ?_
      rintro e w2 ⟨rfl, v2, hW2, hS2⟩
      have hp2 := hS2.keeps hp1.1 hpg hp1.2
      have hb2 : (textW (numsW s0 [6, corr]) topic 40).1.length ≤ B0 + 1048594 := by
        have := And.intro (textW_len (numsW s0 [6, corr]) topic 40) (Nat.zero_le ([] : List Nat).length)
        (try simp only [List.length_cons, List.length_nil] at this)
        omega
      clear q0 q1 q2
      have q0 := hp2.1.cell (j := 0) rfl
      have q1 := hp2.1.cell (j := 1) rfl
      have q2 := hp2.1.cell (j := 2) rfl
      have HBD2 := HBD
      have HLN2 := HLN
      rw [HS.out] at HA HB HBD2 HLN2
      have hSa := (hS1.trans hS2)
      have hch3 : Chg Nil w w2 := hch0.trans hSa.chg (fun i hi => hi.elim (fun e => .inr (by omega)) fun e => absurd e (hv0n i))
      have hWf := hW2
      have HLNo := HLN2.out
      have HBDo := HBD2.out
      generalize (textW (numsW s0 [6, corr]) topic 40) = sq at *
      go_wp2_with fail
      refine (mframe_any g v2 sq w2 (by omega) (by omega) hWf).mono ?_
      rintro e wf ⟨hcf, hpost⟩
      have hch4 : Chg Nil w wf := hch3.trans hcf (fun i hi => .inr (by omega))
      rcases hpost with ⟨hbad, rfl⟩ | ⟨hgood, u, rfl, hown, hfr⟩
      · go_wp2_with fail
        go_ret2
        exact ⟨hch4, .inl ⟨by rw [HA.out]; exact hbad, by rw [HA.out]; rfl⟩⟩
      · have HO := Lib.hid hown
        clear hown
        go_wp2_with fail
        go_ret2
        exact ⟨hch4, .inr ⟨by rw [HA.out]; exact hgood, u, rfl, by rw [HB.out]; exact HO.out, fun k hk => by have := hfr k hk; have := hch3.size; omega⟩⟩
    · go_upto_region 4 with fail
      clear q0
      have hr0 := hr1
      clear hr1
      generalize hw0 : wx.alloc (.cells #[.slice none 0 0, .int .i64 0] 59) = w0 at *
      generalize hgz : wx.heap.size = g at *
      have hgw : w.heap.size ≤ g := by omega
      clear hw0 hgz hp
      generalize hv0 : Value.slice none 0 0 = v0 at hW0 hp0 ha0
      have hv0n : ∀ k, v0.ownBlock ≠ some k := by rw [← hv0]; simp [Value.ownBlock]
      clear hv0
      generalize hs00 : (([] : List UInt8), 0) = s0 at *
      obtain ⟨B0, hB0⟩ : ∃ B0, B0 = s0.1.length := ⟨_, rfl⟩
      have hB1 : B0 ≤ 1000 := by rw [hB0, ← hs00]; simp
      clear hs00 hs0
      have q0 := hp0.1.cell (j := 0) rfl
      have q1 := hp0.1.cell (j := 1) rfl
      have HS : Hid (reqW s0 ⟨7, corr, topic, part, offset, most, least, wait, time, parts, sure, compact, recs⟩ = (numsW s0 [7, corr])) := rfl
      go_wp2_with fail
      refine (mnum_l2 g v0 s0 (7) (corr) w0 (by omega) hW0).mono ?_
      rintro e w1 ⟨rfl, v1, hW1, hS1⟩
      have hp1 := hS1.keeps hp0.1 hpg hp0.2
      have hb1 : (numsW s0 [7, corr]).1.length ≤ B0 + 12 := by
        have := numsW_len s0 [7, corr]
        (try simp only [List.length_cons, List.length_nil] at this)
        omega
      clear q0 q1
      have q0 := hp1.1.cell (j := 0) rfl
      have q1 := hp1.1.cell (j := 1) rfl
      have HBD2 := HBD
      have HLN2 := HLN
      rw [HS.out] at HA HB HBD2 HLN2
      have hSa := hS1
      have hch3 : Chg Nil w w1 := hch0.trans hSa.chg (fun i hi => hi.elim (fun e => .inr (by omega)) fun e => absurd e (hv0n i))
      have hWf := hW1
      have HLNo := HLN2.out
      have HBDo := HBD2.out
      generalize (numsW s0 [7, corr]) = sq at *
      go_wp2_with fail
      refine (mframe_any g v1 sq w1 (by omega) (by omega) hWf).mono ?_
      rintro e wf ⟨hcf, hpost⟩
      have hch4 : Chg Nil w wf := hch3.trans hcf (fun i hi => .inr (by omega))
      rcases hpost with ⟨hbad, rfl⟩ | ⟨hgood, u, rfl, hown, hfr⟩
      · go_wp2_with fail
        go_ret2
        exact ⟨hch4, .inl ⟨by rw [HA.out]; exact hbad, by rw [HA.out]; rfl⟩⟩
      · have HO := Lib.hid hown
        clear hown
        go_wp2_with fail
        go_ret2
        exact ⟨hch4, .inr ⟨by rw [HA.out]; exact hgood, u, rfl, by rw [HB.out]; exact HO.out, fun k hk => by have := hfr k hk; have := hch3.size; omega⟩⟩
  · have HA : Hid (askErr ⟨kind, corr, topic, part, offset, most, least, wait, time, parts, sure, compact, recs⟩ = 1) := by unfold Hid askErr; simp only; rw [if_pos (by omega)]
    clear hr0
    by_cases h1 : kind < 1
    · clear hk
      go_wp2_with fail
      go_ret2
      exact ⟨hal0, .inl ⟨by rw [HA.out]; simp, by rw [HA.out]; rfl⟩⟩
    · have h7 : 7 < kind := by omega
      clear hk
      go_wp2_with fail
      go_ret2
      exact ⟨hal0, .inl ⟨by rw [HA.out]; simp, by rw [HA.out]; rfl⟩⟩
end Go.Proofs.YtmklicodfiggnaaDoor
