/-
  The walk of the document's Tell.
-/
import Derived.Test.YtmklicodfiggnaaDoorTellW
import Derived.Test.YtmklicodfiggnaaDoorRefAskW
set_option linter.unusedSimpArgs false
namespace Go.Proofs.YtmklicodfiggnaaDoor
open Go.RowKit

theorem mnum_l3 (g : Nat) (v : Value) (s : WS) (n0 n1 n2 : Int) (w : World) (hs : s.1.length ≤ 10000000000000) (h : Wr 59 w g v s) :
    Calls Tryd.prog 23 #[.pointer (some ⟨g, 0, none⟩), .slice (some ⟨w.heap.size, 0, none⟩) 3 3] (w.alloc (.cells #[.int .i64 n0, .int .i64 n1, .int .i64 n2] 3)) fun e w' => e = .returned (.tuple #[]) ∧ ∃ v', Wr 59 w' g v' (numsW s [n0, n1, n2]) ∧ Step g w w' v v' := by
  refine (mnum_any g w.heap.size v s [n0, n1, n2] (w.alloc (.cells #[.int .i64 n0, .int .i64 n1, .int .i64 n2] 3)) (by simp) hs (h.alloc _) (Box.new w [.int .i64 n0, .int .i64 n1, .int .i64 n2] 3) (by have := h.lt; omega) (fun e => by have := h.own.lt _ e; omega)).mono ?_
  rintro e w' ⟨rfl, v', hW, hS⟩
  exact ⟨rfl, v', hW, hS.pre ((Chg.refl Nil w).alloc _)⟩

set_option maxHeartbeats 4000000 in
set_option maxRecDepth 100000 in
theorem mtell_any (kind corr err offset start fin : Int) (found : Bool) (recs : List Rec) (a : Option Addr) (cap : Nat) (tops : List Tp) (b : Option Addr) (bcap : Nat) (w : World) (hl : recs.length ≤ 20000) (hsz : ∀ r ∈ recs, r.key.size ≤ 1048576 ∧ r.value.size ≤ 1048576) (hlt : tops.length ≤ 20000) (hst : ∀ t ∈ tops, t.name.size ≤ 1048576) (hr : RecsAt w a recs) (ht : TopsAt w b tops) :
    Calls Tryd.prog 12 #[.agg #[.int .i64 kind, .int .i64 corr, .int .i64 err, .int .i64 offset, .int .i64 start, .int .i64 fin, .bool found, .slice a recs.length cap, .slice b tops.length bcap]] w (TellPost w ⟨kind, corr, err, offset, start, fin, found, recs, tops⟩ (fun k => .int .i64 (k : Nat))) := by
  have hx := Box.new w [.int .i64 kind, .int .i64 corr, .int .i64 err, .int .i64 offset, .int .i64 start, .int .i64 fin, .bool found, .slice a recs.length cap, .slice b tops.length bcap] 37
  have hal0 := (Chg.refl Nil w).alloc (.cells #[.int .i64 kind, .int .i64 corr, .int .i64 err, .int .i64 offset, .int .i64 start, .int .i64 fin, .bool found, .slice a recs.length cap, .slice b tops.length bcap] 37)
  have hr0 := hr.chg hal0 (fun _ _ h => h)
  have ht0 := ht.chg hal0 (fun _ _ h => h)
  have hrlt : 0 < recs.length → ∀ y, a = some y → y.block < w.heap.size := by
    intro h0 y hy
    obtain ⟨b, off, rfl, hc⟩ := hr 0 h0
    cases hy
    exact World.block_lt_of_cell? _ _ (hc 0 _ rfl)
  have htlt : 0 < tops.length → ∀ y, b = some y → y.block < w.heap.size := by
    intro h0 y hy
    obtain ⟨b, off, rfl, hc⟩ := ht 0 h0
    cases hy
    exact World.block_lt_of_cell? _ _ (hc 0 _ rfl)
  have HR0 := Lib.hid hr0
  have HT0 := Lib.hid ht0
  have HRL := Lib.hid hrlt
  have HTL := Lib.hid htlt
  have hltT := hlt
  clear hr hr0 hrlt ht ht0 htlt
  go_enter Tryd.func12, Tryd.ntmps12
  go_upto_region 1 with fail
  generalize hw0 : w.alloc (.cells #[.int .i64 kind, .int .i64 corr, .int .i64 err, .int .i64 offset, .int .i64 start, .int .i64 fin, .bool found, .slice a recs.length cap, .slice b tops.length bcap] 37) = wx at *
  have HZ0 : Hid (wx.heap.size = w.heap.size + 1) := by unfold Hid; rw [← hw0]; simp
  have q0 := hx.cell (j := 0) rfl
  have q2 := hx.cell (j := 2) rfl
  clear hw0
  by_cases hk : 1 ≤ kind ∧ kind ≤ 7
  · obtain ⟨hk1, hk7⟩ := hk
    have hk1' : ¬ kind < 1 := by omega
    have hk7' : ¬ 7 < kind := by omega
    by_cases he : 0 ≤ err ∧ err ≤ 15
    · obtain ⟨he1, he2⟩ := he
      have he1' : ¬ err < 0 := by omega
      have he2' : ¬ 15 < err := by omega
      have HA : Hid (tellErr ⟨kind, corr, err, offset, start, fin, found, recs, tops⟩ = frameErr (tellW ([], 0) ⟨kind, corr, err, offset, start, fin, found, recs, tops⟩)) := by unfold Hid tellErr; simp only; rw [if_neg (by omega)]
      have HB : Hid (tellB ⟨kind, corr, err, offset, start, fin, found, recs, tops⟩ = frameB (tellW ([], 0) ⟨kind, corr, err, offset, start, fin, found, recs, tops⟩)) := rfl
      have hg0 := Box.new wx [.slice none 0 0, .int .i64 0] 59
      have halg := (Chg.refl Nil wx).alloc (.cells #[.slice none 0 0, .int .i64 0] 59)
      have hWp : Wr 59 (wx.alloc (.cells #[.slice none 0 0, .int .i64 0] 59)) wx.heap.size (.slice none 0 0) ([], 0) := ⟨hg0, OwnB.nil _ _, by simp [Value.ownBlock]⟩
      have hx1 := hx.chg halg (fun h => h)
      have hr1 := HR0.out.chg halg (fun _ _ h => h)
      have ht1 := HT0.out.chg halg (fun _ _ h => h)
      have ha1 : 0 < recs.length → ∀ y, a = some y → y.block ≠ wx.heap.size ∧ (Value.slice none 0 0).ownBlock ≠ some y.block := fun h0 y hy => ⟨by have := HRL.out h0 y hy; have := HZ0.out; omega, by simp [Value.ownBlock]⟩
      have hb1 : 0 < tops.length → ∀ y, b = some y → y.block ≠ wx.heap.size ∧ (Value.slice none 0 0).ownBlock ≠ some y.block := fun h0 y hy => ⟨by have := HTL.out h0 y hy; have := HZ0.out; omega, by simp [Value.ownBlock]⟩
      have hp1 : Box (wx.alloc (.cells #[.slice none 0 0, .int .i64 0] 59)) w.heap.size _ _ ∧ (Value.slice none 0 0).ownBlock ≠ some w.heap.size := ⟨hx1, by simp [Value.ownBlock]⟩
      go_upto_region 4 with fail
      have hch1 := hal0.trans halg (fun _ h => .inl h)
      clear hx hx1 hg0 q0 q2 halg hal0
      generalize wx.alloc (.cells #[.slice none 0 0, .int .i64 0] 59) = wp at *
      have hpg : w.heap.size ≠ wx.heap.size := by have := HZ0.out; omega
      have hgw : w.heap.size ≤ wx.heap.size := by have := HZ0.out; omega
      generalize wx.heap.size = g at *
      have q0 := hp1.1.cell (j := 0) rfl
      have q1 := hp1.1.cell (j := 1) rfl
      have q2 := hp1.1.cell (j := 2) rfl
      go_wp2_with fail
      refine (mnum_l3 g (.slice none 0 0) ([], 0) kind corr err wp (by simp) hWp).mono ?_
      rintro e w0 ⟨rfl, v0, hW0, hSp⟩
      have hp0 := hSp.keeps hp1.1 hpg hp1.2
      obtain ⟨hr0, ha0⟩ := hSp.recs hr1 ha1
      obtain ⟨ht0, hb0⟩ := hSp.tops ht1 hb1
      have hln3 := numsW_len ([], 0) [kind, corr, err]
      simp only [List.length_cons, List.length_nil] at hln3
      have hbd := tellW_bad ([], 0) ⟨kind, corr, err, offset, start, fin, found, recs, tops⟩ (by simp)
      have hln := tellW_len ([], 0) ⟨kind, corr, err, offset, start, fin, found, recs, tops⟩ hl hsz hlt hst
      simp only [List.length_nil] at hln
      have HBD := Lib.hid hbd
      have HLN := Lib.hid hln
      have hch0 : Chg Nil w w0 := hch1.trans hSp.chg (fun i hi => hi.elim (fun e => .inr (by omega)) fun e => by simp [Value.ownBlock] at e)
      have hv0 : ∀ k, v0.ownBlock = some k → w.heap.size ≤ k := fun k hk => (hSp.own k hk).elim (fun e => by simp [Value.ownBlock] at e) fun l => Nat.le_trans hch1.size l
      clear hWp hr1 ht1 ha1 hb1 hp1 q0 q1 q2 hSp hbd hln hch1 hlt
      have q2 := hp0.1.cell (j := 2) rfl
      by_cases h0 : err = 0
      · subst h0
        have HT : Hid (tellW ([], 0) ⟨kind, corr, 0, offset, start, fin, found, recs, tops⟩ = ansW (numsW ([], 0) [kind, corr, 0]) ⟨kind, corr, 0, offset, start, fin, found, recs, tops⟩) := rfl
        rw [HT.out] at HA HB HBD HLN
        generalize numsW (([] : List UInt8), 0) [kind, corr, 0] = s0 at *
        obtain ⟨B0, hB0⟩ : ∃ B0, B0 = s0.1.length := ⟨_, rfl⟩
        have hB1 : B0 ≤ 1000 := by omega
        obtain rfl | rfl | rfl | rfl | rfl | rfl | rfl : kind = 1 ∨ kind = 2 ∨ kind = 3 ∨ kind = 4 ∨ kind = 5 ∨ kind = 6 ∨ kind = 7 := by omega
        · clear q2
          have q2 := hp0.1.cell (j := 2) rfl
          have q0 := hp0.1.cell (j := 0) rfl
          have q3 := hp0.1.cell (j := 3) rfl
          have HS : Hid (ansW s0 ⟨1, corr, 0, offset, start, fin, found, recs, tops⟩ = (numsW s0 [offset])) := rfl
          go_wp2_with fail
          refine (mnum_one g v0 s0 (offset) w0 (by omega) hW0).mono ?_
          rintro e w1 ⟨rfl, v1, hW1, hS1⟩
          have hp1 := hS1.keeps hp0.1 hpg hp0.2
          have hb1 : (numsW s0 [offset]).1.length ≤ B0 + 6 := by
            have := numsW_len s0 [offset]
            (try simp only [List.length_cons, List.length_nil] at this)
            omega
          clear q2 q0 q3
          have q2 := hp1.1.cell (j := 2) rfl
          have q0 := hp1.1.cell (j := 0) rfl
          have q3 := hp1.1.cell (j := 3) rfl
          have hSa := hS1
          have hch3 : Chg Nil w w1 := hch0.trans hSa.chg (fun i hi => hi.elim (fun e => .inr (by omega)) fun e => .inr (hv0 i e))
          rw [HS.out] at HA HB HBD HLN
          have HLNo := HLN.out
          have HBDo := HBD.out
          generalize (numsW s0 [offset]) = sq at *
          go_wp2_with fail
          refine (mframe_any g v1 sq w1 (by omega) (by omega) hW1).mono ?_
          rintro e wf ⟨hcf, hpost⟩
          have hch4 : Chg Nil w wf := hch3.trans hcf (fun i hi => .inr (by omega))
          rcases hpost with ⟨hbad, rfl⟩ | ⟨hgood, u, rfl, hown, hfr⟩
          · go_wp2_with fail
            go_ret2
            exact ⟨hch4, .inl ⟨by rw [HA.out]; exact hbad, by rw [HA.out]; rfl⟩⟩
          · have HO := Lib.hid hown
            clear hown
            go_wp2_with fail
            go_ret2
            exact ⟨hch4, .inr ⟨by rw [HA.out]; exact hgood, u, rfl, by rw [HB.out]; exact HO.out, fun k hk => by have := hfr k hk; have := hch3.size; omega⟩⟩
        · clear q2
          have q2 := hp0.1.cell (j := 2) rfl
          have q0 := hp0.1.cell (j := 0) rfl
          have q4 := hp0.1.cell (j := 4) rfl
          have q5 := hp0.1.cell (j := 5) rfl
          have q7 := hp0.1.cell (j := 7) rfl
          have HS : Hid (ansW s0 ⟨2, corr, 0, offset, start, fin, found, recs, tops⟩ = (recsW true (numsW s0 [start, fin]) recs)) := rfl
          go_wp2_with fail
          refine (mnum_l2 g v0 s0 (start) (fin) w0 (by omega) hW0).mono ?_
          rintro e w1 ⟨rfl, v1, hW1, hS1⟩
          have hp1 := hS1.keeps hp0.1 hpg hp0.2
          have hb1 : (numsW s0 [start, fin]).1.length ≤ B0 + 12 := by
            have := numsW_len s0 [start, fin]
            (try simp only [List.length_cons, List.length_nil] at this)
            omega
          clear q2 q0 q4 q5 q7
          have q2 := hp1.1.cell (j := 2) rfl
          have q0 := hp1.1.cell (j := 0) rfl
          have q4 := hp1.1.cell (j := 4) rfl
          have q5 := hp1.1.cell (j := 5) rfl
          have q7 := hp1.1.cell (j := 7) rfl
          obtain ⟨hrJ, haJ⟩ := (hS1).recs hr0 ha0
          go_wp2_with fail
          refine (mrecs_any true g v1 (numsW s0 [start, fin]) a recs cap w1 hl hsz (by omega) hW1 hrJ haJ).mono ?_
          rintro e w2 ⟨rfl, v2, hW2, hS2⟩
          have hp2 := hS2.keeps hp1.1 hpg hp1.2
          have hb2 : (recsW true (numsW s0 [start, fin]) recs).1.length ≤ B0 + 42000000018 := by
            have := And.intro (recsW_len true (numsW s0 [start, fin]) recs hsz) (Nat.mul_le_mul_left 2100000 hl)
            (try simp only [List.length_cons, List.length_nil] at this)
            omega
          clear q2 q0 q4 q5 q7
          have q2 := hp2.1.cell (j := 2) rfl
          have q0 := hp2.1.cell (j := 0) rfl
          have q4 := hp2.1.cell (j := 4) rfl
          have q5 := hp2.1.cell (j := 5) rfl
          have q7 := hp2.1.cell (j := 7) rfl
          have hSa := (hS1.trans hS2)
          have hch3 : Chg Nil w w2 := hch0.trans hSa.chg (fun i hi => hi.elim (fun e => .inr (by omega)) fun e => .inr (hv0 i e))
          rw [HS.out] at HA HB HBD HLN
          have HLNo := HLN.out
          have HBDo := HBD.out
          generalize (recsW true (numsW s0 [start, fin]) recs) = sq at *
          go_wp2_with fail
          refine (mframe_any g v2 sq w2 (by omega) (by omega) hW2).mono ?_
          rintro e wf ⟨hcf, hpost⟩
          have hch4 : Chg Nil w wf := hch3.trans hcf (fun i hi => .inr (by omega))
          rcases hpost with ⟨hbad, rfl⟩ | ⟨hgood, u, rfl, hown, hfr⟩
          · go_wp2_with fail
            go_ret2
            exact ⟨hch4, .inl ⟨by rw [HA.out]; exact hbad, by rw [HA.out]; rfl⟩⟩
          · have HO := Lib.hid hown
            clear hown
            go_wp2_with fail
            go_ret2
            exact ⟨hch4, .inr ⟨by rw [HA.out]; exact hgood, u, rfl, by rw [HB.out]; exact HO.out, fun k hk => by have := hfr k hk; have := hch3.size; omega⟩⟩
        · cases found
          · clear q2
            have q2 := hp0.1.cell (j := 2) rfl
            have q0 := hp0.1.cell (j := 0) rfl
            have q3 := hp0.1.cell (j := 3) rfl
            have q6 := hp0.1.cell (j := 6) rfl
            have HS : Hid (ansW s0 ⟨3, corr, 0, offset, start, fin, false, recs, tops⟩ = (truthW s0 false)) := rfl
            go_wp2_with fail
            refine (mtruth_any g v0 s0 false w0 (by omega) hW0).mono ?_
            rintro e w1 ⟨rfl, v1, hW1, hS1⟩
            have hp1 := hS1.keeps hp0.1 hpg hp0.2
            have hb1 : (truthW s0 false).1.length ≤ B0 + 6 := by
              have := And.intro (truthW_len s0 false) (Nat.zero_le ([] : List Nat).length)
              (try simp only [List.length_cons, List.length_nil] at this)
              omega
            clear q2 q0 q3 q6
            have q2 := hp1.1.cell (j := 2) rfl
            have q0 := hp1.1.cell (j := 0) rfl
            have q3 := hp1.1.cell (j := 3) rfl
            have q6 := hp1.1.cell (j := 6) rfl
            have hSa := hS1
            have hch3 : Chg Nil w w1 := hch0.trans hSa.chg (fun i hi => hi.elim (fun e => .inr (by omega)) fun e => .inr (hv0 i e))
            rw [HS.out] at HA HB HBD HLN
            have HLNo := HLN.out
            have HBDo := HBD.out
            generalize (truthW s0 false) = sq at *
            go_wp2_with fail
            refine (mframe_any g v1 sq w1 (by omega) (by omega) hW1).mono ?_
            rintro e wf ⟨hcf, hpost⟩
            have hch4 : Chg Nil w wf := hch3.trans hcf (fun i hi => .inr (by omega))
            rcases hpost with ⟨hbad, rfl⟩ | ⟨hgood, u, rfl, hown, hfr⟩
            · go_wp2_with fail
              go_ret2
              exact ⟨hch4, .inl ⟨by rw [HA.out]; exact hbad, by rw [HA.out]; rfl⟩⟩
            · have HO := Lib.hid hown
              clear hown
              go_wp2_with fail
              go_ret2
              exact ⟨hch4, .inr ⟨by rw [HA.out]; exact hgood, u, rfl, by rw [HB.out]; exact HO.out, fun k hk => by have := hfr k hk; have := hch3.size; omega⟩⟩
          · clear q2
            have q2 := hp0.1.cell (j := 2) rfl
            have q0 := hp0.1.cell (j := 0) rfl
            have q3 := hp0.1.cell (j := 3) rfl
            have q6 := hp0.1.cell (j := 6) rfl
            have HS : Hid (ansW s0 ⟨3, corr, 0, offset, start, fin, true, recs, tops⟩ = (numsW (truthW s0 true) [offset])) := rfl
            go_wp2_with fail
            refine (mtruth_any g v0 s0 true w0 (by omega) hW0).mono ?_
            rintro e w1 ⟨rfl, v1, hW1, hS1⟩
            have hp1 := hS1.keeps hp0.1 hpg hp0.2
            have hb1 : (truthW s0 true).1.length ≤ B0 + 6 := by
              have := And.intro (truthW_len s0 true) (Nat.zero_le ([] : List Nat).length)
              (try simp only [List.length_cons, List.length_nil] at this)
              omega
            clear q2 q0 q3 q6
            have q2 := hp1.1.cell (j := 2) rfl
            have q0 := hp1.1.cell (j := 0) rfl
            have q3 := hp1.1.cell (j := 3) rfl
            have q6 := hp1.1.cell (j := 6) rfl
            go_wp2_with fail
            refine (mnum_one g v1 (truthW s0 true) (offset) w1 (by omega) hW1).mono ?_
            rintro e w2 ⟨rfl, v2, hW2, hS2⟩
            have hp2 := hS2.keeps hp1.1 hpg hp1.2
            have hb2 : (numsW (truthW s0 true) [offset]).1.length ≤ B0 + 12 := by
              have := numsW_len (truthW s0 true) [offset]
              (try simp only [List.length_cons, List.length_nil] at this)
              omega
            clear q2 q0 q3 q6
            have q2 := hp2.1.cell (j := 2) rfl
            have q0 := hp2.1.cell (j := 0) rfl
            have q3 := hp2.1.cell (j := 3) rfl
            have q6 := hp2.1.cell (j := 6) rfl
            have hSa := (hS1.trans hS2)
            have hch3 : Chg Nil w w2 := hch0.trans hSa.chg (fun i hi => hi.elim (fun e => .inr (by omega)) fun e => .inr (hv0 i e))
            rw [HS.out] at HA HB HBD HLN
            have HLNo := HLN.out
            have HBDo := HBD.out
            generalize (numsW (truthW s0 true) [offset]) = sq at *
            go_wp2_with fail
            refine (mframe_any g v2 sq w2 (by omega) (by omega) hW2).mono ?_
            rintro e wf ⟨hcf, hpost⟩
            have hch4 : Chg Nil w wf := hch3.trans hcf (fun i hi => .inr (by omega))
            rcases hpost with ⟨hbad, rfl⟩ | ⟨hgood, u, rfl, hown, hfr⟩
            · go_wp2_with fail
              go_ret2
              exact ⟨hch4, .inl ⟨by rw [HA.out]; exact hbad, by rw [HA.out]; rfl⟩⟩
            · have HO := Lib.hid hown
              clear hown
              go_wp2_with fail
              go_ret2
              exact ⟨hch4, .inr ⟨by rw [HA.out]; exact hgood, u, rfl, by rw [HB.out]; exact HO.out, fun k hk => by have := hfr k hk; have := hch3.size; omega⟩⟩
        · clear q2
          have q2 := hp0.1.cell (j := 2) rfl
          have q0 := hp0.1.cell (j := 0) rfl
          have q4 := hp0.1.cell (j := 4) rfl
          have HS : Hid (ansW s0 ⟨4, corr, 0, offset, start, fin, found, recs, tops⟩ = (numsW s0 [start])) := rfl
          go_wp2_with fail
          refine (mnum_one g v0 s0 (start) w0 (by omega) hW0).mono ?_
          rintro e w1 ⟨rfl, v1, hW1, hS1⟩
          have hp1 := hS1.keeps hp0.1 hpg hp0.2
          have hb1 : (numsW s0 [start]).1.length ≤ B0 + 6 := by
            have := numsW_len s0 [start]
            (try simp only [List.length_cons, List.length_nil] at this)
            omega
          clear q2 q0 q4
          have q2 := hp1.1.cell (j := 2) rfl
          have q0 := hp1.1.cell (j := 0) rfl
          have q4 := hp1.1.cell (j := 4) rfl
          have hSa := hS1
          have hch3 : Chg Nil w w1 := hch0.trans hSa.chg (fun i hi => hi.elim (fun e => .inr (by omega)) fun e => .inr (hv0 i e))
          rw [HS.out] at HA HB HBD HLN
          have HLNo := HLN.out
          have HBDo := HBD.out
          generalize (numsW s0 [start]) = sq at *
          go_wp2_with fail
          refine (mframe_any g v1 sq w1 (by omega) (by omega) hW1).mono ?_
          rintro e wf ⟨hcf, hpost⟩
          have hch4 : Chg Nil w wf := hch3.trans hcf (fun i hi => .inr (by omega))
          rcases hpost with ⟨hbad, rfl⟩ | ⟨hgood, u, rfl, hown, hfr⟩
          · go_wp2_with fail
            go_ret2
            exact ⟨hch4, .inl ⟨by rw [HA.out]; exact hbad, by rw [HA.out]; rfl⟩⟩
          · have HO := Lib.hid hown
            clear hown
            go_wp2_with fail
            go_ret2
            exact ⟨hch4, .inr ⟨by rw [HA.out]; exact hgood, u, rfl, by rw [HB.out]; exact HO.out, fun k hk => by have := hfr k hk; have := hch3.size; omega⟩⟩
        · clear q2
          have q2 := hp0.1.cell (j := 2) rfl
          have q0 := hp0.1.cell (j := 0) rfl
          have HS : Hid (ansW s0 ⟨5, corr, 0, offset, start, fin, found, recs, tops⟩ = s0) := rfl
          have hSa := Step.refl g w0 v0
          have hch3 : Chg Nil w w0 := hch0.trans hSa.chg (fun i hi => hi.elim (fun e => .inr (by omega)) fun e => .inr (hv0 i e))
          rw [HS.out] at HA HB HBD HLN
          have HLNo := HLN.out
          have HBDo := HBD.out
          go_wp2_with fail
          refine (mframe_any g v0 s0 w0 (by omega) (by omega) hW0).mono ?_
          rintro e wf ⟨hcf, hpost⟩
          have hch4 : Chg Nil w wf := hch3.trans hcf (fun i hi => .inr (by omega))
          rcases hpost with ⟨hbad, rfl⟩ | ⟨hgood, u, rfl, hown, hfr⟩
          · go_wp2_with fail
            go_ret2
            exact ⟨hch4, .inl ⟨by rw [HA.out]; exact hbad, by rw [HA.out]; rfl⟩⟩
          · have HO := Lib.hid hown
            clear hown
            go_wp2_with fail
            go_ret2
            exact ⟨hch4, .inr ⟨by rw [HA.out]; exact hgood, u, rfl, by rw [HB.out]; exact HO.out, fun k hk => by have := hfr k hk; have := hch3.size; omega⟩⟩
        · clear q2
          have q2 := hp0.1.cell (j := 2) rfl
          have q0 := hp0.1.cell (j := 0) rfl
          have HS : Hid (ansW s0 ⟨6, corr, 0, offset, start, fin, found, recs, tops⟩ = s0) := rfl
          have hSa := Step.refl g w0 v0
          have hch3 : Chg Nil w w0 := hch0.trans hSa.chg (fun i hi => hi.elim (fun e => .inr (by omega)) fun e => .inr (hv0 i e))
          rw [HS.out] at HA HB HBD HLN
          have HLNo := HLN.out
          have HBDo := HBD.out
          go_wp2_with fail
          refine (mframe_any g v0 s0 w0 (by omega) (by omega) hW0).mono ?_
          rintro e wf ⟨hcf, hpost⟩
          have hch4 : Chg Nil w wf := hch3.trans hcf (fun i hi => .inr (by omega))
          rcases hpost with ⟨hbad, rfl⟩ | ⟨hgood, u, rfl, hown, hfr⟩
          · go_wp2_with fail
            go_ret2
            exact ⟨hch4, .inl ⟨by rw [HA.out]; exact hbad, by rw [HA.out]; rfl⟩⟩
          · have HO := Lib.hid hown
            clear hown
            go_wp2_with fail
            go_ret2
            exact ⟨hch4, .inr ⟨by rw [HA.out]; exact hgood, u, rfl, by rw [HB.out]; exact HO.out, fun k hk => by have := hfr k hk; have := hch3.size; omega⟩⟩
        · clear q2
          have q2 := hp0.1.cell (j := 2) rfl
          have q0 := hp0.1.cell (j := 0) rfl
          have q8 := hp0.1.cell (j := 8) rfl
          have HS : Hid (ansW s0 ⟨7, corr, 0, offset, start, fin, found, recs, tops⟩ = topsW s0 tops) := rfl
          have hTS := (Step.refl g w0 v0).tops ht0 hb0
          obtain ⟨htJ, hbJ⟩ := hTS
          have HTJ := Lib.hid htJ
          have hBs : s0.1.length ≤ 1000000 := by omega
          have hlnT := numsW_len s0 [(tops.length : Int)]
          simp only [List.length_cons, List.length_nil] at hlnT
          clear htJ
          go_wp2_with fail
          refine (mnum_one g v0 s0 (tops.length : Int) w0 (by omega) hW0).mono ?_
          rintro e wa ⟨rfl, va, hWa, hSa⟩
          have hpa := hSa.keeps hp0.1 hpg hp0.2
          clear q2 q0 q8
          have q8 := hpa.1.cell (j := 8) rfl
          have HD : Hid (topsW s0 tops = (tops.take tops.length).foldl tpW (numsW s0 [(tops.length : Int)])) := by unfold Hid topsW; rw [List.take_length]
          generalize numsW s0 [(tops.length : Int)] = sa at *
          go_wp2_with fail
          go_loopw [96] (fun i wr => ∃ (k : Nat) (vk : Value), k ≤ tops.length ∧ i = .int .i64 k ∧ Wr 59 wr g vk ((tops.take k).foldl tpW sa) ∧ Step g w0 wr v0 vk) (fun i _ => tops.length - (intOf i).toNat)
          case atStart => exact ⟨0, va, Nat.zero_le _, rfl, hWa, hSa⟩
          case round =>
            obtain ⟨k, vk, hk, rfl, hWk, hSk⟩ := hrel
            clear hSa hWa hpa q8
            by_cases hlt : k < tops.length
            · obtain ⟨rb, off, rfl, hcell0⟩ := HTJ.out k hlt
              obtain ⟨hb1, hb2⟩ := hbJ (by omega) _ rfl
              have hcell : ∀ j u, tops[k].cells[j]? = some u → wr.cell? ⟨rb, off + k * 3 + j, none⟩ = some u := fun j u hj => hSk.chg.cell (hcell0 j u hj) (fun e => e.elim hb1 hb2)
              have g0 : wr.cell? ⟨rb, off + k * 3, none⟩ = _ := hcell 0 _ rfl
              have g1 := hcell 1 _ rfl
              have g2 := hcell 2 _ rfl
              have HN0 : Hid ((tops.take (k + 1)).foldl tpW sa = tpW ((tops.take k).foldl tpW sa) tops[k]) := by
                unfold Hid
                rw [take_snoc tops k hlt, List.foldl_append]; rfl
              have hln0 := tops_len (tops.take k) sa (fun x hx => hst x (List.mem_of_mem_take hx))
              rw [List.length_take] at hln0
              have hnz := hst _ (List.getElem_mem hlt)
              have hB2 : 1100000 * min k tops.length ≤ 1100000 * 20000 := Nat.mul_le_mul_left _ (by omega)
              clear hcell hcell0
              generalize (tops.take k).foldl tpW sa = sk at *
              generalize tops[k] = tp at *
              obtain ⟨nm, pt, cp⟩ := tp
              simp only at g0 g1 g2 hnz
              have HN : Hid ((tops.take (k + 1)).foldl tpW sa = truthW (numsW (textW sk nm 40) [pt]) cp) := HN0.out
              have hxA := Box.new wr [.string nm, .int .i64 pt, .bool cp] 74
              have halx := (Chg.refl Nil wr).alloc (.cells #[.string nm, .int .i64 pt, .bool cp] 74)
              have hWx := hWk.alloc (.cells #[.string nm, .int .i64 pt, .bool cp] 74)
              have hxn : vk.ownBlock ≠ some wr.heap.size := fun e => by have := hWk.own.lt _ e; omega
              have hxg : wr.heap.size ≠ g := by have := hWk.lt; omega
              go_upto_region 24 with fail
              clear hWk g0 g1 g2
              generalize wr.alloc (.cells #[.string nm, .int .i64 pt, .bool cp] 74) = wx at *
              generalize wr.heap.size = px at *
              have hx0 : Box wx px _ _ ∧ vk.ownBlock ≠ some px := ⟨hxA, hxn⟩
              clear hxA hxn
              have y0 := hx0.1.cell (j := 0) rfl
              have y1 := hx0.1.cell (j := 1) rfl
              have y2 := hx0.1.cell (j := 2) rfl
              have l1 := textW_len sk nm 40
              have l2 := numsW_len (textW sk nm 40) [pt]
              simp only [List.length_cons, List.length_nil] at l2
              go_wp2_with fail
              refine (mtext_any g vk sk nm 40 wx hnz (by omega) hWx).mono ?_
              rintro e wb ⟨rfl, vb, hWb, hSb⟩
              have hxb := hSb.keeps hx0.1 hxg hx0.2
              clear y0 y1 y2
              have y1 := hxb.1.cell (j := 1) rfl
              have y2 := hxb.1.cell (j := 2) rfl
              go_wp2_with fail
              refine (mnum_one g vb (textW sk nm 40) pt wb (by omega) hWb).mono ?_
              rintro e wc2 ⟨rfl, vc, hWc, hSc⟩
              have hxc := hSc.keeps hxb.1 hxg hxb.2
              clear y1 y2
              have y2 := hxc.1.cell (j := 2) rfl
              go_wp2_with fail
              refine (mtruth_any g vc (numsW (textW sk nm 40) [pt]) cp wc2 (by omega) hWc).mono ?_
              rintro e wd ⟨rfl, vd, hWd, hSd⟩
              go_wp2_with fail
              go_roundw
              case rel =>
                refine ⟨k + 1, vd, by omega, by go_num, ?_, ?_⟩
                · rw [HN.out]; exact hWd
                · exact hSk.trans (Step.pre halx ((hSb.trans hSc).trans hSd))
              case measure => simp [intOf]; omega
            · have hkl : k = tops.length := by omega
              subst hkl
              rw [← HD.out] at hWk
              go_wp2_with fail
              have hSa := hSk
              have hch3 : Chg Nil w wr := hch0.trans hSa.chg (fun i hi => hi.elim (fun e => .inr (by omega)) fun e => .inr (hv0 i e))
              rw [HS.out] at HA HB HBD HLN
              have HLNo := HLN.out
              have HBDo := HBD.out
              generalize topsW s0 tops = sq at *
              go_wp2_with fail
              refine (mframe_any g vk sq wr (by omega) (by omega) hWk).mono ?_
              rintro e wf ⟨hcf, hpost⟩
              have hch4 : Chg Nil w wf := hch3.trans hcf (fun i hi => .inr (by omega))
              rcases hpost with ⟨hbad, rfl⟩ | ⟨hgood, u, rfl, hown, hfr⟩
              · go_wp2_with fail
                go_ret2
                exact ⟨hch4, .inl ⟨by rw [HA.out]; exact hbad, by rw [HA.out]; rfl⟩⟩
              · have HO := Lib.hid hown
                clear hown
                go_wp2_with fail
                go_ret2
                exact ⟨hch4, .inr ⟨by rw [HA.out]; exact hgood, u, rfl, by rw [HB.out]; exact HO.out, fun k hk => by have := hfr k hk; have := hch3.size; omega⟩⟩
      · have HS : Hid (tellW ([], 0) ⟨kind, corr, err, offset, start, fin, found, recs, tops⟩ = numsW ([], 0) [kind, corr, err]) := by unfold Hid tellW; rw [if_neg h0]
        have hSa := Step.refl g w0 v0
        have hch3 : Chg Nil w w0 := hch0.trans hSa.chg (fun i hi => hi.elim (fun e => .inr (by omega)) fun e => .inr (hv0 i e))
        rw [HS.out] at HA HB HBD HLN
        have HLNo := HLN.out
        have HBDo := HBD.out
        generalize numsW (([] : List UInt8), 0) [kind, corr, err] = sq at *
        go_wp2_with fail
        refine (mframe_any g v0 sq w0 (by omega) (by omega) hW0).mono ?_
        rintro e wf ⟨hcf, hpost⟩
        have hch4 : Chg Nil w wf := hch3.trans hcf (fun i hi => .inr (by omega))
        rcases hpost with ⟨hbad, rfl⟩ | ⟨hgood, u, rfl, hown, hfr⟩
        · go_wp2_with fail
          go_ret2
          exact ⟨hch4, .inl ⟨by rw [HA.out]; exact hbad, by rw [HA.out]; rfl⟩⟩
        · have HO := Lib.hid hown
          clear hown
          go_wp2_with fail
          go_ret2
          exact ⟨hch4, .inr ⟨by rw [HA.out]; exact hgood, u, rfl, by rw [HB.out]; exact HO.out, fun k hk => by have := hfr k hk; have := hch3.size; omega⟩⟩
    · have HA : Hid (tellErr ⟨kind, corr, err, offset, start, fin, found, recs, tops⟩ = 1) := by unfold Hid tellErr; simp only; rw [if_pos (by omega)]
      by_cases hn : err < 0
      · clear he
        go_wp2_with fail
        go_ret2
        exact ⟨hal0, .inl ⟨by rw [HA.out]; simp, by rw [HA.out]; rfl⟩⟩
      · have hbig : 15 < err := by omega
        clear he
        go_wp2_with fail
        go_ret2
        exact ⟨hal0, .inl ⟨by rw [HA.out]; simp, by rw [HA.out]; rfl⟩⟩
  · have HA : Hid (tellErr ⟨kind, corr, err, offset, start, fin, found, recs, tops⟩ = 1) := by unfold Hid tellErr; simp only; rw [if_pos (by omega)]
    by_cases h1 : kind < 1
    · clear hk
      go_wp2_with fail
      go_ret2
      exact ⟨hal0, .inl ⟨by rw [HA.out]; simp, by rw [HA.out]; rfl⟩⟩
    · have h7 : 7 < kind := by omega
      clear hk
      go_wp2_with fail
      go_ret2
      exact ⟨hal0, .inl ⟨by rw [HA.out]; simp, by rw [HA.out]; rfl⟩⟩
end Go.Proofs.YtmklicodfiggnaaDoor
