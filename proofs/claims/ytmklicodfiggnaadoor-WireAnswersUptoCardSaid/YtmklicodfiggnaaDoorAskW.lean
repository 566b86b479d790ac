/-
  The walks of the program's Ask.
-/
import Derived.Test.YtmklicodfiggnaaDoorReqW
import Derived.Test.YtmklicodfiggnaaDoorFrameW
set_option linter.unusedSimpArgs false
namespace Go.Proofs.YtmklicodfiggnaaDoor
open Go.RowKit

theorem kind_any (n : Int) (w : World) : Calls Tryd.prog 28 #[.int .i64 n] w fun e w' => e = .returned (.bool (decide (1 ≤ n ∧ n ≤ 7))) ∧ w' = w := by
  by_cases h1 : (1 : Int) ≤ n
  · by_cases h2 : n ≤ 7
    · rw [decide_eq_true (show 1 ≤ n ∧ n ≤ 7 from ⟨h1, h2⟩)]
      go_enter Tryd.func28, Tryd.ntmps28
      go_wp2
      go_ret
      exact ⟨rfl, rfl⟩
    · rw [decide_eq_false (show ¬ (1 ≤ n ∧ n ≤ 7) from fun h => h2 h.2)]
      go_enter Tryd.func28, Tryd.ntmps28
      go_wp2
      go_ret
      exact ⟨rfl, rfl⟩
  · rw [decide_eq_false (show ¬ (1 ≤ n ∧ n ≤ 7) from fun h => h1 h.1)]
    go_enter Tryd.func28, Tryd.ntmps28
    go_wp2
    go_ret
    exact ⟨rfl, rfl⟩

/-- What an Ask leaves. -/
def AskPost (w : World) (x : Rq) (bad : Nat → Value) (e : Ending) (w' : World) : Prop :=
  Chg Nil w w' ∧ ((askErr x ≠ 0 ∧ e = .returned (.tuple #[.slice none 0 0, bad (askErr x)])) ∨
    (askErr x = 0 ∧ ∃ u, e = .returned (.tuple #[u, bad 0]) ∧ OwnB 5 w' u (askB x) ∧ ∀ k, u.ownBlock = some k → w.heap.size ≤ k))

set_option maxHeartbeats 2000000 in
set_option maxRecDepth 100000 in
theorem wask_any (kind corr part offset most least wait time parts : Int) (topic : ByteArray) (sure compact : Bool) (recs : List Rec) (a : Option Addr) (cap : Nat) (w : World) (hl : recs.length ≤ 20000) (ht : topic.size ≤ 1048576) (hsz : ∀ r ∈ recs, r.key.size ≤ 1048576 ∧ r.value.size ≤ 1048576) (hr : RecsAt w a recs) :
    Calls Tryd.prog 10 #[.agg #[.int .i64 kind, .int .i64 corr, .string topic, .int .i64 part, .int .i64 offset, .int .i64 most, .int .i64 least, .int .i64 wait, .int .i64 time, .int .i64 parts, .bool sure, .bool compact, .slice a recs.length cap]] w (AskPost w ⟨kind, corr, topic, part, offset, most, least, wait, time, parts, sure, compact, recs⟩ (errV 26)) := by
  have hx := Box.new w [.int .i64 kind, .int .i64 corr, .string topic, .int .i64 part, .int .i64 offset, .int .i64 most, .int .i64 least, .int .i64 wait, .int .i64 time, .int .i64 parts, .bool sure, .bool compact, .slice a recs.length cap] 24
  have hal0 := (Chg.refl Nil w).alloc (.cells #[.int .i64 kind, .int .i64 corr, .string topic, .int .i64 part, .int .i64 offset, .int .i64 most, .int .i64 least, .int .i64 wait, .int .i64 time, .int .i64 parts, .bool sure, .bool compact, .slice a recs.length cap] 24)
  have hr0 := hr.chg hal0 (fun _ _ h => h)
  have hrlt : 0 < recs.length → ∀ y, a = some y → y.block < w.heap.size := by
    intro h0 y hy
    obtain ⟨b, off, rfl, hc⟩ := hr 0 h0
    cases hy
    exact World.block_lt_of_cell? _ _ (hc 0 _ rfl)
  have HR0 := Lib.hid hr0
  have HRL := Lib.hid hrlt
  clear hr hr0 hrlt
  go_enter Tryd.func10, Tryd.ntmps10
  go_upto_region 1 with fail
  generalize hw0 : w.alloc (.cells #[.int .i64 kind, .int .i64 corr, .string topic, .int .i64 part, .int .i64 offset, .int .i64 most, .int .i64 least, .int .i64 wait, .int .i64 time, .int .i64 parts, .bool sure, .bool compact, .slice a recs.length cap] 24) = w0 at *
  have HZ0 : Hid (w0.heap.size = w.heap.size + 1) := by unfold Hid; rw [← hw0]; simp
  have q0 := hx.cell (j := 0) rfl
  clear hw0
  by_cases hk : 1 ≤ kind ∧ kind ≤ 7
  · have HA : Hid (askErr ⟨kind, corr, topic, part, offset, most, least, wait, time, parts, sure, compact, recs⟩ = frameErr (reqW ([], 0) ⟨kind, corr, topic, part, offset, most, least, wait, time, parts, sure, compact, recs⟩)) := by unfold Hid askErr; simp only; rw [if_neg (by omega)]
    have HB : Hid (askB ⟨kind, corr, topic, part, offset, most, least, wait, time, parts, sure, compact, recs⟩ = frameB (reqW ([], 0) ⟨kind, corr, topic, part, offset, most, least, wait, time, parts, sure, compact, recs⟩)) := rfl
    have hkd := kind_any kind w0
    rw [decide_eq_true hk] at hkd
    have HK := Lib.hid hkd
    clear hkd
    go_wp2_with fail
    refine HK.out.mono ?_
    rintro e w1 ⟨rfl, rfl⟩
    have hg0 := Box.new w1 [.slice none 0 0, .int .i64 0] 68
    have halg := (Chg.refl Nil w1).alloc (.cells #[.slice none 0 0, .int .i64 0] 68)
    have hW0 : Wr 68 (w1.alloc (.cells #[.slice none 0 0, .int .i64 0] 68)) w1.heap.size (.slice none 0 0) ([], 0) := ⟨hg0, OwnB.nil _ _, by simp [Value.ownBlock]⟩
    have hx1 := hx.chg halg (fun h => h)
    have hr1 := HR0.out.chg halg (fun _ _ h => h)
    have ha1 : 0 < recs.length → ∀ y, a = some y → y.block ≠ w1.heap.size ∧ (Value.slice none 0 0).ownBlock ≠ some y.block := fun h0 y hy => ⟨by have := HRL.out h0 y hy; have := HZ0.out; omega, by simp [Value.ownBlock]⟩
    have HQ := Lib.hid (wreq_any w1.heap.size (.slice none 0 0) ([], 0) kind corr part offset most least wait time parts topic sure compact recs a cap _ hk hl ht hsz (by simp) hW0 hr1 ha1)
    go_upto_region 4 with fail
    clear hW0 hr1 ha1 hg0 hx q0
    have hch1 := hal0.trans halg (fun _ h => .inl h)
    generalize w1.alloc (.cells #[.slice none 0 0, .int .i64 0] 68) = w2 at *
    have x0 := hx1.cell (j := 0) rfl
    have x1 := hx1.cell (j := 1) rfl
    have x2 := hx1.cell (j := 2) rfl
    have x3 := hx1.cell (j := 3) rfl
    have x4 := hx1.cell (j := 4) rfl
    have x5 := hx1.cell (j := 5) rfl
    have x6 := hx1.cell (j := 6) rfl
    have x7 := hx1.cell (j := 7) rfl
    have x8 := hx1.cell (j := 8) rfl
    have x9 := hx1.cell (j := 9) rfl
    have x10 := hx1.cell (j := 10) rfl
    have x11 := hx1.cell (j := 11) rfl
    have x12 := hx1.cell (j := 12) rfl
    go_wp2_with fail
    refine HQ.out.mono ?_
    rintro e w3 ⟨rfl, v3, hW3, hS3⟩
    have hbd := reqW_bad ([], 0) ⟨kind, corr, topic, part, offset, most, least, wait, time, parts, sure, compact, recs⟩ (by simp)
    have hln := reqW_len ([], 0) ⟨kind, corr, topic, part, offset, most, least, wait, time, parts, sure, compact, recs⟩ ht hl hsz
    simp only [List.length_nil] at hln
    generalize reqW ([], 0) ⟨kind, corr, topic, part, offset, most, least, wait, time, parts, sure, compact, recs⟩ = sq at *
    have hch3 : Chg Nil w w3 := hch1.trans hS3.chg (fun i hi => hi.elim (fun e => .inr (by have := HZ0.out; omega)) fun e => by simp [Value.ownBlock] at e)
    go_wp2_with fail
    refine (wframe_any w1.heap.size v3 sq w3 (by omega) (by omega) hW3).mono ?_
    rintro e w4 ⟨hc4, hpost⟩
    have hch4 : Chg Nil w w4 := hch3.trans hc4 (fun i hi => .inr (by have := HZ0.out; omega))
    rcases hpost with ⟨hbad, rfl⟩ | ⟨hgood, u, rfl, hown, hfr⟩
    · go_wp2_with fail
      go_ret2
      exact ⟨hch4, .inl ⟨by rw [HA.out]; exact hbad, by rw [HA.out]; rfl⟩⟩
    · have HO := Lib.hid hown
      clear hown
      go_wp2_with fail
      go_ret2
      exact ⟨hch4, .inr ⟨by rw [HA.out]; exact hgood, u, rfl, by rw [HB.out]; exact HO.out, fun k hk => by have := hfr k hk; have := hch3.size; omega⟩⟩
  · have HA : Hid (askErr ⟨kind, corr, topic, part, offset, most, least, wait, time, parts, sure, compact, recs⟩ = 1) := by unfold Hid askErr; simp only; rw [if_pos (by omega)]
    have hkd := kind_any kind w0
    rw [decide_eq_false hk] at hkd
    have HK := Lib.hid hkd
    clear hkd hk
    go_wp2_with fail
    refine HK.out.mono ?_
    rintro e w1 ⟨rfl, rfl⟩
    go_wp2_with fail
    go_ret2
    exact ⟨hal0, .inl ⟨by rw [HA.out]; simp, by rw [HA.out]; rfl⟩⟩
end Go.Proofs.YtmklicodfiggnaaDoor
