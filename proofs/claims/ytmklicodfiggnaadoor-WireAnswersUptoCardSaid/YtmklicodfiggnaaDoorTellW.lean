/-
  The walk of the program's Tell.
-/
import Derived.Test.YtmklicodfiggnaaDoorAnsW
import Derived.Test.YtmklicodfiggnaaDoorAskW
set_option linter.unusedSimpArgs false
namespace Go.Proofs.YtmklicodfiggnaaDoor
open Go.RowKit

theorem wnum_l3 (g : Nat) (v : Value) (s : WS) (n0 n1 n2 : Int) (w : World) (hs : s.1.length ≤ 10000000000000) (h : Wr 68 w g v s) :
    Calls Tryd.prog 32 #[.pointer (some ⟨g, 0, none⟩), .slice (some ⟨w.heap.size, 0, none⟩) 3 3] (w.alloc (.cells #[.int .i64 n0, .int .i64 n1, .int .i64 n2] 3)) fun e w' => e = .returned (.tuple #[]) ∧ ∃ v', Wr 68 w' g v' (numsW s [n0, n1, n2]) ∧ Step g w w' v v' := by
  refine (wnum_any g w.heap.size v s [n0, n1, n2] (w.alloc (.cells #[.int .i64 n0, .int .i64 n1, .int .i64 n2] 3)) (by simp) hs (h.alloc _) (Box.new w [.int .i64 n0, .int .i64 n1, .int .i64 n2] 3) (by have := h.lt; omega) (fun e => by have := h.own.lt _ e; omega)).mono ?_
  rintro e w' ⟨rfl, v', hW, hS⟩
  exact ⟨rfl, v', hW, hS.pre ((Chg.refl Nil w).alloc _)⟩

/-- What a Tell leaves. -/
def TellPost (w : World) (x : Ar) (bad : Nat → Value) (e : Ending) (w' : World) : Prop :=
  Chg Nil w w' ∧ ((tellErr x ≠ 0 ∧ e = .returned (.tuple #[.slice none 0 0, bad (tellErr x)])) ∨
    (tellErr x = 0 ∧ ∃ u, e = .returned (.tuple #[u, bad 0]) ∧ OwnB 5 w' u (tellB x) ∧ ∀ k, u.ownBlock = some k → w.heap.size ≤ k))

set_option maxHeartbeats 4000000 in
set_option maxRecDepth 100000 in
theorem wtell_any (kind corr err offset start fin : Int) (found : Bool) (recs : List Rec) (a : Option Addr) (cap : Nat) (tops : List Tp) (b : Option Addr) (bcap : Nat) (w : World) (hl : recs.length ≤ 20000) (hsz : ∀ r ∈ recs, r.key.size ≤ 1048576 ∧ r.value.size ≤ 1048576) (hlt : tops.length ≤ 20000) (hst : ∀ t ∈ tops, t.name.size ≤ 1048576) (hr : RecsAt w a recs) (ht : TopsAt w b tops) :
    Calls Tryd.prog 13 #[.agg #[.int .i64 kind, .int .i64 corr, .int .i64 err, .int .i64 offset, .int .i64 start, .int .i64 fin, .bool found, .slice a recs.length cap, .slice b tops.length bcap]] w (TellPost w ⟨kind, corr, err, offset, start, fin, found, recs, tops⟩ (errV 26)) := by
  have hx := Box.new w [.int .i64 kind, .int .i64 corr, .int .i64 err, .int .i64 offset, .int .i64 start, .int .i64 fin, .bool found, .slice a recs.length cap, .slice b tops.length bcap] 37
  have hal0 := (Chg.refl Nil w).alloc (.cells #[.int .i64 kind, .int .i64 corr, .int .i64 err, .int .i64 offset, .int .i64 start, .int .i64 fin, .bool found, .slice a recs.length cap, .slice b tops.length bcap] 37)
  have hr0 := hr.chg hal0 (fun _ _ h => h)
  have ht0 := ht.chg hal0 (fun _ _ h => h)
  have hrlt : 0 < recs.length → ∀ y, a = some y → y.block < w.heap.size := by
    intro h0 y hy
    obtain ⟨b, off, rfl, hc⟩ := hr 0 h0
    cases hy
    exact World.block_lt_of_cell? _ _ (hc 0 _ rfl)
  have htlt : 0 < tops.length → ∀ y, b = some y → y.block < w.heap.size := by
    intro h0 y hy
    obtain ⟨b, off, rfl, hc⟩ := ht 0 h0
    cases hy
    exact World.block_lt_of_cell? _ _ (hc 0 _ rfl)
  have HR0 := Lib.hid hr0
  have HT0 := Lib.hid ht0
  have HRL := Lib.hid hrlt
  have HTL := Lib.hid htlt
  clear hr hr0 hrlt ht ht0 htlt
  go_enter Tryd.func13, Tryd.ntmps13
  go_upto_region 1 with fail
  generalize hw0 : w.alloc (.cells #[.int .i64 kind, .int .i64 corr, .int .i64 err, .int .i64 offset, .int .i64 start, .int .i64 fin, .bool found, .slice a recs.length cap, .slice b tops.length bcap] 37) = w0 at *
  have HZ0 : Hid (w0.heap.size = w.heap.size + 1) := by unfold Hid; rw [← hw0]; simp
  have q0 := hx.cell (j := 0) rfl
  have q2 := hx.cell (j := 2) rfl
  clear hw0
  by_cases hk : 1 ≤ kind ∧ kind ≤ 7
  · have hkd := kind_any kind w0
    rw [decide_eq_true hk] at hkd
    have HK := Lib.hid hkd
    clear hkd
    by_cases he : 0 ≤ err ∧ err ≤ 15
    · obtain ⟨he1, he2⟩ := he
      have he1' : ¬ err < 0 := by omega
      have he2' : ¬ 15 < err := by omega
      have HA : Hid (tellErr ⟨kind, corr, err, offset, start, fin, found, recs, tops⟩ = frameErr (tellW ([], 0) ⟨kind, corr, err, offset, start, fin, found, recs, tops⟩)) := by unfold Hid tellErr; simp only; rw [if_neg (by omega)]
      have HB : Hid (tellB ⟨kind, corr, err, offset, start, fin, found, recs, tops⟩ = frameB (tellW ([], 0) ⟨kind, corr, err, offset, start, fin, found, recs, tops⟩)) := rfl
      go_wp2_with fail
      refine HK.out.mono ?_
      rintro e w1 ⟨rfl, rfl⟩
      have hg0 := Box.new w1 [.slice none 0 0, .int .i64 0] 68
      have halg := (Chg.refl Nil w1).alloc (.cells #[.slice none 0 0, .int .i64 0] 68)
      have hW0 : Wr 68 (w1.alloc (.cells #[.slice none 0 0, .int .i64 0] 68)) w1.heap.size (.slice none 0 0) ([], 0) := ⟨hg0, OwnB.nil _ _, by simp [Value.ownBlock]⟩
      have hx1 := hx.chg halg (fun h => h)
      have hr1 := HR0.out.chg halg (fun _ _ h => h)
      have ht1 := HT0.out.chg halg (fun _ _ h => h)
      have ha1 : 0 < recs.length → ∀ y, a = some y → y.block ≠ w1.heap.size ∧ (Value.slice none 0 0).ownBlock ≠ some y.block := fun h0 y hy => ⟨by have := HRL.out h0 y hy; have := HZ0.out; omega, by simp [Value.ownBlock]⟩
      have hb1 : 0 < tops.length → ∀ y, b = some y → y.block ≠ w1.heap.size ∧ (Value.slice none 0 0).ownBlock ≠ some y.block := fun h0 y hy => ⟨by have := HTL.out h0 y hy; have := HZ0.out; omega, by simp [Value.ownBlock]⟩
      have hp1 : Box (w1.alloc (.cells #[.slice none 0 0, .int .i64 0] 68)) w.heap.size _ _ ∧ (Value.slice none 0 0).ownBlock ≠ some w.heap.size := ⟨hx1, by simp [Value.ownBlock]⟩
      go_upto_region 4 with fail
      have hch1 := hal0.trans halg (fun _ h => .inl h)
      clear hx hx1 hg0 q0 q2 halg
      generalize w1.alloc (.cells #[.slice none 0 0, .int .i64 0] 68) = w2 at *
      have hpg : w.heap.size ≠ w1.heap.size := by have := HZ0.out; omega
      have q0 := hp1.1.cell (j := 0) rfl
      have q1 := hp1.1.cell (j := 1) rfl
      have q2 := hp1.1.cell (j := 2) rfl
      go_wp2_with fail
      refine (wnum_l3 w1.heap.size (.slice none 0 0) ([], 0) kind corr err w2 (by simp) hW0).mono ?_
      rintro e w3 ⟨rfl, v3, hW3, hS3⟩
      have hp3 := hS3.keeps hp1.1 hpg hp1.2
      obtain ⟨hr3, ha3⟩ := hS3.recs hr1 ha1
      obtain ⟨ht3, hb3⟩ := hS3.tops ht1 hb1
      have hln3 := numsW_len ([], 0) [kind, corr, err]
      simp only [List.length_cons, List.length_nil] at hln3
      have hbd := tellW_bad ([], 0) ⟨kind, corr, err, offset, start, fin, found, recs, tops⟩ (by simp)
      have hln := tellW_len ([], 0) ⟨kind, corr, err, offset, start, fin, found, recs, tops⟩ hl hsz hlt hst
      simp only [List.length_nil] at hln
      have HBD := Lib.hid hbd
      have HLN := Lib.hid hln
      have hch3 : Chg Nil w w3 := hch1.trans hS3.chg (fun i hi => hi.elim (fun e => .inr (by have := HZ0.out; omega)) fun e => by simp [Value.ownBlock] at e)
      have hv3 : ∀ k, v3.ownBlock = some k → w.heap.size ≤ k := fun k hk => (hS3.own k hk).elim (fun e => by simp [Value.ownBlock] at e) fun l => Nat.le_trans hch1.size l
      clear hW0 hr1 ht1 ha1 hb1 hp1 q0 q1 q2 hS3 hbd hln hch1
      have q0 := hp3.1.cell (j := 0) rfl
      have q1 := hp3.1.cell (j := 1) rfl
      have q2 := hp3.1.cell (j := 2) rfl
      have q3 := hp3.1.cell (j := 3) rfl
      have q4 := hp3.1.cell (j := 4) rfl
      have q5 := hp3.1.cell (j := 5) rfl
      have q6 := hp3.1.cell (j := 6) rfl
      have q7 := hp3.1.cell (j := 7) rfl
      have q8 := hp3.1.cell (j := 8) rfl
      by_cases h0 : err = 0
      · subst h0
        have HT : Hid (tellW ([], 0) ⟨kind, corr, 0, offset, start, fin, found, recs, tops⟩ = ansW (numsW ([], 0) [kind, corr, 0]) ⟨kind, corr, 0, offset, start, fin, found, recs, tops⟩) := rfl
        rw [HT.out] at HA HB HBD HLN
        generalize numsW (([] : List UInt8), 0) [kind, corr, 0] = s3 at *
        have HAN := Lib.hid (wans_any w1.heap.size v3 s3 kind corr 0 offset start fin found recs a cap tops b bcap w3 hk hl hsz hlt hst (by omega) hW3 hr3 ha3 ht3 hb3)
        go_wp2_with fail
        refine HAN.out.mono ?_
        rintro e w4 ⟨rfl, v4, hW4, hS4⟩
        have hch4 : Chg Nil w w4 := hch3.trans hS4.chg (fun i hi => hi.elim (fun e => .inr (by have := HZ0.out; omega)) fun e => .inr (hv3 i e))
        have HBDo := HBD.out
        have HLNo := HLN.out
        generalize ansW s3 ⟨kind, corr, 0, offset, start, fin, found, recs, tops⟩ = sq at *
        go_wp2_with fail
        refine (wframe_any w1.heap.size v4 sq w4 (by omega) (by omega) hW4).mono ?_
        rintro e w5 ⟨hc5, hpost⟩
        have hch5 : Chg Nil w w5 := hch4.trans hc5 (fun i hi => .inr (by have := HZ0.out; omega))
        rcases hpost with ⟨hbad, rfl⟩ | ⟨hgood, u, rfl, hown, hfr⟩
        · go_wp2_with fail
          go_ret2
          exact ⟨hch5, .inl ⟨by rw [HA.out]; exact hbad, by rw [HA.out]; rfl⟩⟩
        · have HO := Lib.hid hown
          clear hown
          go_wp2_with fail
          go_ret2
          exact ⟨hch5, .inr ⟨by rw [HA.out]; exact hgood, u, rfl, by rw [HB.out]; exact HO.out, fun k hk => by have := hfr k hk; have := hch4.size; omega⟩⟩
      · have HT : Hid (tellW ([], 0) ⟨kind, corr, err, offset, start, fin, found, recs, tops⟩ = numsW ([], 0) [kind, corr, err]) := by unfold Hid tellW; rw [if_neg h0]
        rw [HT.out] at HA HB HBD HLN
        generalize numsW (([] : List UInt8), 0) [kind, corr, err] = s3 at *
        have HBDo := HBD.out
        have HLNo := HLN.out
        go_wp2_with fail
        refine (wframe_any w1.heap.size v3 s3 w3 (by omega) (by omega) hW3).mono ?_
        rintro e w5 ⟨hc5, hpost⟩
        have hch5 : Chg Nil w w5 := hch3.trans hc5 (fun i hi => .inr (by have := HZ0.out; omega))
        rcases hpost with ⟨hbad, rfl⟩ | ⟨hgood, u, rfl, hown, hfr⟩
        · go_wp2_with fail
          go_ret2
          exact ⟨hch5, .inl ⟨by rw [HA.out]; exact hbad, by rw [HA.out]; rfl⟩⟩
        · have HO := Lib.hid hown
          clear hown
          go_wp2_with fail
          go_ret2
          exact ⟨hch5, .inr ⟨by rw [HA.out]; exact hgood, u, rfl, by rw [HB.out]; exact HO.out, fun k hk => by have := hfr k hk; have := hch3.size; omega⟩⟩
    · have HA : Hid (tellErr ⟨kind, corr, err, offset, start, fin, found, recs, tops⟩ = 1) := by unfold Hid tellErr; simp only; rw [if_pos (by omega)]
      by_cases hn : err < 0
      · clear he
        go_wp2_with fail
        refine HK.out.mono ?_
        rintro e w1 ⟨rfl, rfl⟩
        go_wp2_with fail
        go_ret2
        exact ⟨hal0, .inl ⟨by rw [HA.out]; simp, by rw [HA.out]; rfl⟩⟩
      · have hbig : 15 < err := by omega
        clear he
        go_wp2_with fail
        refine HK.out.mono ?_
        rintro e w1 ⟨rfl, rfl⟩
        go_wp2_with fail
        go_ret2
        exact ⟨hal0, .inl ⟨by rw [HA.out]; simp, by rw [HA.out]; rfl⟩⟩
  · have HA : Hid (tellErr ⟨kind, corr, err, offset, start, fin, found, recs, tops⟩ = 1) := by unfold Hid tellErr; simp only; rw [if_pos (by omega)]
    have hkd := kind_any kind w0
    rw [decide_eq_false hk] at hkd
    have HK := Lib.hid hkd
    clear hkd hk
    go_wp2_with fail
    refine HK.out.mono ?_
    rintro e w1 ⟨rfl, rfl⟩
    go_wp2_with fail
    go_ret2
    exact ⟨hal0, .inl ⟨by rw [HA.out]; simp, by rw [HA.out]; rfl⟩⟩
end Go.Proofs.YtmklicodfiggnaaDoor
