/-
  A log, and what it has, where the disk does not fail. (Of the logs' seat.)
-/
import Derived.Test.YtdjmifaidgbbaaaGreatDoorLb35
import Derived.Test.YtdjmifaidgbbaaaGreatDoorLb39
import Derived.Test.YtdjmifaidgbbaaaGreatDoorLb23
import Derived.Test.YtdjmifaidgbbaaaGreatDoorLb22
import Derived.Shelf.SlicesE.Delete
import Derived.Ground.SlgnProg
import Derived.Test.YtdjmifaidgbbaaaGreatDoorProg
import Derived.Test.YtdjmifaidgbbaaaGreatDoorLb33
import Derived.Test.YtdjmifaidgbbaaaGreatDoorLb34
import Derived.Deep.CutBlock
set_option linter.unusedSimpArgs false
set_option linter.unusedVariables false
namespace Go.Proofs.YtdjmifaidgbbaaaGreatDoor
open Go.RowKit Go.Maps

theorem LgS.growC {B : Nat → Prop} {w w' : World} {p l : Nat} {S : Nat → Prop} {sv : Value} {ss : List (Nat × Value)} {d : Dk} {g : Lg} (h : LgS B w p l S sv ss d g) (hc : Chg B w w') : LgS (fun k => B k ∨ (w.heap.size ≤ k ∧ k < w'.heap.size)) w' p l S sv ss d g := by
  have hz := hc.size
  refine ⟨fun k hk => hk.elim (fun hb => Nat.lt_of_lt_of_le (h.lo k hb) hz) (·.2), h.a.chg hc (fun k hk hb => (h.sl k hk).1 hb), h.c.chg hc (fun hb => (h.lb l (.inl rfl)).1 hb), ownsRow_chg h.o hc (fun k hk hb => (h.lb k (.inr hk)).1 hb), h.len, fun i hi => (h.m i hi).chg hc (fun k hk hb => h.tb k (THas.of hi hk) hb),
    fun k hk => ⟨?_, (h.sl k hk).2.1, (h.sl k hk).2.2.1, Nat.lt_of_lt_of_le (h.sl k hk).2.2.2 hz⟩, fun k hk => ⟨?_, (h.lb k hk).2⟩, fun k hk => ?_, h.apart⟩
  · rintro (hb | hb)
    · exact (h.sl k hk).1 hb
    · have := (h.sl k hk).2.2.2; omega
  · rintro (hb | hb)
    · exact (h.lb k hk).1 hb
    · have := h.lt.1 k hk; omega
  · rintro (hb | hb)
    · exact h.tb k hk hb
    · have := h.lt.2 k hk; omega
/-- A log in order beside its disk, of m operations at most. -/
def LgI (B : Nat → Prop) (w : World) (p l r m : Nat) (g : Lg) (xs : List SgB) : Prop :=
  ∃ S sv ss d, LgS B w p l S sv ss d g ∧ LgOk d g xs ∧ d.left = -1 ∧ g.down = false ∧ d.room = r ∧ d.used ≤ 6000 * m ∧ d.fs.length ≤ m + 1 ∧ xs.length ≤ m + 1
theorem LgI.nil {B : Nat → Prop} {w w' : World} {p l r m : Nat} {g : Lg} {xs : List SgB} (h : LgI B w p l r m g xs) (hc : Chg Nil w w') : LgI B w' p l r m g xs := by
  obtain ⟨S, sv, ss, d, h1, h2⟩ := h
  exact ⟨S, sv, ss, d, h1.nil hc, h2⟩
theorem LgI.growC {B : Nat → Prop} {w w' : World} {p l r m : Nat} {g : Lg} {xs : List SgB} (h : LgI B w p l r m g xs) (hc : Chg B w w') : LgI (fun k => B k ∨ (w.heap.size ≤ k ∧ k < w'.heap.size)) w' p l r m g xs := by
  obtain ⟨S, sv, ss, d, h1, h2⟩ := h
  exact ⟨S, sv, ss, d, h1.growC hc, h2⟩
theorem LgI.less {B B' : Nat → Prop} {w : World} {p l r m : Nat} {g : Lg} {xs : List SgB} (h : LgI B' w p l r m g xs) (hB : ∀ k, B k → B' k) : LgI B w p l r m g xs := by
  obtain ⟨S, sv, ss, d, h1, h2⟩ := h
  exact ⟨S, sv, ss, d, h1.less hB, h2⟩
theorem LgI.lo {B : Nat → Prop} {w : World} {p l r m : Nat} {g : Lg} {xs : List SgB} (h : LgI B w p l r m g xs) : ∀ k, B k → k < w.heap.size := by
  obtain ⟨S, sv, ss, d, h1, _⟩ := h
  exact h1.lo
theorem LgI.stopAt {B : Nat → Prop} {w : World} {p l r m : Nat} {g : Lg} {xs : List SgB} (h : LgI B w p l r m g xs) : 0 ≤ g.stop ∧ g.stop ≤ 1099511627776 := by
  obtain ⟨S, sv, ss, d, _, h2, _⟩ := h
  exact h2.stopAt
theorem LgS.need {B : Nat → Prop} {w : World} {p l : Nat} {S : Nat → Prop} {sv : Value} {ss : List (Nat × Value)} {d : Dk} {g : Lg} {xs : List SgB} (h : LgS B w p l S sv ss d g) (hk : LgOk d g xs) (hx : xs.length ≤ 9999) (hdir : g.dir.length ≤ 100) (hH : Handle w) (hB : B 0) : LgN B w ss g := by
  have hl : ss.length = xs.length := by rw [h.len, hk.len]
  obtain ⟨ys, x, hxs, hlast, _⟩ := hk.lastAt
  have hxm : x ∈ xs := by rw [hxs]; simp
  have hin := hk.each x hxm
  have hfw := hk.few x hxm
  refine ⟨by rw [hl]; exact hk.pos, by omega, by rw [hlast]; omega, ?_, ?_, hH, hB⟩
  · obtain ⟨sf, hf⟩ := hin.fl
    have h2 := used_le hf
    have h3 := hk.ok.fits
    have h4 := hk.ok.room
    have h2 : (batBs x.2).length ≤ d.used := h2
    rw [hlast, hin.of.size]
    omega
  · rw [hlast, hin.nm]
    exact segName_len ⟨g.dir.toArray⟩ _ (by show g.dir.toArray.size ≤ 100; simp; exact hdir) (by have := hin.hi; omega)
/-- The batch that Add made, or nothing. -/
theorem LgI.add {B : Nat → Prop} {w : World} {p l r m : Nat} {g : Lg} {xs : List SgB} (h : LgI B w p l r m g xs) (hH : Handle w) (hB : B 0) (hT : Tabs w) (hTB : TabB B) (hdir : g.dir.length ≤ 100) (hm : m ≤ 150) (hr : 6000 * (m + 1) ≤ r)
    (a : Option Addr) (rs : List Rec) (cap : Nat) (hl : rs.length ≤ 100) (hok : ∀ r ∈ rs, Rec.Ok r) (hc : RecsAt w a rs) :
    Calls Tryz.prog 12 #[.pointer (some ⟨l, 0, none⟩), .slice a rs.length cap] w fun e w' =>
      e = .returned (addV g.stop (encErr g.stop (g.stop + rs.length) (numbered g.stop rs))) ∧
      (encErr g.stop (g.stop + rs.length) (numbered g.stop rs) ≠ 0 → LgI B w' p l r (m + 1) g xs) ∧
      (encErr g.stop (g.stop + rs.length) (numbered g.stop rs) = 0 → ∃ g' xs', LgI B w' p l r (m + 1) g' xs' ∧ allBts xs' = allBts xs ++ [⟨g.stop, g.stop + rs.length, numbered g.stop rs⟩] ∧ g'.dir = g.dir ∧ g'.most = g.most ∧ g'.start = g.start ∧ g'.stop = g.stop + rs.length) ∧ Chg (Off B) w w' := by
  obtain ⟨S, sv, ss, d, h1, h2, h3, h4, h5, h6, h7, h8⟩ := h
  have hst := h2.stopAt
  have hn := h1.need h2 (by omega) hdir hH hB
  have hnum : ∀ r ∈ (g.batch rs).rs, Rec.Ok r := numbered_ok' (by omega) (by omega) hok
  have hA := ladd_any h1 hn hT hTB hdir (by rw [h1.len, h2.len]; omega) g.stop rfl hst a rs cap hl hok hc
  obtain ⟨k1, k2⟩ := add_ok h2 h3 h4 rs hnum (by omega) (by omega)
  refine hA.mono ?_
  rintro e w' ⟨he, ⟨S', sv', ss', h9, _⟩, hch⟩
  by_cases hk : encErr g.stop (g.stop + rs.length) (numbered g.stop rs) = 0
  · obtain ⟨d', g', xs', ha, hg⟩ := k2 hk
    rw [ha] at he h9
    refine ⟨by rw [he, hk], fun hne => absurd hk hne, fun _ => ⟨g', xs', ⟨S', sv', ss', d', h9, hg.ok, hg.on.left, hg.down, by rw [hg.on.room, h5], ?_, by have := hg.files; omega, by have := hg.segs; omega⟩, hg.all, hg.dir, hg.most, hg.start, hg.stop⟩, hch⟩
    have hb : (g.batch rs).Ok := ⟨hk, hnum⟩
    have := hb.nums.len
    have := hg.used
    omega
  · rw [k1 hk] at he h9
    exact ⟨he, fun _ => ⟨S', sv', ss', d, h9, h2, h3, h4, h5, by omega, by omega, by omega⟩, fun h => absurd h hk, hch⟩
theorem LgI.all {B : Nat → Prop} {w : World} {p l r m : Nat} {g : Lg} {xs : List SgB} (h : LgI B w p l r m g xs) (hdir : g.dir.length ≤ 100) (hm : m ≤ 9999) (most : Int) (hn : (g.told xs).length ≤ 4000) :
    Calls Tryz.prog 13 #[.pointer (some ⟨l, 0, none⟩), .int .i64 most] w fun e w' => ∃ v, e = .returned (.tuple #[v, .bool true]) ∧ OwnR 37 w' v (g.told xs) ∧ (∀ k, v.ownBlock = some k → w.heap.size ≤ k) ∧ Chg Nil w w' := by
  obtain ⟨S, sv, ss, d, h1, h2, h3, h4, h5, h6, h7, h8⟩ := h
  exact lall_any h1 h2 hdir (by rw [h1.len, h2.len]; omega) most hn
theorem LgI.endAt {B : Nat → Prop} {w : World} {p l r m : Nat} {g : Lg} {xs : List SgB} (h : LgI B w p l r m g xs) (hm : m ≤ 9999) :
    Calls Tryz.prog 15 #[.pointer (some ⟨l, 0, none⟩)] w fun e w' => e = .returned (.int .i64 g.stop) ∧ Chg Nil w w' := by
  obtain ⟨S, sv, ss, d, h1, h2, h3, h4, h5, h6, h7, h8⟩ := h
  obtain ⟨ys, x, hxs, hlast, _⟩ := h2.lastAt
  have hfw := h2.few x (by rw [hxs]; simp)
  exact lend_any h1.t (by rw [h1.len, h2.len]; exact h2.pos) (by rw [h1.len, h2.len]; omega) (by rw [hlast]; omega)
theorem lstart_any {w : World} {l : Nat} {c0 c1 c2 c3 c5 c6 : Value} {n : Int} (hb : Box w l [c0, c1, c2, c3, .int .i64 n, c5, c6] 99) :
    Calls Tryz.prog 16 #[.pointer (some ⟨l, 0, none⟩)] w fun e w' => e = .returned (.int .i64 n) ∧ Chg Nil w w' := by
  have c4 := hb.cell (j := 4) rfl
  clear hb
  go_enter Tryz.func16, Tryz.ntmps16
  go_wp2_with fail
  go_ret
  exact ⟨rfl, Chg.refl _ _⟩
theorem LgI.startAt {B : Nat → Prop} {w : World} {p l r m : Nat} {g : Lg} {xs : List SgB} (h : LgI B w p l r m g xs) :
    Calls Tryz.prog 16 #[.pointer (some ⟨l, 0, none⟩)] w fun e w' => e = .returned (.int .i64 g.start) ∧ Chg Nil w w' := by
  obtain ⟨S, sv, ss, d, h1, _⟩ := h
  exact lstart_any h1.c
theorem LgI.read {B : Nat → Prop} {w : World} {p l r m : Nat} {g : Lg} {xs : List SgB} (h : LgI B w p l r m g xs) (hdir : g.dir.length ≤ 100) (hm : m ≤ 9999) (frm most : Int) (h1 : g.start ≤ frm) (h2 : frm ≤ g.stop) :
    Calls Tryz.prog 34 #[.pointer (some ⟨l, 0, none⟩), .int .i64 frm, .int .i64 most] w fun e w' => ∃ v out, e = .returned (.tuple #[v, .nilIface]) ∧ OwnR 37 w' v out ∧ (∀ k, v.ownBlock = some k → w.heap.size ≤ k) ∧ (∃ rest, recsFrom frm (allBts xs) = out ++ rest ∧ (out = [] → rest = [])) ∧ Chg Nil w w' := by
  obtain ⟨S, sv, ss, d, k1, k2, h3, h4, h5, h6, h7, h8⟩ := h
  refine (lread_go _ k1 k2 hdir (by rw [k1.len, k2.len]; omega) frm most (Nat.le_refl _)).mono ?_
  rintro e w'' ⟨hv, hc⟩
  rcases hv with ⟨hbad, _⟩ | ⟨_, _, v, out, he, hown, hnew, hrd⟩
  · omega
  · exact ⟨v, out, he, hown, hnew, hrd.from k2.of k2.up, hc⟩
/-- A log of a new disk. -/
theorem LgI.open {w w1 : World} {p r : Nat} {S : Nat → Prop} (hr : r ≤ 1048576) (hds : DsS (fun k => k < w.heap.size) w1 p S (Dk.fresh r)) (hc1 : Chg Nil w w1) (hT : Tabs w) (c : UInt8) (hcd : cutDisk.contains c = true) (most : Int) (hmo : 100 ≤ most ∧ most ≤ 1048576) (n : Nat) (hn : n ≤ 1099511627776) :
    Calls Tryz.prog 10 #[.pointer (some ⟨p, 0, none⟩), .string ⟨#[c]⟩, .int .i64 most, .int .i64 (n : Nat)] w1 fun e w' => ∃ l, e = .returned (.tuple #[.pointer (some ⟨l, 0, none⟩), .nilIface]) ∧ LgI (fun k => k < w.heap.size) w' p l r 0 (newLg [c] most n n) [(⟨segName [c] n, n, [], 0⟩, [])] ∧ Chg Nil w w' := by
  have h1 := lopen_new hds hr (hT.chg hc1) hT.lt ⟨#[c]⟩ (by show (1 : Nat) ≤ 100; omega) most hmo n hn (fun k hk => (seg_ok k hk c hcd).1)
  refine h1.mono ?_
  rintro e w' ⟨l, S', sv, s, d', he, hN, _, hc⟩
  refine ⟨l, he, ⟨S', sv, _, d', hN.lg, hN.ok, hN.left, rfl, hN.room, by have := hN.used; omega, by have := hN.files; omega, by simp⟩, hc1.trans hc (fun k hk => .inr (Nat.le_of_not_lt hk))⟩
theorem Handle.lt {w : World} (h : Handle w) : 0 < w.heap.size := World.block_lt_of_cell? _ _ h
end Go.Proofs.YtdjmifaidgbbaaaGreatDoor

/-
  The fact of logs: two records. (Of the logs' seat.)
-/
set_option linter.unusedSimpArgs false
set_option linter.unusedVariables false
namespace Go.Proofs.YtdjmifaidgbbaaaGreatDoor
open Go.RowKit Go.Maps

theorem recsAt_box {w : World} {g : Nat} {rs : List Rec} {t : TypeId} (h : Box w g (rs.flatMap Rec.cells) t) : RecsAt w (some ⟨g, 0, none⟩) rs := by
  intro i hi
  refine ⟨g, 0, rfl, fun j u hj => ?_⟩
  have := h.cell (j := i * 6 + j) (fm_get (f := Rec.cells) (n := 6) (fun _ => rfl) rs i hi j _ hj)
  rwa [show 0 + i * 6 + j = i * 6 + j by omega]
def logRs : List Rec := [⟨0, 0, false, ⟨#[]⟩, false, ⟨#[97]⟩⟩, ⟨0, 0, false, ⟨#[]⟩, false, ⟨#[98]⟩⟩]
theorem log_err : encErr 0 (0 + (logRs.length : Nat)) (numbered 0 logRs) = 0 := by decide +kernel
theorem logRs_ok : ∀ r ∈ logRs, Rec.Ok r := fun r hr => by
  simp only [logRs, List.mem_cons, List.not_mem_nil, or_false] at hr
  rcases hr with rfl | rfl
  · exact ⟨by decide, by decide, Nat.zero_le _, show 1 ≤ maxLen by unfold maxLen; omega⟩
  · exact ⟨by decide, by decide, Nat.zero_le _, show 1 ≤ maxLen by unfold maxLen; omega⟩
theorem log_from : recsFrom 1 [⟨0, 0 + (logRs.length : Nat), numbered 0 logRs⟩] = [⟨1, 0, false, ⟨#[]⟩, false, ⟨#[98]⟩⟩] := by rfl
theorem newLg_stop (dir : List UInt8) (most : Int) (n : Nat) : (newLg dir most n n).stop = n := rfl

set_option maxHeartbeats 4000000 in
set_option maxRecDepth 100000 in
theorem logged_any {w : World} (hH : Handle w) (hT : Tabs w) : Calls Tryz.prog 9 #[] w fun e w' => e = .returned (.bool true) ∧ Chg Nil w w' := by
  have HNEW := Lib.hid (new_any 10000 (by omega) w)
  have HH := Lib.hid hH
  have HT := Lib.hid hT
  clear hH hT
  go_enter Tryz.func9, Tryz.ntmps9
  go_wp2_with fail
  refine HNEW.out.mono ?_
  rintro e w1 ⟨p, mb, rfl, hp, hmb, hdm, hc1⟩
  have HOP := Lib.hid (LgI.open (by omega) (DsS.start (by omega) hp hmb hdm hc1) hc1 HT.out 112 (by decide) 300 ⟨by omega, by omega⟩ 0 (by omega))
  clear hp hmb hdm hc1 HNEW
  go_wp2_with fail
  refine HOP.out.mono ?_
  rintro e w2 ⟨l, rfl, hlg, hc2⟩
  have HBX := Lib.hid (recsAt_box (rs := logRs) (Box.new w2 (logRs.flatMap Rec.cells) 37))
  have HAL := Lib.hid ((Chg.refl Nil w2).alloc (.cells (logRs.flatMap Rec.cells).toArray 37))
  have HAD : Hid (Calls Tryz.prog 12 #[.pointer (some ⟨l, 0, none⟩), .slice (some ⟨w2.heap.size, 0, none⟩) logRs.length 2] (w2.alloc (.cells (logRs.flatMap Rec.cells).toArray 37)) fun e w' => e = .returned (.tuple #[.int .i64 0, .nilIface]) ∧ (∃ g' xs', LgI (fun k => k < w.heap.size) w' p l 10000 1 g' xs' ∧ allBts xs' = [⟨0, 0 + (logRs.length : Nat), numbered 0 logRs⟩] ∧ g'.dir = [112] ∧ g'.start = 0 ∧ g'.stop = 2) ∧ Chg Nil w w') := by
    have hcw := hc2.trans HAL.out (fun _ h => h.elim)
    have h1 := (hlg.nil HAL.out).add (HH.out.chg hcw (fun h => h)) HH.out.lt (HT.out.chg hcw) HT.out.lt (by decide) (by omega) (by omega) (some ⟨w2.heap.size, 0, none⟩) logRs 2 (by decide) logRs_ok HBX.out
    rw [newLg_stop] at h1
    refine h1.mono ?_
    rintro e w' ⟨he, _, h0, hc⟩
    have hle : encErr ((0 : Nat) : Int) (((0 : Nat) : Int) + (logRs.length : Nat)) (numbered ((0 : Nat) : Int) logRs) = 0 := log_err
    rw [hle] at he
    obtain ⟨g', xs', hg, ha, hd, _, hs, hp⟩ := h0 hle
    exact ⟨he, ⟨g', xs', hg, by rw [ha]; rfl, hd, hs, hp⟩, hcw.trans hc (fun k hk => .inr (Nat.le_of_not_lt hk))⟩
  have hln : logRs.length = 2 := rfl
  clear hlg hc2
  go_wp2_with fail
  refine HAD.out.mono ?_
  rintro e w3 ⟨rfl, ⟨g', xs', hg, ha, hd, hs, hp⟩, hc3⟩
  have HG := Lib.hid hg
  have HC3 := Lib.hid hc3
  have HP := Lib.hid hp
  have HRD : Hid (Calls Tryz.prog 34 #[.pointer (some ⟨l, 0, none⟩), .int .i64 1, .int .i64 99] w3 fun e w' => ∃ g2 c, e = .returned (.tuple #[.slice (some ⟨g2, 0, none⟩) 1 c, .nilIface]) ∧ w'.cell? ⟨g2, 0, none⟩ = some (.int .i64 1) ∧ w'.cell? ⟨g2, 5, none⟩ = some (.string ⟨#[98]⟩) ∧ Chg Nil w3 w') := by
    refine (hg.read (by rw [hd]; decide) (by omega) 1 99 (by omega) (by omega)).mono ?_
    rintro e w' ⟨v, out, he, hown, hnew, ⟨rest, hr, hz⟩, hc⟩
    rw [ha, log_from] at hr
    have hout : out = [⟨1, 0, false, ⟨#[]⟩, false, ⟨#[98]⟩⟩] := by
      rcases out with _ | ⟨x, _ | ⟨y, o⟩⟩
      · rw [hz rfl] at hr; cases hr
      · simp only [List.cons_append, List.cons.injEq] at hr
        rw [← hr.1]
      · simp at hr
    subst hout
    obtain ⟨a, cap, hv, _, hcell⟩ := hown.valAt
    obtain ⟨g2, rfl, hz2⟩ := hcell 0 (by simp)
    have z0 := hz2 0 _ rfl
    have z5 := hz2 5 _ rfl
    exact ⟨g2, cap, by rw [he, hv]; rfl, z0, z5, hc⟩
  clear hg ha hd hs hp hc3 HAD HAL HBX hln
  go_wp2_with fail
  refine HRD.out.mono ?_
  rintro e w4 ⟨g2, c, rfl, z0, z5, hc4⟩
  have HEN := Lib.hid ((HG.out.nil hc4).endAt (by omega))
  have HC4 := Lib.hid (HC3.out.trans hc4 (fun _ h => h.elim))
  rw [HP.out] at HEN
  clear hc4 HRD
  go_wp2_with fail
  refine HEN.out.mono ?_
  rintro e w5 ⟨rfl, hc5⟩
  have z0 := hc5.cell z0 (fun h => h)
  have z5 := hc5.cell z5 (fun h => h)
  have HC5 := Lib.hid (HC4.out.trans hc5 (fun _ h => h.elim))
  clear hc5
  go_wp2_with fail
  go_ret
  exact ⟨rfl, HC5.out⟩
end Go.Proofs.YtdjmifaidgbbaaaGreatDoor

/-
  What the laws of logs take and keep: lists of records. (Of the logs' seat.)
-/
set_option linter.unusedSimpArgs false
set_option linter.unusedVariables false
namespace Go.Proofs.YtdjmifaidgbbaaaGreatDoor
open Go.RowKit Go.Maps

/-- A list of records among the arguments. -/
structure Rl where
  ra : Option Addr
  rs : List Rec
  rc : Nat
def RlsAt (w : World) (xa : Option Addr) (xs : List Rl) : Prop := ∀ i (h : i < xs.length), ∃ b off, xa = some ⟨b, off, none⟩ ∧ w.cell? ⟨b, off + i, none⟩ = some (.slice xs[i].ra xs[i].rs.length xs[i].rc)
structure Rl.Ok (w : World) (p : Rl) : Prop where
  recs : RecsAt w p.ra p.rs
  rok : ∀ r ∈ p.rs, Rec.Ok r
theorem OwnR.at {e : TypeId} {w : World} {a : Option Addr} {c : Nat} {rs : List Rec} (h : OwnR e w (.slice a rs.length c) rs) : RecsAt w a rs := by
  obtain ⟨a', c', he, hr, _⟩ := h.recs
  obtain ⟨rfl, _, _⟩ := Value.slice.inj he
  exact hr
theorem numbered_ge : ∀ {b : Int} {rs : List Rec}, ∀ r ∈ numbered b rs, b ≤ r.off
  | _, [], r, hr => by cases hr
  | b, x :: rs, r, hr => by
    rcases List.mem_cons.1 hr with rfl | hr
    · exact Int.le_refl _
    · have := numbered_ge r hr
      omega
end Go.Proofs.YtdjmifaidgbbaaaGreatDoor

/-
  DERIVED: THE SHELF's CONTRACTS AT THIS DUMP, IN PLAIN WORDS (tools/lay-plain.mjs out of 'TryzDelShelf.lean', which tools/lay-shelf.mjs wrote): THE SAME DECLARATIONS UNDER THE SAME NAMES: 'import', 'namespace', 'open', 'def', 'theorem' AND NOTHING ELSE: no command of the shelf's: FOR A HAND-IN. Each laying: the table of numbers ('.._ren') and one theorem, a field a fact of the dump's own or the kernel's comparison; each contract: ONE APPLICATION.
-/
namespace Go.Proofs
open Go.Shelf
def Tryz.delS_ren : Go.Shelf.Ren := ⟨fun | 45 => 103 | n => n, fun | 22 => 97 | 23 => 104 | 3 => 3 | 4 => 4 | 0 => 0 | n => n, fun | n => n⟩
theorem Tryz.delS : Go.Proofs.SlLaysE.n45 Tryz.prog Tryz.delS_ren := {
  mixed := by kernel_rfl
  f45 := ⟨Tryz.f103.name, by decide, Tryz.func103.trans (congrArg some (by kernel_rfl))⟩
  t0 := Tryz.underlying0
  a0 := Tryz.isAgg0
  z0 := Tryz.sizeOf0
  v0 := Tryz.zeroValue0
  t3 := Tryz.underlying3
  a3 := Tryz.isAgg3
  z3 := Tryz.sizeOf3
  v3 := Tryz.zeroValue3
  t4 := Tryz.underlying4
  a4 := Tryz.isAgg4
  z4 := Tryz.sizeOf4
  v4 := Tryz.zeroValue4
  t22 := Tryz.underlying97
  a22 := Tryz.isAgg97
  z22 := Tryz.sizeOf97
  v22 := Tryz.zeroValue97
  a23 := Tryz.isAgg104
  z23 := Tryz.sizeOf104 }
end Go.Proofs

/-
  A log's first segments are taken away. (Of the logs' seat.)
-/
set_option linter.unusedSimpArgs false
set_option linter.unusedVariables false
namespace Go.Proofs.YtdjmifaidgbbaaaGreatDoor
open Go.RowKit Go.Maps

def encT (o : Option Nat) : Value := .pointer (o.map fun s => ⟨s, 0, none⟩)
theorem delete_any {w : World} {v : Value} {x : Nat} {l : List Nat} (h : OwnT w v (x :: l)) (hl : l.length ≤ 1000000) :
    Calls Tryz.prog 103 #[v, .int .i64 0, .int .i64 1] w fun e w' => ∃ v', e = .returned v' ∧ OwnT w' v' l ∧ v'.ownBlock = v.ownBlock ∧ Chg (fun k => v.ownBlock = some k) w w' := by
  rcases h.2 with ⟨_, hn⟩ | ⟨g, cap, cur, rfl, _, hg, hnc, hcm, hcs, htake⟩
  · simp at hn
  have hgl : g < w.heap.size := (Array.getElem?_eq_some_iff.1 hg).1
  obtain ⟨d, hd⟩ : ∃ d : Array (Option Nat), d = ((x :: l).map some).toArray := ⟨_, rfl⟩
  have hds : d.size = l.length + 1 := by rw [hd]; simp
  have hmap : (x :: l).map (fun s => Value.pointer (some ⟨s, 0, none⟩)) = d.toList.map encT := by
    rw [hd]
    simp [encT]
  rw [Nat.mul_one] at htake hcs
  have hH : Go.Sort.Holds encT w g 0 d := by
    intro j hj
    refine ⟨?_, by simp [World.frozen?, hg]⟩
    have h1 : (cur.toList.take (x :: l).length)[j]? = (d.toList.map encT)[j]? := by rw [htake, hmap]
    rw [List.getElem?_take_of_lt (by simpa using (by omega : j < l.length + 1))] at h1
    simp only [World.cell?, hg, Nat.zero_add]
    simp only [Option.isSome_none, Bool.false_eq_true, if_false]
    rw [← Array.getElem?_toList, h1, List.getElem?_map, Array.getElem?_toList, Array.getElem?_eq_getElem hj, getElem!_pos d j hj]
    rfl
  obtain ⟨i0, hi0, hz0⟩ : ∃ i0, Tryz.prog.info? 104 = some i0 ∧ i0.size = 1 := by
    have h : (Tryz.prog.info? 104).map (fun i => (i.zero, i.size, i.bytes)) = some (some (.pointer none), 1, 8) := by kernel_rfl
    obtain ⟨i, hi, hz, h1, h2⟩ := info_parts h
    exact ⟨i, hi, h1⟩
  have hcl := AnyE.slices_Delete Tryz.delS encT (fun _ => rfl) none Tryz.zeroValue104 i0 hi0 hz0 g 0 cap 0 1 d w hH (by rw [hds]; simpa using hnc) (by unfold maxLen at hcm; omega) (by omega) (by omega)
  have e1 : (Value.slice (some ⟨g, 0, none⟩) d.size cap) = .slice (some ⟨g, 0, none⟩) (x :: l).length cap := by rw [hds]; rfl
  rw [e1] at hcl
  refine hcl.mono ?_
  rintro e w' ⟨he, q, hw'⟩
  have harr : (d.toList.take 0 ++ d.toList.drop 1 ++ List.replicate (1 - 0) (none : Option Nat)).toArray = (l.map some ++ [none]).toArray := by rw [hd]; simp
  rw [harr] at hw'
  have hlen : ((l.map some ++ [none] : List (Option Nat)).toArray).size = l.length + 1 := by simp
  have hg' : w'.heap[g]? = some (.cells (Go.Sort.putCells encT 0 (l.map some ++ [none]).toArray cur) 104 (0, 0)) := by
    rw [hw']
    simp [Go.Sort.putRow, Go.Sort.mapBlock, Go.Sort.ahead, Array.getElem?_modify, hg, Go.Sort.onCells]
  have hch : Chg (fun k => (Value.slice (some ⟨g, 0, none⟩) (x :: l).length cap).ownBlock = some k) w w' := by
    rw [hw']
    refine ⟨rfl, rfl, rfl, by simp [Go.Sort.putRow, Go.Sort.mapBlock, Go.Sort.ahead], fun k hk hn => ?_⟩
    have hne : g ≠ k := fun e => hn (by rw [← e]; rfl)
    simp [Go.Sort.putRow, Go.Sort.mapBlock, Go.Sort.ahead, Array.getElem?_modify, hne]
  refine ⟨.slice (some ⟨g, 0, none⟩) l.length cap, ?_, ⟨by rw [List.length_map, Nat.mul_one], .inr ⟨g, cap, _, rfl, Nat.zero_le _, hg', by have : (x :: l).length ≤ cap := hnc; rw [List.length_cons] at this; omega, hcm, by simp [Go.Sort.putCells, hcs], ?_⟩⟩, rfl, hch⟩
  · rw [he, hds]
    rfl
  · apply List.ext_getElem?
    intro j
    by_cases hj : j < l.length
    · rw [Nat.mul_one, List.getElem?_take_of_lt hj, Array.getElem?_toList]
      have hjc : j < cur.size := by have : (x :: l).length ≤ cap := hnc; rw [List.length_cons] at this; omega
      simp [Go.Sort.putCells, hjc, show j < l.length + 1 by omega, List.getElem?_append_left, hj, encT]
    · rw [Nat.mul_one, List.getElem?_take_eq_none (by omega), List.getElem?_eq_none (by simp; omega)]
end Go.Proofs.YtdjmifaidgbbaaaGreatDoor
