/-
  The law's rewrites. (Of the segments' seat.)
-/
import Derived.Test.YtmaomebnigcgeaaGreatDoorPl36
import Derived.Test.YtmaomebnigcgeaaGreatDoorPl40
import Derived.Test.YtmaomebnigcgeaaGreatDoorPl28
set_option linter.unusedSimpArgs false
set_option linter.unusedVariables false
namespace Go.Proofs.YtmaomebnigcgeaaGreatDoor
open Go.RowKit Go.Maps

def evenR (r : Rec) : Bool := decide (Int.tmod r.off 2 = 0)
/-- Slices of different kinds lie apart. -/
theorem ownsRow_ne {w : World} {e e' : TypeId} {sz sz' n n' : Nat} {v v' : Value} {xs xs' : List Value} (h : w.ownsRow 0 e sz v n xs) (h' : w.ownsRow 0 e' sz' v' n' xs') (hne : e ≠ e') {k : Nat} (hk : v.ownBlock = some k) : v'.ownBlock ≠ some k := by
  intro hk'
  rcases h.2 with ⟨rfl, _⟩ | ⟨g, cap, cur, rfl, _, hg, _⟩
  · cases hk
  · rcases h'.2 with ⟨rfl, _⟩ | ⟨g', cap', cur', rfl, _, hg', _⟩
    · cases hk'
    · obtain rfl : g = k := Option.some.inj hk
      obtain rfl : g' = g := Option.some.inj hk'
      rw [hg] at hg'
      exact hne (Obj.cells.inj (Option.some.inj hg')).2.1
/-- A batch whose records are the call's own. -/
def BmOwn (n0 : Nat) (w : World) (m : Bm) : Prop := OwnR 55 w (.slice m.ra m.b.rs.length m.rc) m.b.rs ∧ ∀ k, (Value.slice m.ra m.b.rs.length m.rc).ownBlock = some k → n0 ≤ k
/-- What two appends leave, one by one, and the slot that the first one's slice is put in. -/
def ApF (n6 : Nat) (lv av : Value) (nm : List Bm) (m : Bm) : List Value → World → Prop
  | [], w => OwnM w lv nm ∧ OwnQ w av nm
  | [v], w => OwnM w v (nm ++ [m]) ∧ (∀ k, v.ownBlock = some k → lv.ownBlock = some k ∨ n6 ≤ k) ∧ OwnQ w av nm
  | [v, u], w => OwnM w v (nm ++ [m]) ∧ (∀ k, v.ownBlock = some k → lv.ownBlock = some k ∨ n6 ≤ k) ∧ OwnQ w u (nm ++ [m]) ∧ (∀ k, u.ownBlock = some k → av.ownBlock = some k ∨ n6 ≤ k)
  | v :: u :: x :: _, w => x = v ∧ OwnM w v (nm ++ [m]) ∧ (∀ k, v.ownBlock = some k → lv.ownBlock = some k ∨ n6 ≤ k) ∧ OwnQ w u (nm ++ [m]) ∧ (∀ k, u.ownBlock = some k → av.ownBlock = some k ∨ n6 ≤ k)
theorem ApF.nil {n6 : Nat} {lv av : Value} {nm : List Bm} {m : Bm} {w w' : World} (hc : Chg Nil w w') : ∀ vs, ApF n6 lv av nm m vs w → ApF n6 lv av nm m vs w'
  | [], ⟨h1, h2⟩ => ⟨ownsRow_chg h1 hc (fun _ _ h => h), ownsRow_chg h2 hc (fun _ _ h => h)⟩
  | [v], ⟨h1, h2, h3⟩ => ⟨ownsRow_chg h1 hc (fun _ _ h => h), h2, ownsRow_chg h3 hc (fun _ _ h => h)⟩
  | [v, u], ⟨h1, h2, h3, h4⟩ => ⟨ownsRow_chg h1 hc (fun _ _ h => h), h2, ownsRow_chg h3 hc (fun _ _ h => h), h4⟩
  | v :: u :: x :: _, ⟨h0, h1, h2, h3, h4⟩ => ⟨h0, ownsRow_chg h1 hc (fun _ _ h => h), h2, ownsRow_chg h3 hc (fun _ _ h => h), h4⟩
theorem rec_block {w : World} {ra : Option Addr} {rs : List Rec} {rc : Nat} (h : OwnR 55 w (.slice ra rs.length rc) rs) (h0 : rs ≠ []) {x : Addr} (hx : ra = some x) : (Value.slice ra rs.length rc).ownBlock = some x.block := by
  rcases h.2 with ⟨h1, h2⟩ | ⟨g9, cap, cur, h1, _⟩
  · exact absurd (List.eq_nil_of_length_eq_zero h2) h0
  · simp only [Value.slice.injEq] at h1
    obtain ⟨h1, _, _⟩ := h1
    rw [hx] at h1
    obtain rfl := Option.some.inj h1
    rw [hx]
    rfl
theorem BmOwn.recs {n0 : Nat} {w : World} {m : Bm} (h : BmOwn n0 w m) : RecsAt w m.ra m.b.rs := by
  obtain ⟨a, c, hv, hr, _⟩ := h.1.recs
  simp only [Value.slice.injEq] at hv
  obtain ⟨h1, _, _⟩ := hv
  rw [h1]
  exact hr
theorem filter_snoc (p : Rec → Bool) (l : List Rec) {i : Nat} (hi : i < l.length) : (l.take (i + 1)).filter p = (l.take i).filter p ++ (if p l[i] = true then [l[i]] else []) := by
  rw [List.take_succ_eq_append_getElem hi, List.filter_append]
  congr 1
  cases h : p l[i] <;> simp [h]

theorem SgS.sub {B B' : Nat → Prop} {w : World} {p s : Nat} {S : Nat → Prop} {v : Value} {d : Dk} {g : Sg} (h : SgS B w p s S v d g) (hs : ∀ k, B' k → B k) : SgS B' w p s S v d g :=
  ⟨fun k hk => h.lo k (hs k hk), h.a, h.m, h.ap, fun k hk => ⟨fun hb => (h.sl k hk).1 (hs k hb), (h.sl k hk).2⟩, fun k hk hb => h.ml k hk (hs k hb)⟩
theorem SgS.kept {B : Nat → Prop} {w w' : World} {p s : Nat} {S : Nat → Prop} {v : Value} {d : Dk} {g : Sg} (h : SgS B w p s S v d g) (hc : Chg B w w') : SgS B w' p s S v d g := by
  have hz := hc.size
  exact ⟨fun k hk => Nat.lt_of_lt_of_le (h.lo k hk) hz, h.a.chg hc (fun k hk hs => (h.sl k hk).1 hs), h.m.chg hc (fun k hk hb => h.ml k hk hb), h.ap, fun k hk => ⟨(h.sl k hk).1, Nat.lt_of_lt_of_le (h.sl k hk).2 hz⟩, h.ml⟩
/-- Blocks that were made since are kept, too. -/
theorem SgS.grow {B : Nat → Prop} {w w' : World} {p s : Nat} {S : Nat → Prop} {v : Value} {d : Dk} {g : Sg} (h : SgS B w p s S v d g) (hc : Chg Nil w w') : SgS (fun k => B k ∨ (w.heap.size ≤ k ∧ k < w'.heap.size)) w' p s S v d g := by
  have h2 := h.nil hc
  refine ⟨fun k hk => hk.elim (h2.lo k) (·.2), h2.a, h2.m, h2.ap, fun k hk => ⟨?_, (h2.sl k hk).2⟩, fun k hk => ?_⟩
  · rintro (hb | hb)
    · exact (h2.sl k hk).1 hb
    · have := (h.sl k hk).2; omega
  · rintro (hb | hb)
    · exact h2.ml k hk hb
    · have := h.m.lt k hk; omega
theorem w64_add {a b : Nat} (ha : a ≤ 1000000000) (hb : b ≤ 1000000000) : wrap64 ((a : Int) + (b : Int)) = (a : Int) + (b : Int) := by unfold wrap64; omega
theorem nlt_add {a b r : Nat} (h : a + b ≤ r) : ¬ ((r : Int) < (a : Int) + (b : Int)) := by omega
theorem lt_add {a b r : Nat} (h : ¬ a + b ≤ r) : (r : Int) < (a : Int) + (b : Int) := by omega
/-- What is kept at the law's segments: all of before, and the document's segment. -/
def KpB (n0 q : Nat) (vq : Value) (ms : List Bm) : Nat → Prop := fun k => k < n0 ∨ QHas q vq ms k
/-- Both segments side by side: the disk has the one file, both have these batches. -/
structure SdS (n0 : Nat) (w : World) (p s q room : Nat) (nm : Nm) (base : Int) (S : Nat → Prop) (v vq : Value) (d : Dk) (g : Sg) (ms : List Bm) : Prop where
  sg : SgS (KpB n0 q vq ms) w p s S v d g
  sq : Sq w q vq base ms
  one : One d room nm (batBs (ms.map Bm.b))
  of : SgOf g (ms.map Bm.b)
  name : g.name = nm
  base : g.base = base
  fits : (batBs (ms.map Bm.b)).length ≤ room
  new : ∀ k, (k = q ∨ vq.ownBlock = some k) → n0 ≤ k
  apart : ∀ m ∈ ms, m.b.rs ≠ [] → ∀ x, m.ra = some x → x.block ≠ q ∧ vq.ownBlock ≠ some x.block
/-- What a step at both leaves. -/
def SdPost (n0 : Nat) (w : World) (p s q room : Nat) (nm : Nm) (base : Int) (ms : List Bm) (w' : World) : Prop :=
  ∃ S v vq d g, SdS n0 w' p s q room nm base S v vq d g ms ∧ Chg (fun k => n0 ≤ k) w w'

set_option maxHeartbeats 0 in
set_option maxRecDepth 20000 in
theorem rewrites_any {n0 : Nat} {w : World} {p s q room : Nat} {fn : Nm} {base : Int} {S : Nat → Prop} {v vq : Value} {d : Dk} {g : Sg} {ms : List Bm} (h : SdS n0 w p s q room fn base S v vq d g ms) (hn0 : n0 ≤ w.heap.size) (hnl : fn.length ≤ 900) (hroom : room ≤ 1048576) (hk1 : dkName fn = true) (hk2 : dkName (fn ++ dotnew) = true)
    (hgl : Handle w) (hg0 : 0 < n0) :
    Calls Tryz.prog 16 #[.pointer (some ⟨s, 0, none⟩), .pointer (some ⟨q, 0, none⟩), .int .i64 (room : Nat)] w fun e w' => e = .returned (.bool true) ∧ ∃ ms', SdPost n0 w p s q room fn base ms' w' := by
  have hq := h.sq
  have hok : ∀ m ∈ ms, m.b.Ok := fun m hm => h.of.ok m.b (List.mem_map.2 ⟨m, hm, rfl⟩)
  have hml : ms.length ≤ 99999 := by
    have h1 := batBs_len h.of.ok
    have h2 := h.fits
    rw [List.length_map] at h1
    omega
  have hb : (batBs (ms.map Bm.b)).length ≤ 1000000000 := by have := h.fits; omega
  have HSD := Lib.hid h
  have HN0 := Lib.hid hn0
  have HNL := Lib.hid hnl
  have HRM := Lib.hid hroom
  have HK1 := Lib.hid hk1
  have HK2 := Lib.hid hk2
  have HGL := Lib.hid hgl
  have HG0 := Lib.hid hg0
  clear h hn0 hnl hroom hk1 hk2 hgl hg0
  have q1 := hq.c.cell (j := 1) rfl
  obtain ⟨qa, qc, hvq, _, hqc⟩ := hq.o.val
  have HQC := Lib.hid hqc
  have HQR := Lib.hid hq.r
  have HOK := Lib.hid hok
  have HB := Lib.hid hb
  subst hvq
  clear hq hok hqc hb
  go_enter Tryz.func16, Tryz.ntmps16
  go_wp2_with fail
  go_loopw [7, 8, 9, 10] (fun lv av nv iv wr => ∃ (wq : World) (i : Nat) (nm : List Bm), wq = wr ∧ i ≤ ms.length ∧ iv = .int .i64 i ∧ nv = .int .i64 ((batBs (nm.map Bm.b)).length : Nat) ∧ OwnM wr lv nm ∧ OwnQ wr av nm ∧ Hid (nm.map Bm.b = (ms.take i).map (fun m => m.b.keep evenR) ∧ (∀ m ∈ nm, BmOwn w.heap.size wr m) ∧ (∀ k, lv.ownBlock = some k → w.heap.size ≤ k) ∧ (∀ k, av.ownBlock = some k → w.heap.size ≤ k) ∧ (batBs (nm.map Bm.b)).length ≤ 6000 * i ∧ nm.length ≤ i) ∧ Chg Nil w wr) (fun _ _ _ iv _ => ms.length - (RowKit.intOf iv).toNat)
  case atStart => exact ⟨_, 0, [], rfl, by omega, rfl, rfl, OwnM.nil _, OwnQ.nil _, ⟨rfl, fun m hm => (by cases hm), fun k hk => (by simp [Value.ownBlock] at hk), fun k hk => (by simp [Value.ownBlock] at hk), by simp [batBs], by simp⟩, Chg.refl _ _⟩
  case round =>
    obtain ⟨wr, i, nm, rfl, hi, rfl, rfl, hol, hoq, hst, hc⟩ := hrel
    have HC := Lib.hid hc
    have HT : Hid _ := hst
    have hlv := hol.form
    generalize vA _ = la at hlv
    generalize vC _ = lc at hlv
    subst hlv
    have hav := hoq.form
    generalize vA _ = aa at hav
    generalize vC _ = ac at hav
    subst hav
    have HOL := Lib.hid hol
    have HOQ := Lib.hid hoq
    have HQ1 := Lib.hid q1
    have q1 := hc.cell q1 (fun h => h)
    clear hol hoq hst hc
    by_cases hil : i < ms.length
    · have hii : (i : Int) < (ms.length : Int) := by omega
      obtain ⟨qb, rfl, hz⟩ := HQC.out i hil
      obtain ⟨m, hm⟩ : ∃ m, ms[i] = m := ⟨_, rfl⟩
      have hmem : m ∈ ms := by rw [← hm]; exact List.getElem_mem hil
      have HBO := Lib.hid (HOK.out m hmem)
      have HBR := Lib.hid (HQR.out m hmem)
      rw [hm] at hz
      have HIL := Lib.hid hil
      have HTK : Hid ((ms.take (i + 1)).map (fun m => m.b.keep evenR) = (ms.take i).map (fun m => m.b.keep evenR) ++ [m.b.keep evenR]) := by
        unfold Hid
        rw [List.take_succ_eq_append_getElem hil, List.map_append, hm]
        rfl
      clear hm hmem hil
      obtain ⟨⟨bb, be, brs⟩, ra, rc⟩ := m
      have hfw : brs.length ≤ 50 := HBO.out.nums.few
      have HZ := Lib.hid hz
      have z0 := HC.out.cell (hz 0 _ rfl) (fun h => h)
      have z1 := HC.out.cell (hz 1 _ rfl) (fun h => h)
      have z2 := HC.out.cell (hz 2 _ rfl) (fun h => h)
      rw [Nat.add_zero] at z0
      clear hz
      have HAL := Lib.hid ((Chg.refl Nil wr).alloc (.cells #[.int .i64 bb, .int .i64 be, .slice ra brs.length rc] 41))
      have hbx := Box.new wr [.int .i64 bb, .int .i64 be, .slice ra brs.length rc] 41
      go_upto_region 8 with fail
      clear z0 z1
      have hbx : Box (wr.alloc (.cells #[.int .i64 bb, .int .i64 be, .slice ra brs.length rc] 41)) wr.heap.size [.int .i64 bb, .int .i64 be, .slice ra brs.length rc] 41 := hbx
      generalize wr.alloc (.cells #[.int .i64 bb, .int .i64 be, .slice ra brs.length rc] 41) = w2 at *
      obtain ⟨x, hx⟩ : ∃ x, wr.heap.size = x := ⟨_, rfl⟩
      rw [hx] at hbx
      rw [hx]
      have HX := Lib.hid hx
      clear hx
      have b2 := hbx.cell (j := 2) rfl
      have f2 := hbx.free 2
      have HBX0 := Lib.hid hbx
      clear hbx
      go_wp2_with fail
      go_loopw [12] (fun kv w4 => ∃ (wq : World) (k : Nat) (rv : Value), wq = w4 ∧ k ≤ brs.length ∧ kv = .int .i64 k ∧ Box w4 x [.int .i64 bb, .int .i64 be, rv] 41 ∧ OwnR 55 w4 rv ((brs.take k).filter evenR) ∧ (∀ j, rv.ownBlock = some j → x < j) ∧ Chg Nil wr w4) (fun kv _ => brs.length - (RowKit.intOf kv).toNat)
      case atStart =>
        refine ⟨_, 0, .slice none 0 0, rfl, by omega, rfl, HBX0.out.set 2 _, OwnR.nil _ _, fun j hj => (by simp [Value.ownBlock] at hj), ?_⟩
        exact HAL.out.setCell (p := ⟨x, 2, none⟩) (.inr (by show wr.heap.size ≤ x; rw [HX.out]; exact Nat.le_refl _)) _
      case round =>
        obtain ⟨w4, k, rv, rfl, hk, rfl, hbx, hor, hrn, hc4⟩ := hrel
        have HBX := Lib.hid hbx
        have HOR := Lib.hid hor
        have HRN := Lib.hid hrn
        have HC4 := Lib.hid hc4
        have q1 := hc4.cell q1 (fun h => h)
        have z2 := hc4.cell z2 (fun h => h)
        clear hbx hor hrn hc4
        by_cases hkl : k < brs.length
        · have hkk : (k : Int) < (brs.length : Int) := by omega
          obtain ⟨rb, off, hra, hcell⟩ := HBR.out k hkl
          subst hra
          obtain ⟨r, hr⟩ : ∃ r, r = brs[k] := ⟨_, rfl⟩
          have HFS := Lib.hid (filter_snoc evenR brs hkl)
          rw [← hr] at hcell HFS
          have HKL := Lib.hid hkl
          clear hr
          obtain ⟨qo, qt2, qk, qkey, qg, qv⟩ := r
          have r0 := HC4.out.cell (HC.out.cell (hcell 0 _ rfl) (fun h => h)) (fun h => h)
          have r1 := HC4.out.cell (HC.out.cell (hcell 1 _ rfl) (fun h => h)) (fun h => h)
          have r2 := HC4.out.cell (HC.out.cell (hcell 2 _ rfl) (fun h => h)) (fun h => h)
          have r3 := HC4.out.cell (HC.out.cell (hcell 3 _ rfl) (fun h => h)) (fun h => h)
          have r4 := HC4.out.cell (HC.out.cell (hcell 4 _ rfl) (fun h => h)) (fun h => h)
          have r5 := HC4.out.cell (HC.out.cell (hcell 5 _ rfl) (fun h => h)) (fun h => h)
          rw [Nat.add_zero] at r0
          clear hcell
          have hbr := Box.new w4 [.int .i64 qo, .int .i64 qt2, .bool qk, .string qkey, .bool qg, .string qv] 55
          have HAR := Lib.hid ((Chg.refl Nil w4).alloc (.cells #[.int .i64 qo, .int .i64 qt2, .bool qk, .string qkey, .bool qg, .string qv] 55))
          go_upto_region 13 with fail
          clear r0 r1 r2 r3 r4 r5 q1 z2
          have hbr : Box (w4.alloc (.cells #[.int .i64 qo, .int .i64 qt2, .bool qk, .string qkey, .bool qg, .string qv] 55)) w4.heap.size [.int .i64 qo, .int .i64 qt2, .bool qk, .string qkey, .bool qg, .string qv] 55 := hbr
          generalize w4.alloc (.cells #[.int .i64 qo, .int .i64 qt2, .bool qk, .string qkey, .bool qg, .string qv] 55) = w5 at *
          generalize w4.heap.size = g5 at *
          have HBR5 := Lib.hid hbr
          have y0 := hbr.cell (j := 0) rfl
          have HC5 := Lib.hid (HC4.out.trans HAR.out (fun _ h => h.elim))
          have HX5 := Lib.hid (HBX.out.chg HAR.out (fun h => h))
          have HOR5 : Hid (OwnR 55 w5 rv ((brs.take k).filter evenR)) := ownsRow_chg HOR.out HAR.out (fun _ _ h => h)
          clear hbr
          by_cases hp : Int.tmod qo 2 = 0
          · have hp1 : (Int.tmod qo 2 == 0) = true := beq_iff_eq.2 hp
            have HFT : Hid ((brs.take (k + 1)).filter evenR = (brs.take k).filter evenR ++ [⟨qo, qt2, qk, qkey, qg, qv⟩]) := by
              unfold Hid
              rw [HFS.out, if_pos (by unfold evenR; exact decide_eq_true hp)]
            clear hp
            have y1 := HBR5.out.cell (j := 1) rfl
            have y2 := HBR5.out.cell (j := 2) rfl
            have y3 := HBR5.out.cell (j := 3) rfl
            have y4 := HBR5.out.cell (j := 4) rfl
            have y5 := HBR5.out.cell (j := 5) rfl
            have x2 := HX5.out.cell (j := 2) rfl
            have hll : ((brs.take k).filter evenR).length ≤ 50 := Nat.le_trans (List.length_filter_le _ _) (by rw [List.length_take]; omega)
            have h63 : ((brs.take k).filter evenR).length + 1 ≤ maxLen := by unfold maxLen; omega
            have hby : (((brs.take k).filter evenR).length + 1) * 64 ≤ 140737488355328 := by omega
            have HH63 := Lib.hid h63
            have HBY := Lib.hid hby
            have hb1 := Box.new w5 (Rec.cells ⟨qo, qt2, qk, qkey, qg, qv⟩) 55
            have HB1 := Lib.hid hb1
            clear hb1 h63 hby hll
            go_wp2_with (at_builtin; go_must (refine wpList_append_grew rfl (.tmp 66) (.tmp 68) 39 39 rfl recsT _ Tryz.underlying39 (by intro _; simp) _ _ _ rfl (ownsRow_chg HOR5.out ((Chg.refl Nil w5).alloc _) (fun _ _ h => h)) _ 1 (Rec.cells ⟨qo, qt2, qk, qkey, qg, qv⟩) rfl (Source.box HB1.out rfl (Rec.cells_one _)) HH63.out HBY.out ?_); intro v2 w7 hown2 hg2 _; obtain ⟨x9, n9, c9, rfl⟩ := ownsRow_form hown2; have hxw : Box w7 x _ _ := (HX5.out.chg ((Chg.refl Nil w5).alloc _) (fun h => h)).chg hg2.chg (fun h => by have := HRN.out _ h; omega); have hx2' := hxw.cell (j := 2) rfl; have hxf := hxw.free 2; have HXW := Lib.hid hxw; clear hxw x2)
            go_roundw
            case rel =>
              have hal1 := (Chg.refl Nil w5).alloc (.cells (Rec.cells ⟨qo, qt2, qk, qkey, qg, qv⟩).toArray 55)
              have hz1 := hal1.size
              have hz2 := HC5.out.size
              have hz3 := (Array.getElem?_eq_some_iff.1 HX5.out).1
              have hn9 : ∀ j, (Value.slice x9 n9 c9).ownBlock = some j → x < j := by
                intro j hj
                rcases hg2.own j hj with h1 | h1
                · exact HRN.out j h1
                · rw [World.size_alloc] at h1; omega
              have hset : Chg (fun j => j = x) w7 (w7.setCell ⟨x, 2, none⟩ (.slice x9 n9 c9)) := (Chg.refl (fun j => j = x) _).setCell (.inl rfl) _
              refine ⟨_, k + 1, .slice x9 n9 c9, rfl, HKL.out, by go_num, HXW.out.set 2 _, ?_, hn9, ?_⟩
              · have h := ownsRow_chg hown2 hset (fun j hj e => by have := hn9 j hj; omega)
                rw [HFT.out]
                unfold OwnR
                rw [List.length_append, List.flatMap_append, List.flatMap_cons, List.flatMap_nil, List.append_nil]
                exact h
              · refine ((HC5.out.trans hal1 (fun _ h => h.elim)).trans hg2.chg (fun j hj => .inr ?_)).trans hset (fun j hj => .inr ?_)
                · have := HRN.out j hj; have := HX.out; omega
                · have := HX.out; omega
            case measure => exact meas_two HKL.out
          · have hp1 : (Int.tmod qo 2 == 0) = false := beq_eq_false_iff_ne.2 hp
            have HFT : Hid ((brs.take (k + 1)).filter evenR = (brs.take k).filter evenR) := by
              unfold Hid
              rw [HFS.out, if_neg (by unfold evenR; simpa using hp), List.append_nil]
            clear hp
            go_wp2_with fail
            go_roundw
            case rel => exact ⟨_, k + 1, rv, rfl, HKL.out, by go_num, HX5.out, by rw [HFT.out]; exact HOR5.out, HRN.out, HC5.out⟩
            case measure => exact meas_two HKL.out
        · have hkk : ¬ (k : Int) < (brs.length : Int) := by omega
          have HKB : Hid (Bt.Ok ⟨bb, be, brs.filter evenR⟩) := HBO.out.keep evenR
          rw [show k = brs.length by omega, List.take_length] at HOR
          obtain ⟨fr, hfr⟩ : ∃ fr, brs.filter evenR = fr := ⟨_, rfl⟩
          have HFR := Lib.hid hfr
          rw [hfr] at HOR HKB
          clear hfr
          have hrv := HOR.out.form
          generalize vA rv = ra9 at hrv
          generalize vC rv = rc9 at hrv
          subst hrv
          have x0 := HBX.out.cell (j := 0) rfl
          have x1 := HBX.out.cell (j := 1) rfl
          have x2 := HBX.out.cell (j := 2) rfl
          have HEN : Hid (Calls Tryz.prog 9 #[.agg #[.int .i64 bb, .int .i64 be, .slice ra9 fr.length rc9]] w4 (RefEncPost w4 bb be fr)) := by
            have h1 := HKB.out.nums
            have h2 := h1.lo
            have h3 := h1.lt
            have h4 := h1.hi
            have h5 := h1.few
            have h2 : 0 ≤ bb := h2
            have h3 : bb < be := h3
            have h4 : be ≤ 1099511627776 := h4
            have h5 : fr.length ≤ 50 := h5
            obtain ⟨a7, c7, h7, hrs, _⟩ := HOR.out.recs
            simp only [Value.slice.injEq] at h7
            obtain ⟨rfl, _, rfl⟩ := h7
            exact refEncode_any bb be ra9 fr rc9 w4 (by omega) (by omega) (by unfold maxLen; omega) HKB.out.recs hrs
          go_wp2_with fail
          refine HEN.out.mono ?_
          rintro e w6 ⟨hc6, hpost⟩
          rcases hpost with ⟨hne, _⟩ | ⟨_, v9, rfl, hown9, hnew9⟩
          · exact absurd HKB.out.err hne
          have hbl : (encAll bb be fr).length = (Bt.mk bb be fr).bytes.length := rfl
          obtain ⟨bl, hbl2⟩ : ∃ bl, (Bt.mk bb be fr).bytes.length = bl := ⟨_, rfl⟩
          have HBL := Lib.hid hbl2
          obtain ⟨a9, c9, hv9, _, _, _⟩ := hown9.val
          rw [hbl, hbl2] at hv9
          subst hv9
          have hb6 : bl ≤ 6000 := by rw [← hbl2]; exact HKB.out.nums.len
          have HB6 := Lib.hid hb6
          have hsz6 : wrap64 (((batBs (nm.map Bm.b)).length : Nat) + (bl : Nat) : Int) = ((batBs (nm.map Bm.b)).length : Nat) + (bl : Nat) := by
            have h1 := HT.out.2.2.2.2.1
            have h2 := HIL.out
            unfold wrap64; omega
          have HX6 := Lib.hid (HBX.out.chg hc6 (fun h => h))
          have HOR6 : Hid (OwnR 55 w6 (.slice ra9 fr.length rc9) fr) := ownsRow_chg HOR.out hc6 (fun _ _ h => h)
          have HC6 := Lib.hid (HC4.out.trans hc6 (fun _ h => h.elim))
          have HOL6 : Hid (OwnM w6 (.slice la nm.length lc) nm) := ownsRow_chg HOL.out HC6.out (fun _ _ h => h)
          have HOQ6 : Hid (OwnQ w6 (.slice aa nm.length ac) nm) := ownsRow_chg HOQ.out HC6.out (fun _ _ h => h)
          have x0 := HX6.out.cell (j := 0) rfl
          have x1 := HX6.out.cell (j := 1) rfl
          have x2 := HX6.out.cell (j := 2) rfl
          clear hown9 hnew9 hbl hbl2 hc6 HEN
          go_wp2_with fail
          go_upto_region 17 with fail
          have HSL : Hid (∀ k, ((Value.slice la nm.length lc).ownBlock = some k ∨ (Value.slice aa nm.length ac).ownBlock = some k) → k < x) := by
            rintro k (hk | hk)
            · have := HOL.out.lt k hk; have := HX.out; omega
            · have := HOQ.out.lt k hk; have := HX.out; omega
          have HXS : Hid (x < w6.heap.size) := (Array.getElem?_eq_some_iff.1 HX6.out).1
          have HNX : Hid (¬ ((Value.slice la nm.length lc).ownBlock = some x ∨ (Value.slice aa nm.length ac).ownBlock = some x)) := fun h => by have := HSL.out x h; omega
          have HLEN : Hid (nm.length ≤ 99998) := by have h1 := HT.out.2.2.2.2.2; have h2 := HIL.out; unfold Hid; omega
          refine Ch.wp_region_last _ _ rfl (Chg (fun k => (Value.slice la nm.length lc).ownBlock = some k ∨ (Value.slice aa nm.length ac).ownBlock = some k)) [3, 10, 11] (ApF w6.heap.size (.slice la nm.length lc) (.slice aa nm.length ac) nm ⟨⟨bb, be, fr⟩, ra9, rc9⟩) (by kernel_rfl) (fun _ => Chg.refl _ _) (fun _ _ _ h k => h.trans k (fun _ h => .inl h)) [[], [], [1], [0, 2], [], [], [], [6], [5, 7], [8], [4, 9], [3]] rfl (by kernel_rfl) (by kernel_rfl) (by kernel_rfl) (Chg.refl _ _).drew ?_ ?_
          · exact ⟨ownsRow_chg HOL6.out (Chg.refl Nil _).drew (fun _ _ h => h), ownsRow_chg HOQ6.out (Chg.refl Nil _).drew (fun _ _ h => h)⟩
          simp only [List.dropLast_cons_cons, List.dropLast_singleton]
          ((with_reducible apply Ch.Walk.eq); (case hd => rfl); (case hi => rfl); case h => (intro w2 hw2 N hN; simp only [Ch.depsOf, List.filterMap_nil, List.filterMap_cons, List.getElem?_toArray, List.getElem?_cons_zero, List.getElem?_cons_succ, Option.bind_some, List.nil_append, List.cons_append, Ch.Ob]; go_simp; (try go_bits); with_reducible exact hN _ (Chg.refl _ _) (fun _ h => h)))
          ((with_reducible apply Ch.Walk.eq); (case hd => rfl); (case hi => rfl); case h => (intro w2 hw2 N hN; (have hx0 := hw2.cell x0 HNX.out; have hx1 := hw2.cell x1 HNX.out; have hx2 := hw2.cell x2 HNX.out); simp only [Ch.depsOf, List.filterMap_nil, List.filterMap_cons, List.getElem?_toArray, List.getElem?_cons_zero, List.getElem?_cons_succ, Option.bind_some, List.nil_append, List.cons_append, Ch.Ob]; go_simp; (try go_bits); with_reducible exact hN _ (Chg.refl _ _) (fun _ h => h)))
          refine Ch.Walk.sat (fun v w => ∃ q8, v = .slice (some ⟨q8, 0, none⟩) 1 1 ∧ w6.heap.size ≤ q8 ∧ Box w q8 [.int .i64 bb, .int .i64 be, .slice ra9 fr.length rc9] 41) ?_ rfl rfl ?_ ?_
          · rintro v w8 w9 ⟨q8, rfl, hq8, hb8⟩ hc
            exact ⟨q8, rfl, hq8, hb8.chg hc (fun h => by have := HSL.out q8 h; have := HXS.out; omega)⟩
          · intro w8 hw8 N hN
            simp only [Ch.depsOf, List.filterMap_nil, List.filterMap_cons, List.getElem?_toArray, List.getElem?_cons_zero, List.getElem?_cons_succ, Option.bind_some, List.nil_append, List.cons_append, Ch.Ob, Ch.chained_get, Option.map_some, List.idxOf?, List.findIdx?, List.findIdx?.go, Nat.reduceBEq, List.getD_cons_zero, List.getD_cons_succ, Nat.reduceAdd, if_true, if_false, Bool.false_eq_true]
            go_simp
            have hal := (Chg.refl Nil w8).alloc (.cells #[.int .i64 bb, .int .i64 be, .slice ra9 fr.length rc9] 41)
            exact hN _ _ ⟨w8.heap.size, rfl, hw8.size, Box.new w8 [.int .i64 bb, .int .i64 be, .slice ra9 fr.length rc9] _⟩ (hal.weak (fun _ h => h.elim)) (fun vs hF => ApF.nil hal vs hF)
          refine Ch.Walk.chain 0 rfl rfl ?_ ?_
          · intro w8 hw8 vs hvs hF N hN
            obtain rfl := List.eq_nil_of_length_eq_zero hvs
            have hF1 : OwnM w8 (.slice la nm.length lc) nm := hF.1
            have hF2 : OwnQ w8 (.slice aa nm.length ac) nm := hF.2
            clear hF
            simp only [Ch.depsOf, List.filterMap_nil, List.filterMap_cons, List.getElem?_toArray, List.getElem?_cons_zero, List.getElem?_cons_succ, Option.bind_some, List.nil_append, List.cons_append, Ch.Ob, Ch.chained_get, Option.map_some, List.idxOf?, List.findIdx?, List.findIdx?.go, Nat.reduceBEq, List.getD_cons_zero, List.getD_cons_succ, Nat.reduceAdd, if_true, if_false, Bool.false_eq_true]
            rintro v ⟨q8, rfl, hq8, hb8⟩
            have hz3 := hw8.size
            refine Ch.if_append_row rfl (.tmp 80) (.tmp 82) 64 64 rfl batT _ Tryz.underlying64 (by intro _; simp) (.slice la nm.length lc) nm.length (nm.flatMap Bm.c3) rfl hF1 (.slice (some ⟨q8, 0, none⟩) 1 1) 1 [.int .i64 bb, .int .i64 be, .slice ra9 fr.length rc9] rfl (Source.box hb8 rfl (c3_one _ _ _ _ _)) (by have := HLEN.out; unfold maxLen; omega) (by have := HLEN.out; omega) (fun v' w' h1 h2 => hN _ _ (h2.chg.weak (fun k hk => .inl (.inl hk))) ?_)
            refine ⟨?_, fun k hk => (h2.own k hk).imp id fun h => ?_, ?_⟩
            · unfold OwnM
              rw [List.length_append, List.flatMap_append, List.flatMap_cons, List.flatMap_nil, List.append_nil]
              exact h1
            · have hz3 : w6.heap.size ≤ w8.heap.size := hz3
              omega
            · exact ownsRow_chg hF2 h2.chg (fun k hk e => ownsRow_ne hF1 hF2 (by decide) e hk)
          simp only [List.nil_append, List.cons_append]
          ((with_reducible apply Ch.Walk.eq); (case hd => rfl); (case hi => rfl); case h => (intro w2 hw2 N hN; simp only [Ch.depsOf, List.filterMap_nil, List.filterMap_cons, List.getElem?_toArray, List.getElem?_cons_zero, List.getElem?_cons_succ, Option.bind_some, List.nil_append, List.cons_append, Ch.Ob]; go_simp; (try go_bits); with_reducible exact hN _ (Chg.refl _ _) (fun _ h => h)))
          ((with_reducible apply Ch.Walk.eq); (case hd => rfl); (case hi => rfl); case h => (intro w2 hw2 N hN; (have hx0 := hw2.cell x0 HNX.out; have hx1 := hw2.cell x1 HNX.out; have hx2 := hw2.cell x2 HNX.out); simp only [Ch.depsOf, List.filterMap_nil, List.filterMap_cons, List.getElem?_toArray, List.getElem?_cons_zero, List.getElem?_cons_succ, Option.bind_some, List.nil_append, List.cons_append, Ch.Ob]; go_simp; (try go_bits); with_reducible exact hN _ (Chg.refl _ _) (fun _ h => h)))
          iterate 3 ((with_reducible apply Ch.Walk.eq); (case hd => rfl); (case hi => rfl); case h => (intro w2 hw2 N hN; simp only [Ch.depsOf, List.filterMap_nil, List.filterMap_cons, List.getElem?_toArray, List.getElem?_cons_zero, List.getElem?_cons_succ, Option.bind_some, List.nil_append, List.cons_append, Ch.Ob]; go_simp; (try go_bits); with_reducible exact hN _ (Chg.refl _ _) (fun _ h => h)))
          simp only [List.nil_append, List.cons_append]
          refine Ch.Walk.sat (fun v w => ∃ q8, v = .slice (some ⟨q8, 0, none⟩) 1 1 ∧ w6.heap.size ≤ q8 ∧ Box w q8 [.int .i64 bb, .int .i64 be, .slice ra9 fr.length rc9, .int .i64 (bl : Nat)] 49) ?_ rfl rfl ?_ ?_
          · rintro v w8 w9 ⟨q8, rfl, hq8, hb8⟩ hc
            exact ⟨q8, rfl, hq8, hb8.chg hc (fun h => by have := HSL.out q8 h; have := HXS.out; omega)⟩
          · intro w8 hw8 N hN
            simp only [Ch.depsOf, List.filterMap_nil, List.filterMap_cons, List.getElem?_toArray, List.getElem?_cons_zero, List.getElem?_cons_succ, Option.bind_some, List.nil_append, List.cons_append, Ch.Ob, Ch.chained_get, Option.map_some, List.idxOf?, List.findIdx?, List.findIdx?.go, Nat.reduceBEq, List.getD_cons_zero, List.getD_cons_succ, Nat.reduceAdd, if_true, if_false, Bool.false_eq_true]
            go_simp
            have hal := (Chg.refl Nil w8).alloc (.cells #[.int .i64 bb, .int .i64 be, .slice ra9 fr.length rc9, .int .i64 (bl : Nat)] 49)
            exact hN _ _ ⟨w8.heap.size, rfl, hw8.size, Box.new w8 [.int .i64 bb, .int .i64 be, .slice ra9 fr.length rc9, .int .i64 (bl : Nat)] _⟩ (hal.weak (fun _ h => h.elim)) (fun vs hF => ApF.nil hal vs hF)
          simp only [List.nil_append, List.cons_append]
          refine Ch.Walk.chainV rfl rfl ?_ ?_
          · intro w8 hw8 v1 hF N hN
            have hF1 : OwnM w8 v1 (nm ++ [⟨⟨bb, be, fr⟩, ra9, rc9⟩]) := hF.1
            have hF3 := hF.2.1
            have hF2 : OwnQ w8 (.slice aa nm.length ac) nm := hF.2.2
            clear hF
            simp only [Ch.depsOf, List.filterMap_nil, List.filterMap_cons, List.getElem?_toArray, List.getElem?_cons_zero, List.getElem?_cons_succ, Option.bind_some, List.nil_append, List.cons_append, Ch.Ob, Ch.chained_get, Option.map_some, List.idxOf?, List.findIdx?, List.findIdx?.go, Nat.reduceBEq, List.getD_cons_zero, List.getD_cons_succ, Nat.reduceAdd, if_true, if_false, Bool.false_eq_true]
            rintro v ⟨q8, rfl, hq8, hb8⟩
            have hz3 := hw8.size
            refine Ch.if_append_row rfl (.tmp 84) (.tmp 89) 36 36 rfl rbtT _ Tryz.underlying36 (by intro _; simp) (.slice aa nm.length ac) nm.length (nm.flatMap Bm.c4) rfl hF2 (.slice (some ⟨q8, 0, none⟩) 1 1) 1 [.int .i64 bb, .int .i64 be, .slice ra9 fr.length rc9, .int .i64 (bl : Nat)] rfl (Source.box hb8 rfl (c4_one _ _ _ _ _ _)) (by have := HLEN.out; unfold maxLen; omega) (by have := HLEN.out; omega) (fun v' w' h1 h2 => hN _ _ (h2.chg.weak (fun k hk => .inl (.inr hk))) ?_)
            refine ⟨?_, hF3, ?_, fun k hk => (h2.own k hk).imp id fun h => ?_⟩
            · exact ownsRow_chg hF1 h2.chg (fun k hk e => ownsRow_ne hF1 hF2 (by decide) hk e)
            · unfold OwnQ
              rw [List.length_append, List.flatMap_append, List.flatMap_cons, List.flatMap_nil, List.append_nil]
              have e4 : Bm.c4 ⟨⟨bb, be, fr⟩, ra9, rc9⟩ = [.int .i64 bb, .int .i64 be, .slice ra9 fr.length rc9, .int .i64 (bl : Nat)] := by unfold Bm.c4; rw [show (Bt.mk bb be fr).bytes.length = bl from HBL.out]
              rw [e4]
              exact h1
            · have hz3 : w6.heap.size ≤ w8.heap.size := hz3
              omega
          simp only [List.nil_append, List.cons_append]
          refine Ch.Walk.chainW rfl rfl ?_ ?_
          · intro w8 hw8 v1 v2 hF N hN
            simp only [Ch.depsOf, List.filterMap_nil, List.filterMap_cons, List.getElem?_toArray, List.getElem?_cons_zero, List.getElem?_cons_succ, Option.bind_some, List.nil_append, List.cons_append, Ch.Ob, Ch.chained_get, Option.map_some, List.idxOf?, List.findIdx?, List.findIdx?.go, Nat.reduceBEq, List.getD_cons_zero, List.getD_cons_succ, Nat.reduceAdd, if_true, if_false, Bool.false_eq_true]
            go_simp
            exact hN _ _ (Chg.refl _ _) ⟨rfl, hF⟩
          intro w8 hw8
          simp only [List.nil_append, List.cons_append, Ch.Fin, List.map_cons, List.map_nil, List.getD_cons_zero, List.getD_cons_succ]
          intro s2 _ v8 _ s9 _ v9 _ v7 _ hF
          have e7 := hF.1
          have HM8 := Lib.hid hF.2.1
          have HMN := Lib.hid hF.2.2.1
          have HQ8 := Lib.hid hF.2.2.2.1
          have HQN := Lib.hid hF.2.2.2.2
          have HW8 := Lib.hid hw8
          clear hF hw8 x0 x1 x2
          subst e7
          simp only [Ch.Then, Oper.wp]
          go_simp
          go_wp2_with fail
          go_roundw
          case rel =>
            have hz1 := HC.out.size
            have hz6 := HC6.out.size
            have hx1 := HX.out
            have hsz : ∀ m : Bm, m.b.bytes.length = bl → (((batBs (nm.map Bm.b)).length : Nat) : Int) + (bl : Nat) = ((batBs ((nm ++ [m]).map Bm.b)).length : Nat) := by
              intro m hm
              rw [List.map_append, batBs_append, List.length_append, List.map_cons, List.map_nil, batBs_cons]
              simp only [batBs, List.flatMap_nil, List.append_nil]
              omega
            have hown : ∀ m : Bm, OwnR 55 w6 (.slice m.ra m.b.rs.length m.rc) m.b.rs → OwnR 55 w8 (.slice m.ra m.b.rs.length m.rc) m.b.rs := by
              intro m hm
              refine ownsRow_chg hm HW8.out ?_
              rintro k hk (h1 | h1)
              · exact ownsRow_ne hm HOL6.out (by decide) hk h1
              · exact ownsRow_ne hm HOQ6.out (by decide) hk h1
            refine ⟨_, i + 1, nm ++ [⟨⟨bb, be, fr⟩, ra9, rc9⟩], rfl, HIL.out, by go_num, ?_, HM8.out, HQ8.out, ⟨?_, ?_, ?_, ?_, ?_, ?_⟩, ?_⟩
            · rw [← hsz ⟨⟨bb, be, fr⟩, ra9, rc9⟩ HBL.out]
            · rw [List.map_append, HT.out.1, HTK.out, ← HFR.out]
              rfl
            · intro m hm
              rcases List.mem_append.1 hm with hm | hm
              · have h1 := HT.out.2.1 m hm
                exact ⟨hown m (ownsRow_chg h1.1 HC6.out (fun _ _ h => h)), h1.2⟩
              · rw [List.mem_singleton.1 hm]
                exact ⟨hown ⟨⟨bb, be, fr⟩, ra9, rc9⟩ HOR6.out, fun k hk => by have := HRN.out k hk; omega⟩
            · intro k hk
              rcases HMN.out k hk with h1 | h1
              · exact HT.out.2.2.1 k h1
              · omega
            · intro k hk
              rcases HQN.out k hk with h1 | h1
              · exact HT.out.2.2.2.1 k h1
              · omega
            · have h1 := hsz ⟨⟨bb, be, fr⟩, ra9, rc9⟩ HBL.out
              have h2 := HT.out.2.2.2.2.1
              have h3 := HB6.out
              omega
            · rw [List.length_append]
              have := HT.out.2.2.2.2.2
              simp only [List.length_cons, List.length_nil]
              omega
            · refine (HC.out.trans HC6.out (fun _ h => h.elim)).trans HW8.out ?_
              rintro k (hk | hk)
              · exact .inr (HT.out.2.2.1 k hk)
              · exact .inr (HT.out.2.2.2.1 k hk)
          case measure => exact meas_two HIL.out
    · have hii : ¬ (i : Int) < (ms.length : Int) := by omega
      have hnb : nm.map Bm.b = ms.map (fun m => m.b.keep evenR) := by
        have h1 := HT.out.1
        rw [show i = ms.length by omega, List.take_length] at h1
        exact h1
      have HNB := Lib.hid hnb
      have hlen : nm.length ≤ 99999 := by have h1 := HT.out.2.2.2.2.2; omega
      have hokL : ∀ m ∈ nm, m.b.Ok := by
        intro m hm
        have h1 : m.b ∈ ms.map (fun m => m.b.keep evenR) := by rw [← hnb]; exact List.mem_map.2 ⟨m, hm, rfl⟩
        obtain ⟨m2, hm2, h2⟩ := List.mem_map.1 h1
        rw [← h2]
        exact (HOK.out m2 hm2).keep evenR
      have hris : rising g.base (nm.map Bm.b) := by
        have h1 : ms.map (fun m => m.b.keep evenR) = (ms.map Bm.b).map (fun b => b.keep evenR) := by rw [List.map_map]; rfl
        rw [hnb, h1]
        exact rising_map (fun b : Bt => b.keep evenR) (fun _ => rfl) (fun _ => rfl) HSD.out.of.up
      have hlaw := rewL_law (nm := fn) (nm2 := fn ++ dotnew) (l0 := ms.map Bm.b) (l := nm.map Bm.b) HSD.out.one HSD.out.fits HSD.out.of HSD.out.name (new_ne fn) HK1.out HK2.out (fun b hb => by obtain ⟨m, hm, rfl⟩ := List.mem_map.1 hb; exact hokL m hm) hris
      have hsg2 := HSD.out.sg.grow HC.out
      have hlt1 := HOL.out.lt
      have hlt2 := HOQ.out.lt
      have hbms : BmsAt wr la nm := by
        obtain ⟨a7, c7, h7, _, hc7⟩ := HOL.out.val
        simp only [Value.slice.injEq] at h7
        obtain ⟨rfl, _, rfl⟩ := h7
        refine ⟨fun i hi => ?_, fun m hm => (HT.out.2.1 m hm).recs⟩
        obtain ⟨g7, ha7, hz7⟩ := hc7 i hi
        exact ⟨g7, 0, ha7, fun j u hj => by rw [Nat.zero_add]; exact hz7 j u hj⟩
      have hrb : ∀ m ∈ nm, m.b.rs ≠ [] → ∀ x, m.ra = some x → w.heap.size ≤ x.block ∧ x.block < wr.heap.size := by
        intro m hm h0 x hx
        have h1 := HT.out.2.1 m hm
        exact ⟨h1.2 _ (rec_block h1.1 h0 hx), h1.recs.lt h0 hx⟩
      have hbin : BmsIn (fun k => KpB n0 q (.slice qa ms.length qc) ms k ∨ (w.heap.size ≤ k ∧ k < wr.heap.size)) la nm := by
        refine ⟨fun hne x hx => .inr ?_, fun m hm h0 x hx => .inr (hrb m hm h0 x hx)⟩
        have h1 : (Value.slice la nm.length lc).ownBlock = some x.block := by rw [hx]; rfl
        exact ⟨HT.out.2.2.1 _ h1, hlt1 _ h1⟩
      have hrw := srewrite_any hsg2 (by rw [HSD.out.name]; exact HNL.out) la lc nm hbms hbin hokL hlen
      rw [HSD.out.name] at hrw
      have HRB := Lib.hid hrb
      have hz1 := HC.out.size
      have HSZ : Hid (n0 ≤ w.heap.size ∧ w.heap.size ≤ wr.heap.size) := ⟨HN0.out, hz1⟩
      have HKN : Hid (∀ k, ¬ (KpB n0 q (.slice qa ms.length qc) ms k ∨ (w.heap.size ≤ k ∧ k < wr.heap.size)) → n0 ≤ k) := fun k hk => Nat.le_of_not_lt fun h => hk (.inl (.inl h))
      have HQL : Hid (q < w.heap.size) := HSD.out.sq.lt q (.inl rfl)
      have hbz2 : (batBs (nm.map Bm.b)).length ≤ 1000000000 := Nat.le_trans HT.out.2.2.2.2.1 (Nat.le_trans (Nat.mul_le_mul_left 6000 (Nat.le_trans hi hml)) (by decide))
      have hfit := HSD.out.fits
      have hrm := HRM.out
      clear hnb hokL hris hsg2 hbms hrb hbin
      by_cases hf : (batBs (ms.map Bm.b)).length + (batBs (nm.map Bm.b)).length ≤ room
      · obtain ⟨d', g', hr, hone', hof', hn', hb'⟩ := hlaw.1 hf
        rw [hr] at hrw
        have HRW := Lib.hid hrw
        have HO1 := Lib.hid hone'
        have HO2 := Lib.hid hof'
        have HO3 := Lib.hid hn'
        have HO4 := Lib.hid hb'
        have hw64 : wrap64 (((batBs (ms.map Bm.b)).length : Nat) + ((batBs (nm.map Bm.b)).length : Nat) : Int) = ((batBs (ms.map Bm.b)).length : Nat) + ((batBs (nm.map Bm.b)).length : Nat) := w64_add HB.out hbz2
        have hgt : ¬ ((room : Int) < ((batBs (ms.map Bm.b)).length : Nat) + ((batBs (nm.map Bm.b)).length : Nat)) := nlt_add hf
        have HF2 : Hid ((batBs (nm.map Bm.b)).length ≤ room) := Nat.le_trans (Nat.le_add_left _ _) hf
        clear hlaw hr hone' hof' hn' hb' hrw hf
        go_wp2_with fail
        refine HRW.out.mono ?_
        rintro e w2 ⟨rfl, ⟨S', v', h9⟩, hc2⟩
        clear q1
        have H9 := Lib.hid h9
        have HC2 := Lib.hid hc2
        have HSQ2 : Hid (Sq w2 q (.slice qa ms.length qc) base ms) := (HSD.out.sq.chg HC.out (fun _ _ h => h)).chg hc2 (fun k hk hn => hn (.inl (.inr hk)))
        have hev : errD 0 = .nilIface := rfl
        rw [hev]
        clear h9 hc2 hev
        go_wp2_with fail
        refine (rsize_any HSQ2.out (by omega) HB.out).mono ?_
        rintro e w3 ⟨rfl, hc3⟩
        have HC3 := Lib.hid hc3
        have HSQ3 := Lib.hid (HSQ2.out.chg hc3 (fun _ _ h => h))
        have b1 := HSQ3.out.c.cell (j := 1) rfl
        have f1 := HSQ3.out.c.free 1
        clear hc3
        go_wp2_with fail
        go_ret
        have hset : Chg (fun k => k = q) w3 (w3.setCell ⟨q, 1, none⟩ (.slice aa nm.length ac)) := (Chg.refl (fun k => k = q) _).setCell (.inl rfl) _
        have hoff : ∀ k, w.heap.size ≤ k → k < wr.heap.size → ¬ Off (fun k => KpB n0 q (.slice qa ms.length qc) ms k ∨ (w.heap.size ≤ k ∧ k < wr.heap.size)) k := fun k h1 h2 hn => hn (.inr ⟨h1, h2⟩)
        have hz := HSZ.out
        have hql := HQL.out
        have hq3 : OwnQ w3 (.slice aa nm.length ac) nm := ownsRow_chg (ownsRow_chg HOQ.out HC2.out (fun k hk => hoff k (HT.out.2.2.2.1 k hk) (hlt2 k hk))) HC3.out (fun _ _ h => h)
        have hq4 : OwnQ (w3.setCell ⟨q, 1, none⟩ (.slice aa nm.length ac)) (.slice aa nm.length ac) nm := ownsRow_chg hq3 hset (fun k hk e => by have := HT.out.2.2.2.1 k hk; omega)
        have hr4 : ∀ m ∈ nm, RecsAt (w3.setCell ⟨q, 1, none⟩ (.slice aa nm.length ac)) m.ra m.b.rs := by
          intro m hm
          have h1 := ((HT.out.2.1 m hm).recs.chg' HC2.out (fun h0 x hx => hoff _ (HRB.out m hm h0 x hx).1 (HRB.out m hm h0 x hx).2)).chg HC3.out (fun _ _ h => h)
          exact h1.chg' hset (fun h0 x hx e => by have := (HRB.out m hm h0 x hx).1; omega)
        refine ⟨rfl, nm, S', v', .slice aa nm.length ac, d', g', ⟨?_, ⟨HSQ3.out.c.set 1 _, hq4, hr4⟩, HO1.out, HO2.out, HO3.out, HO4.out.trans HSD.out.base, HF2.out, ?_, ?_⟩, ?_⟩
        · refine ((H9.out.nil HC3.out).kept (hset.weak (fun k hk => .inl (.inl (.inr (.inl hk)))))).sub ?_
          rintro k (hk | hk | hk | ⟨m, hm, h0, x, hx, rfl⟩)
          · exact .inl (.inl hk)
          · exact .inl (.inr (.inl hk))
          · exact .inr ⟨HT.out.2.2.2.1 k hk, hlt2 k hk⟩
          · exact .inr (HRB.out m hm h0 x hx)
        · rintro k (rfl | hk)
          · exact HSD.out.new _ (.inl rfl)
          · have := HT.out.2.2.2.1 k hk; omega
        · intro m hm h0 x hx
          have h1 := HRB.out m hm h0 x hx
          refine ⟨by omega, fun e => ?_⟩
          exact ownsRow_ne HOQ.out (HT.out.2.1 m hm).1 (by decide) e (rec_block (HT.out.2.1 m hm).1 h0 hx)
        · exact (((HC.out.weak (fun _ h => h.elim)).trans HC2.out (fun k hk => .inl (HKN.out k hk))).trans HC3.out (fun _ h => h.elim)).trans hset (fun k hk => .inl (by rw [hk]; exact HSD.out.new _ (.inl rfl)))
      · obtain ⟨d', hr, hone'⟩ := hlaw.2 hf
        rw [hr] at hrw
        have HRW := Lib.hid hrw
        have HO1 := Lib.hid hone'
        have hw64 : wrap64 (((batBs (ms.map Bm.b)).length : Nat) + ((batBs (nm.map Bm.b)).length : Nat) : Int) = ((batBs (ms.map Bm.b)).length : Nat) + ((batBs (nm.map Bm.b)).length : Nat) := w64_add HB.out hbz2
        have hgt : (room : Int) < ((batBs (ms.map Bm.b)).length : Nat) + ((batBs (nm.map Bm.b)).length : Nat) := lt_add hf
        clear hlaw hr hone' hrw hf
        go_wp2_with fail
        refine HRW.out.mono ?_
        rintro e w2 ⟨rfl, ⟨S', v', h9⟩, hc2⟩
        clear q1
        have H9 := Lib.hid h9
        have HC2 := Lib.hid hc2
        have HSQ2 : Hid (Sq w2 q (.slice qa ms.length qc) base ms) := (HSD.out.sq.chg HC.out (fun _ _ h => h)).chg hc2 (fun k hk hn => hn (.inl (.inr hk)))
        have HG2 : Hid (Handle w2) := (HGL.out.chg HC.out (fun h => h)).chg hc2 (fun hn => hn (.inl (.inl HG0.out)))
        have hev : errD 12 = .iface 32 (.int .i64 12) := rfl
        rw [hev]
        clear h9 hc2 hev
        go_wp2_with fail
        refine (rsize_any HSQ2.out (by omega) HB.out).mono ?_
        rintro e w3 ⟨rfl, hc3⟩
        have HC3 := Lib.hid hc3
        have HBA : Hid (Calls Tryz.prog 7 #[.iface 32 (.int .i64 12), .int .i64 12] w3 fun e w' => e = .returned (.bool true) ∧ Chg Nil w3 w') := lawBare_any 12 w3 (HG2.out.chg hc3 (fun h => h))
        clear hc3
        go_wp2_with fail
        refine HBA.out.mono ?_
        rintro e w4 ⟨rfl, hc4⟩
        have HC4 := Lib.hid hc4
        clear hc4
        go_wp2_with fail
        go_ret
        refine ⟨rfl, ms, S', v', .slice qa ms.length qc, d', g, ⟨?_, (HSQ2.out.chg HC3.out (fun _ _ h => h)).chg HC4.out (fun _ _ h => h), HO1.out, HSD.out.of, HSD.out.name, HSD.out.base, HSD.out.fits, HSD.out.new, HSD.out.apart⟩, ?_⟩
        · exact ((H9.out.nil HC3.out).nil HC4.out).sub (fun k hk => .inl hk)
        · exact (((HC.out.weak (fun _ h => h.elim)).trans HC2.out (fun k hk => .inl (HKN.out k hk))).trans HC3.out (fun _ h => h.elim)).trans HC4.out (fun _ h => h.elim)
end Go.Proofs.YtmaomebnigcgeaaGreatDoor
