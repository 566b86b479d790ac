/-
  What Retain leaves of a log in order, where the disk does not fail; plain. (Of the logs' seat.)
-/
import Derived.Test.YtdjmifaidgbbaaaGreatDoorLb42
import Derived.Test.YtdjmifaidgbbaaaGreatDoorLb37
import Derived.Test.YtdjmifaidgbbaaaGreatDoorLb41
import Derived.Deep.CutBlock
import Derived.Test.YtdjmifaidgbbaaaGreatDoorLb40
set_option linter.unusedSimpArgs false
set_option linter.unusedVariables false
namespace Go.Proofs.YtdjmifaidgbbaaaGreatDoor
open Go.RowKit Go.Lib

theorem LgOk.restart {d : Dk} {g : Lg} {xs : List SgB} (h : LgOk d g xs) (m : Int) (h1 : ∀ x, xs.head? = some x → x.1.base ≤ m) (h2 : m ≤ g.stop) : LgOk d { g with start := m } xs :=
  ⟨h.segs, h.ne, h.each, h.line, h.only, h.kn, h.ok, h1, h2⟩
theorem stop_tail (g : Lg) (s0 s1 : Sg) (r : List Sg) (h : g.segs = s0 :: s1 :: r) : ({ g with segs := s1 :: r } : Lg).stop = g.stop := by
  unfold Lg.stop Lg.last
  rw [h]
  simp
/-- The first segment is taken away. -/
theorem drop_step {d : Dk} {g : Lg} {x0 x1 : SgB} {r : List SgB} (h : LgOk d g (x0 :: x1 :: r)) (hl : d.left = -1) (hb : x1.1.base ≤ g.start) :
    d.remove x0.1.name = (0, d.del x0.1.name) ∧ LgOk (d.del x0.1.name) { g with segs := (x1 :: r).map (·.1) } (x1 :: r) := by
  have h0 := h.each x0 (by simp)
  obtain ⟨sf, hf⟩ := h0.fl
  have hsg : g.segs = x0.1 :: x1.1 :: r.map (·.1) := h.segs
  have hlt := h0.of.lt_next h.line.2.1
  have hne : ∀ y ∈ x1 :: r, y.1.name ≠ x0.1.name := fun y hy e => by
    have hy' := h.each y (List.mem_cons_of_mem _ hy)
    rw [hy'.nm, h0.nm] at e
    have h1 := segName_inj (by have := hy'.hi; omega) (by have := h0.hi; omega) e
    have h2 : x0.1.next ≤ y.1.base := by
      obtain ⟨i, hi, hie⟩ := List.getElem_of_mem hy
      have h3 := lined_take h.of h.line (i + 1) (by simpa using hi) x0 (by simp)
      have h4 : ((x0 :: x1 :: r)[i + 1]'(by simpa using hi)) = y := hie
      rw [h4] at h3
      exact h3
    have := hy'.lo
    have := h0.lo
    omega
  refine ⟨?_, ⟨rfl, by simp, fun y hy => ?_, h.line.2.2, fun n hn hs => ?_, h.kn, h.ok.del _, fun y hy => ?_, ?_⟩⟩
  · unfold Dk.remove Dk.at
    rw [if_neg (by rw [does_true hl]; simp), hf, step_same hl]
  · exact (h.each y (List.mem_cons_of_mem _ hy)).other (by rw [find_del, if_neg (hne y hy)])
  · have hs : ((d.del x0.1.name).find (segName g.dir n)).isSome = true := hs
    rw [find_del] at hs
    split at hs
    · cases hs
    · next hnn =>
      obtain ⟨y, hy, hyb⟩ := h.only n hn hs
      rcases List.mem_cons.1 hy with rfl | hy
      · exfalso
        apply hnn
        rw [h0.nm, hyb, Int.toNat_natCast]
      · exact ⟨y, hy, hyb⟩
  · obtain rfl := Option.some.inj hy
    exact hb
  · have e := stop_tail g x0.1 x1.1 (r.map (·.1)) hsg
    show g.start ≤ ({ g with segs := x1.1 :: r.map (·.1) } : Lg).stop
    rw [e]
    exact h.hi
theorem del_left (d : Dk) (x : Nm) : (d.del x).left = d.left ∧ (d.del x).room = d.room := ⟨rfl, rfl⟩
theorem del_len (d : Dk) (x : Nm) : (d.del x).fs.length ≤ d.fs.length := List.length_filter_le _ _
structure Less (d d' : Dk) (g g' : Lg) : Prop where
  stop : g'.stop = g.stop
  dir : g'.dir = g.dir
  most : g'.most = g.most
  down : g'.down = g.down
  left : d'.left = -1
  room : d'.room = d.room
  used : d'.used ≤ d.used
  files : d'.fs.length ≤ d.fs.length
theorem ret_ok {now age bytes : Int} : ∀ (xs : List SgB) {d : Dk} {g : Lg}, LgOk d g xs → d.left = -1 → (∀ x, xs.head? = some x → g.start = x.1.base) → ∀ (f n : Nat), xs.length ≤ f →
    ∃ k d' g', retGo now age bytes f n d g = (0, n + k, d', g') ∧ k < xs.length ∧ LgOk d' g' (xs.drop k) ∧ (∀ x, (xs.drop k).head? = some x → g'.start = x.1.base) ∧ Less d d' g g'
  | [], d, g, h, _, _, _, _, _ => absurd rfl h.ne
  | [x], d, g, h, hl, hs, f, n, hf => ⟨0, d, g, ret_one (by rw [h.len]; simp), by simp, h, hs, rfl, rfl, rfl, rfl, hl, rfl, Nat.le_refl _, Nat.le_refl _⟩
  | x0 :: x1 :: r, d, g, h, hl, hs, f, n, hf => by
    obtain ⟨f, rfl⟩ : ∃ f2, f = f2 + 1 := ⟨f - 1, by simp only [List.length_cons] at hf; omega⟩
    have hsg : g.segs = x0.1 :: x1.1 :: r.map (·.1) := h.segs
    rw [ret_two hsg]
    by_cases hc : (oldSg now age x0.1 || muchSg bytes g.segs x0.1) = true
    · rw [if_pos hc]
      have hst := hs x0 rfl
      have hlt := (h.of x0 (by simp)).lt_next h.line.2.1
      have hb1 : x1.1.base = x0.1.next := h.line.1
      have hmax : max g.start x1.1.base = x1.1.base := by omega
      have hstop : x1.1.base ≤ g.stop := by
        have h1 := h.next_le x1 (by simp)
        have h2 := (h.of x1 (by simp)).base_next
        omega
      rw [hmax]
      have h1 : LgOk d { g with start := x1.1.base } (x0 :: x1 :: r) := h.restart _ (fun x hx => by obtain rfl := Option.some.inj hx; omega) hstop
      obtain ⟨hrm, h2⟩ := drop_step h1 hl (Int.le_refl _)
      have hgo : ({ ({ g with start := x1.1.base } : Lg) with segs := (x1 :: r).map (·.1) } : Lg).goes = false := by
        unfold Lg.goes
        rcases r with _ | ⟨x2, r⟩
        · rfl
        · have h3 := (h.of x1 (by simp)).lt_next h.line.2.2.2.1
          have h4 : x2.1.base = x1.1.next := h.line.2.2.1
          show decide (x2.1.base ≤ x1.1.base) = false
          exact decide_eq_false (by omega)
      have hdr : dropLg d { g with start := x1.1.base } = (0, d.del x0.1.name, { ({ g with start := x1.1.base } : Lg) with segs := (x1 :: r).map (·.1) }) := by
        rw [drop_go (g := { g with start := x1.1.base }) hsg (Int.le_refl _), hrm, if_pos rfl]
        exact drop_stay hgo
      rw [hdr, if_pos rfl]
      have hst2 := stop_tail ({ g with start := x1.1.base } : Lg) x0.1 x1.1 (r.map (·.1)) hsg
      obtain ⟨k, d', g', e1, e2, e3, e4, e5⟩ := ret_ok (now := now) (age := age) (bytes := bytes) (x1 :: r) h2 (by rw [(del_left d x0.1.name).1]; exact hl) (fun x hx => by obtain rfl := Option.some.inj hx; rfl) f (n + 1) (by simp only [List.length_cons] at hf ⊢; omega)
      refine ⟨k + 1, d', g', ?_, by simp only [List.length_cons] at e2 ⊢; omega, ?_, ?_, ⟨?_, e5.dir, e5.most, e5.down, e5.left, e5.room, Nat.le_trans e5.used (used_filter d _), Nat.le_trans e5.files (del_len d _)⟩⟩
      · show retGo now age bytes f (n + 1) _ _ = _
        rw [e1, Nat.add_assoc, Nat.add_comm 1 k]
      · rw [List.drop_succ_cons]; exact e3
      · rw [List.drop_succ_cons]; exact e4
      · rw [e5.stop]
        exact hst2
    · rw [if_neg hc]
      exact ⟨0, d, g, rfl, by simp, h, hs, rfl, rfl, rfl, rfl, hl, rfl, Nat.le_refl _, Nat.le_refl _⟩
theorem LgOk.fit {d : Dk} {g : Lg} {xs : List SgB} (h : LgOk d g xs) (hdir : g.dir.length ≤ 100) : SegsFit g.segs := by
  intro s hs
  rw [h.segs] at hs
  obtain ⟨x, hx, rfl⟩ := List.mem_map.1 hs
  have hin := h.each x hx
  have hfw := h.few x hx
  refine ⟨?_, by omega, ?_⟩
  · rw [hin.nm]
    exact segName_len ⟨g.dir.toArray⟩ _ (by show g.dir.toArray.size ≤ 100; simp; exact hdir) (by have := hin.hi; omega)
  · obtain ⟨sf, hf⟩ := hin.fl
    have h2 := used_le hf
    have h3 := h.ok.fits
    have h4 := h.ok.room
    have h2 : (batBs x.2).length ≤ d.used := h2
    rw [hin.of.size]
    omega
/-- All that there is, where the start is the first segment's. -/
theorem LgOk.told_all {d : Dk} {g : Lg} {xs : List SgB} (h : LgOk d g xs) (hs : ∀ x, xs.head? = some x → g.start = x.1.base) : recsFrom g.start (allBts xs) = recsOf (allBts xs) := by
  have hu : chainUp g.start xs := lined_up h.of h.line (fun x hx => by rw [hs x hx]; exact Int.le_refl _)
  obtain ⟨h1, h2⟩ := chainUp_rising h.of hu
  exact recsFrom_high h2 (rising_mem h2 h1)
end Go.Proofs.YtdjmifaidgbbaaaGreatDoor

/-
  Whether two rows of numbers are the same. (Of the logs' seat.)
-/
set_option linter.unusedSimpArgs false
set_option linter.unusedVariables false
namespace Go.Proofs.YtdjmifaidgbbaaaGreatDoor
open Go.RowKit Go.Maps

/-- A slice's first cells are these numbers (nil: there are none). -/
def IntsAt (w : World) (a : Option Addr) (l : List Int) : Prop := ∀ i (h : i < l.length), ∃ b off, a = some ⟨b, off, none⟩ ∧ w.cell? ⟨b, off + i, none⟩ = some (.int .i64 l[i])
theorem IntsAt.chg {S : Nat → Prop} {w w' : World} {a : Option Addr} {l : List Int} (hb : IntsAt w a l) (h : Chg S w w') (hn : ∀ x, a = some x → ¬ S x.block) : IntsAt w' a l := by
  intro i hi
  obtain ⟨b, off, ha, hc⟩ := hb i hi
  exact ⟨b, off, ha, h.cell hc (show ¬ S b from hn ⟨b, off, none⟩ ha)⟩
theorem OwnZ.ints {w : World} {a : Option Addr} {n c : Nat} {l : List Int} (h : OwnZ w (.slice a n c) l) : IntsAt w a l := by
  obtain ⟨a', c', he, _, hc⟩ := h.val
  obtain ⟨rfl, _, _⟩ := Value.slice.inj he
  intro i hi
  obtain ⟨g, hg, hz⟩ := hc i hi
  exact ⟨g, 0, hg, by rw [Nat.zero_add]; exact hz⟩
theorem IntsAt.drop {w : World} {b off : Nat} {l : List Int} (h : IntsAt w (some ⟨b, off, none⟩) l) (k : Nat) : IntsAt w (some ⟨b, off + k, none⟩) (l.drop k) := by
  intro i hi
  rw [List.length_drop] at hi
  obtain ⟨b', o', he, hc⟩ := h (k + i) (by omega)
  obtain ⟨rfl, rfl, _⟩ := Addr.mk.inj (Option.some.inj he)
  refine ⟨b, off + k, rfl, ?_⟩
  rw [List.getElem_drop, Nat.add_assoc]
  exact hc

theorem take_eq {l m : List Int} {i : Nat} (h : l.take i = m.take i) (hl : i < l.length) (hm : i < m.length) (e : l[i] = m[i]) : l.take (i + 1) = m.take (i + 1) := by
  rw [List.take_succ_eq_append_getElem hl, List.take_succ_eq_append_getElem hm, h, e]

set_option maxHeartbeats 1000000 in
set_option maxRecDepth 100000 in
theorem sameInts_any (a b : Option Addr) (l m : List Int) (c d : Nat) (w : World) (hl : l.length ≤ 1000000) (hm : m.length ≤ 1000000) (ha : IntsAt w a l) (hb : IntsAt w b m) :
    Calls Tryz.prog 19 #[.slice a l.length c, .slice b m.length d] w fun e w' => e = .returned (.bool (decide (l = m))) ∧ Chg Nil w w' := by
  have HA := Lib.hid ha
  have HB := Lib.hid hb
  clear ha hb
  go_enter Tryz.func19, Tryz.ntmps19
  by_cases hlm : l.length = m.length
  · have hli : (l.length : Int) = (m.length : Int) := by omega
    go_wp2_with fail
    go_loopw [5] (fun i wr => ∃ (wq : World) (k : Nat), wq = wr ∧ k ≤ l.length ∧ i = .int .i64 k ∧ Chg Nil w wr ∧ Hid (l.take k = m.take k)) (fun i _ => l.length - (RowKit.intOf i).toNat)
    case atStart => exact ⟨_, 0, rfl, by omega, rfl, Chg.refl _ _, rfl⟩
    case round =>
      obtain ⟨wr, k, rfl, hk, rfl, hc, HT⟩ := hrel
      by_cases hkl : k < l.length
      · have hki : (k : Int) < (l.length : Int) := by omega
        have hkm : (k : Int) < (m.length : Int) := by omega
        have hkm' : k < m.length := by omega
        obtain ⟨b1, o1, rfl, h1⟩ := HA.out k hkl
        obtain ⟨b2, o2, rfl, h2⟩ := HB.out k hkm'
        have y1 := hc.cell h1 (fun h => h)
        have y2 := hc.cell h2 (fun h => h)
        have HLA : Hid (l[k] = l[k]) := rfl
        obtain ⟨x, hx⟩ : ∃ x, x = l[k] := ⟨_, rfl⟩
        obtain ⟨y, hy⟩ : ∃ y, y = m[k] := ⟨_, rfl⟩
        rw [← hx] at y1
        rw [← hy] at y2
        have HX := Lib.hid hx
        have HY := Lib.hid hy
        clear h1 h2 hx hy
        by_cases hxy : x = y
        · go_upto_region 6 with fail
          go_quiet (fail)
          go_wp2_with fail
          go_roundw
          case rel => exact ⟨_, k + 1, rfl, by omega, by go_num, hc.drewN _, take_eq HT.out hkl hkm' (by rw [← HX.out, ← HY.out, hxy])⟩
          case measure => simp [RowKit.intOf]; omega
        · go_upto_region 6 with fail
          go_quiet (fail)
          go_wp2_with fail
          go_ret
          refine ⟨?_, hc.drewN _⟩
          have : ¬ l = m := fun e => by subst e; exact hxy (by rw [HX.out, HY.out])
          simp [this]
      · have hki : ¬ (k : Int) < (l.length : Int) := by omega
        obtain rfl : k = l.length := by omega
        go_wp2_with fail
        go_ret
        refine ⟨?_, hc⟩
        have h := HT.out
        rw [List.take_length, hlm, List.take_length] at h
        simp [h]
  · have hli : ¬ (l.length : Int) = (m.length : Int) := by omega
    go_wp2_with fail
    go_ret
    have : ¬ l = m := fun e => hlm (by rw [e])
    exact ⟨by simp [this], Chg.refl _ _⟩
end Go.Proofs.YtdjmifaidgbbaaaGreatDoor

/-
  A log with what it has: Retain, Segments; what it tells. (Of the logs' seat.)
-/
set_option linter.unusedSimpArgs false
set_option linter.unusedVariables false
namespace Go.Proofs.YtdjmifaidgbbaaaGreatDoor
open Go.RowKit Go.Maps

def headIs (n : Int) (xs : List SgB) : Prop := ∀ x, xs.head? = some x → n = x.1.base
theorem LgI.head0 {B : Nat → Prop} {w : World} {p l r m : Nat} {g : Lg} {xs : List SgB} (h : LgI B w p l r m g xs) (hs : g.start = 0) : headIs g.start xs := by
  obtain ⟨S, sv, ss, d, _, h2, _⟩ := h
  intro x hx
  have h3 := h2.lo x hx
  have h4 := (h2.each x (List.mem_of_mem_head? hx)).lo
  omega
theorem LgI.toldAll {B : Nat → Prop} {w : World} {p l r m : Nat} {g : Lg} {xs : List SgB} (h : LgI B w p l r m g xs) (hs : headIs g.start xs) : g.told xs = recsOf (allBts xs) := by
  obtain ⟨S, sv, ss, d, _, h2, _⟩ := h
  exact h2.told_all hs
theorem LgI.bOk {B : Nat → Prop} {w : World} {p l r m : Nat} {g : Lg} {xs : List SgB} (h : LgI B w p l r m g xs) : (∀ b ∈ allBts xs, b.Ok) ∧ 0 < xs.length ∧ xs.length ≤ m + 1 ∧ rising 0 (allBts xs) := by
  obtain ⟨S, sv, ss, d, _, h2, _, _, _, _, _, h8⟩ := h
  exact ⟨h2.bts.2, h2.pos, h8, h2.bts.1⟩
theorem LgI.segs {B : Nat → Prop} {w : World} {p l r m : Nat} {g : Lg} {xs : List SgB} (h : LgI B w p l r m g xs) (hm : m ≤ 999) :
    Calls Tryz.prog 17 #[.pointer (some ⟨l, 0, none⟩)] w fun e w' => ∃ v, e = .returned v ∧ OwnZ w' v (xs.map fun x => x.1.base) ∧ (∀ k, v.ownBlock = some k → w.heap.size ≤ k) ∧ Chg Nil w w' := by
  obtain ⟨S, sv, ss, d, h1, h2, h3, h4, h5, h6, h7, h8⟩ := h
  refine (lsegs_any h1.t (by rw [h1.len, h2.len]; omega)).mono ?_
  rintro e w' ⟨v, he, ho, hb, hc⟩
  refine ⟨v, he, ?_, hb, hc⟩
  rw [h2.segs, List.map_map] at ho
  exact ho
theorem LgI.retain {B : Nat → Prop} {w : World} {p l r m : Nat} {g : Lg} {xs : List SgB} (h : LgI B w p l r m g xs) (hs : headIs g.start xs) (hH : Handle w) (hB : B 0) (hdir : g.dir.length ≤ 100) (hm : m ≤ 999) (now age bytes : Int) :
    Calls Tryz.prog 18 #[.pointer (some ⟨l, 0, none⟩), .int .i64 now, .int .i64 age, .int .i64 bytes] w fun e w' => ∃ (k : Nat) (g' : Lg), e = .returned (.tuple #[.int .i64 (k : Nat), .nilIface]) ∧ k < xs.length ∧ LgI B w' p l r m g' (xs.drop k) ∧ headIs g'.start (xs.drop k) ∧ g'.stop = g.stop ∧ g'.dir = g.dir ∧ Chg (Off B) w w' := by
  obtain ⟨S, sv, ss, d, h1, h2, h3, h4, h5, h6, h7, h8⟩ := h
  have hl : ss.length = xs.length := by rw [h1.len, h2.len]
  have hp := h2.pos
  have hR := lretain_any h1 (by omega) (by omega) (h2.fit hdir) hH hB now age bytes
  obtain ⟨k, d', g', e1, e2, e3, e4, e5⟩ := ret_ok (now := now) (age := age) (bytes := bytes) xs h2 h3 hs g.segs.length 0 (by rw [h2.len]; exact Nat.le_refl _)
  have hrl : retLg now age bytes d g = (0, k, d', g') := by
    unfold retLg
    rw [if_neg (by rw [h4]; simp), e1, Nat.zero_add]
  rw [hrl] at hR
  refine hR.mono ?_
  rintro e w' ⟨he, ⟨S', sv', ss', h9, _⟩, hc⟩
  refine ⟨k, g', he, e2, ⟨S', sv', ss', d', h9, e3, e5.left, by rw [e5.down, h4], by rw [e5.room, h5], Nat.le_trans e5.used h6, Nat.le_trans e5.files h7, by rw [List.length_drop]; omega⟩, e4, e5.stop, e5.dir, hc⟩
theorem allBts_split (xs : List SgB) (k : Nat) : recsOf (allBts xs) = recsOf (allBts (xs.take k)) ++ recsOf (allBts (xs.drop k)) := by
  conv => lhs; rw [← List.take_append_drop k xs]
  rw [allBts_append, recsOf_append]
end Go.Proofs.YtdjmifaidgbbaaaGreatDoor
